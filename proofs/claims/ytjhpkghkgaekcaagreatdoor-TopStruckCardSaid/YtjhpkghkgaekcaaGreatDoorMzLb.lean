/- Lemmas on which the claim leans. -/
import Derived.Test.YtjhpkghkgaekcaaGreatDoorMzLa
namespace Go.Mz
open Go.Conc Go.Proofs
def ti0 : TI := ⟨false, 1, 0, Value.tuple #[], .other⟩
theorem ti0_ok : TIOk Tryz.prog 0 ti0 := ⟨agg0, size0, bytes0, zero0, ⟨_, Tryz.underlying0, fun _ e => by cases e⟩⟩
def ti1 : TI := ⟨false, 1, 8, Value.nilFunc, .other⟩
theorem ti1_ok : TIOk Tryz.prog 1 ti1 := ⟨agg1, size1, bytes1, zero1, ⟨_, Tryz.underlying1, fun _ e => by cases e⟩⟩
def ti2 : TI := ⟨false, 1, 8, Value.int IntKind.i64 0, .int .i64⟩
theorem ti2_ok : TIOk Tryz.prog 2 ti2 := ⟨agg2, size2, bytes2, zero2, Tryz.underlying2⟩
def ti3 : TI := ⟨false, 1, 8, Value.int IntKind.i64 0, .int .i64⟩
theorem ti3_ok : TIOk Tryz.prog 3 ti3 := ⟨agg3, size3, bytes3, zero3, Tryz.underlying3⟩
def ti4 : TI := ⟨false, 1, 1, Value.bool Bool.false, .bool⟩
theorem ti4_ok : TIOk Tryz.prog 4 ti4 := ⟨agg4, size4, bytes4, zero4, Tryz.underlying4⟩
def ti5 : TI := ⟨false, 1, 1, Value.int IntKind.u8 0, .int .u8⟩
theorem ti5_ok : TIOk Tryz.prog 5 ti5 := ⟨agg5, size5, bytes5, zero5, Tryz.underlying5⟩
def ti6 : TI := ⟨false, 1, 1, Value.int IntKind.u8 0, .int .u8⟩
theorem ti6_ok : TIOk Tryz.prog 6 ti6 := ⟨agg6, size6, bytes6, zero6, Tryz.underlying6⟩
def ti7 : TI := ⟨true, 4, 24, Value.agg #[Value.int IntKind.i64 0, Value.int IntKind.i64 0, Value.bool Bool.false, Value.int IntKind.u8 0], .str [(0, 2), (1, 3), (2, 4), (3, 6)]⟩
theorem ti7_ok : TIOk Tryz.prog 7 ti7 := ⟨agg7, size7, bytes7, zero7, ⟨_, Tryz.underlying7, rfl⟩⟩
def ti8 : TI := ⟨true, 4, 24, Value.agg #[Value.int IntKind.i64 0, Value.int IntKind.i64 0, Value.bool Bool.false, Value.int IntKind.u8 0], .str [(0, 2), (1, 3), (2, 4), (3, 6)]⟩
theorem ti8_ok : TIOk Tryz.prog 8 ti8 := ⟨agg8, size8, bytes8, zero8, ⟨_, Tryz.underlying8, rfl⟩⟩
def ti9 : TI := ⟨false, 1, 16, Value.string { data := #[] }, .text⟩
theorem ti9_ok : TIOk Tryz.prog 9 ti9 := ⟨agg9, size9, bytes9, zero9, Tryz.underlying9⟩
def ti10 : TI := ⟨false, 1, 16, Value.string { data := #[] }, .text⟩
theorem ti10_ok : TIOk Tryz.prog 10 ti10 := ⟨agg10, size10, bytes10, zero10, Tryz.underlying10⟩
def ti11 : TI := ⟨false, 1, 16, Value.string { data := #[] }, .text⟩
theorem ti11_ok : TIOk Tryz.prog 11 ti11 := ⟨agg11, size11, bytes11, zero11, Tryz.underlying11⟩
def ti12 : TI := ⟨false, 1, 8, Value.int IntKind.u64 0, .int .u64⟩
theorem ti12_ok : TIOk Tryz.prog 12 ti12 := ⟨agg12, size12, bytes12, zero12, Tryz.underlying12⟩
def ti14 : TI := ⟨true, 2, 24, Value.agg #[Value.string { data := #[] }, Value.int IntKind.u64 0], .str [(0, 9), (1, 12)]⟩
theorem ti14_ok : TIOk Tryz.prog 14 ti14 := ⟨agg14, size14, bytes14, zero14, ⟨_, Tryz.underlying14, rfl⟩⟩
def ti15 : TI := ⟨false, 1, 8, Value.pointer Option.none, .ptr 430⟩
theorem ti15_ok : TIOk Tryz.prog 15 ti15 := ⟨agg15, size15, bytes15, zero15, Tryz.underlying15⟩
def ti16 : TI := ⟨false, 1, 8, Value.pointer Option.none, .ptr 433⟩
theorem ti16_ok : TIOk Tryz.prog 16 ti16 := ⟨agg16, size16, bytes16, zero16, Tryz.underlying16⟩
def ti17 : TI := ⟨false, 1, 8, Value.pointer Option.none, .ptr 440⟩
theorem ti17_ok : TIOk Tryz.prog 17 ti17 := ⟨agg17, size17, bytes17, zero17, Tryz.underlying17⟩
def ti19 : TI := ⟨true, 1, 8, Value.agg #[Value.pointer Option.none], .str [(0, 17)]⟩
theorem ti19_ok : TIOk Tryz.prog 19 ti19 := ⟨agg19, size19, bytes19, zero19, ⟨_, Tryz.underlying19, rfl⟩⟩
def ti20 : TI := ⟨false, 1, 16, Value.nilIface, .iface⟩
theorem ti20_ok : TIOk Tryz.prog 20 ti20 := ⟨agg20, size20, bytes20, zero20, ⟨_, Tryz.underlying20⟩⟩
def ti21 : TI := ⟨false, 1, 4, Value.int IntKind.i32 0, .int .i32⟩
theorem ti21_ok : TIOk Tryz.prog 21 ti21 := ⟨agg21, size21, bytes21, zero21, Tryz.underlying21⟩
def ti22 : TI := ⟨false, 1, 24, Value.slice Option.none 0 0, .slice 3⟩
theorem ti22_ok : TIOk Tryz.prog 22 ti22 := ⟨agg22, size22, bytes22, zero22, Tryz.underlying22⟩
def ti23 : TI := ⟨false, 1, 8, Value.pointer Option.none, .ptr 96⟩
theorem ti23_ok : TIOk Tryz.prog 23 ti23 := ⟨agg23, size23, bytes23, zero23, Tryz.underlying23⟩
def ti25 : TI := ⟨false, 1, 24, Value.slice Option.none 0 0, .slice 88⟩
theorem ti25_ok : TIOk Tryz.prog 25 ti25 := ⟨agg25, size25, bytes25, zero25, Tryz.underlying25⟩
def ti26 : TI := ⟨false, 1, 24, Value.slice Option.none 0 0, .slice 35⟩
theorem ti26_ok : TIOk Tryz.prog 26 ti26 := ⟨agg26, size26, bytes26, zero26, Tryz.underlying26⟩
def ti28 : TI := ⟨true, 5, 120, Value.agg #[Value.slice Option.none 0 0, Value.slice Option.none 0 0, Value.slice Option.none 0 0, Value.slice Option.none 0 0, Value.slice Option.none 0 0], .str [(0, 25), (1, 22), (2, 22), (3, 25), (4, 26)]⟩
theorem ti28_ok : TIOk Tryz.prog 28 ti28 := ⟨agg28, size28, bytes28, zero28, ⟨_, Tryz.underlying28, rfl⟩⟩
def ti33 : TI := ⟨false, 1, 24, Value.slice Option.none 0 0, .slice 9⟩
theorem ti33_ok : TIOk Tryz.prog 33 ti33 := ⟨agg33, size33, bytes33, zero33, Tryz.underlying33⟩
def ti35 : TI := ⟨true, 3, 24, Value.agg #[Value.int IntKind.i64 0, Value.int IntKind.i64 0, Value.int IntKind.i64 0], .str [(0, 3), (1, 3), (2, 3)]⟩
theorem ti35_ok : TIOk Tryz.prog 35 ti35 := ⟨agg35, size35, bytes35, zero35, ⟨_, Tryz.underlying35, rfl⟩⟩
def ti38 : TI := ⟨true, 2, 32, Value.agg #[Value.int IntKind.i64 0, Value.slice Option.none 0 0], .str [(0, 3), (1, 22)]⟩
theorem ti38_ok : TIOk Tryz.prog 38 ti38 := ⟨agg38, size38, bytes38, zero38, ⟨_, Tryz.underlying38, rfl⟩⟩
def ti39 : TI := ⟨false, 1, 8, Value.int IntKind.i64 0, .int .i64⟩
theorem ti39_ok : TIOk Tryz.prog 39 ti39 := ⟨agg39, size39, bytes39, zero39, Tryz.underlying39⟩
def ti45 : TI := ⟨false, 1, 24, Value.slice Option.none 0 0, .slice 90⟩
theorem ti45_ok : TIOk Tryz.prog 45 ti45 := ⟨agg45, size45, bytes45, zero45, Tryz.underlying45⟩
def ti46 : TI := ⟨false, 1, 24, Value.slice Option.none 0 0, .slice 126⟩
theorem ti46_ok : TIOk Tryz.prog 46 ti46 := ⟨agg46, size46, bytes46, zero46, Tryz.underlying46⟩
def ti48 : TI := ⟨true, 5, 120, Value.agg #[Value.slice Option.none 0 0, Value.slice Option.none 0 0, Value.slice Option.none 0 0, Value.slice Option.none 0 0, Value.slice Option.none 0 0], .str [(0, 45), (1, 22), (2, 22), (3, 25), (4, 46)]⟩
theorem ti48_ok : TIOk Tryz.prog 48 ti48 := ⟨agg48, size48, bytes48, zero48, ⟨_, Tryz.underlying48, rfl⟩⟩
def ti49 : TI := ⟨false, 1, 24, Value.slice Option.none 0 0, .slice 22⟩
theorem ti49_ok : TIOk Tryz.prog 49 ti49 := ⟨agg49, size49, bytes49, zero49, Tryz.underlying49⟩
def ti50 : TI := ⟨false, 1, 24, Value.slice Option.none 0 0, .slice 68⟩
theorem ti50_ok : TIOk Tryz.prog 50 ti50 := ⟨agg50, size50, bytes50, zero50, Tryz.underlying50⟩
def ti52 : TI := ⟨true, 4, 80, Value.agg #[Value.slice Option.none 0 0, Value.slice Option.none 0 0, Value.int IntKind.i64 0, Value.slice Option.none 0 0], .str [(0, 49), (1, 22), (2, 3), (3, 50)]⟩
theorem ti52_ok : TIOk Tryz.prog 52 ti52 := ⟨agg52, size52, bytes52, zero52, ⟨_, Tryz.underlying52, rfl⟩⟩
def ti56 : TI := ⟨true, 16, 368, Value.agg #[Value.slice Option.none 0 0, Value.slice Option.none 0 0, Value.slice Option.none 0 0, Value.slice Option.none 0 0, Value.slice Option.none 0 0, Value.slice Option.none 0 0, Value.slice Option.none 0 0, Value.slice Option.none 0 0, Value.slice Option.none 0 0, Value.slice Option.none 0 0, Value.slice Option.none 0 0, Value.slice Option.none 0 0, Value.int IntKind.i64 0, Value.slice Option.none 0 0, Value.slice Option.none 0 0, Value.slice Option.none 0 0], .str [(0, 28), (5, 48), (10, 52), (14, 33), (15, 33)]⟩
theorem ti56_ok : TIOk Tryz.prog 56 ti56 := ⟨agg56, size56, bytes56, zero56, ⟨_, Tryz.underlying56, rfl⟩⟩
def ti63 : TI := ⟨false, 1, 8, Value.nilFunc, .other⟩
theorem ti63_ok : TIOk Tryz.prog 63 ti63 := ⟨agg63, size63, bytes63, zero63, ⟨_, Tryz.underlying63, fun _ e => by cases e⟩⟩
def ti68 : TI := ⟨true, 4, 32, Value.agg #[Value.int IntKind.i64 0, Value.int IntKind.i64 0, Value.int IntKind.i64 0, Value.int IntKind.i64 0], .str [(0, 3), (1, 3), (2, 3), (3, 3)]⟩
theorem ti68_ok : TIOk Tryz.prog 68 ti68 := ⟨agg68, size68, bytes68, zero68, ⟨_, Tryz.underlying68, rfl⟩⟩
def ti88 : TI := ⟨true, 2, 16, Value.agg #[Value.int IntKind.i64 0, Value.int IntKind.i64 0], .str [(0, 3), (1, 3)]⟩
theorem ti88_ok : TIOk Tryz.prog 88 ti88 := ⟨agg88, size88, bytes88, zero88, ⟨_, Tryz.underlying88, rfl⟩⟩
def ti90 : TI := ⟨true, 4, 32, Value.agg #[Value.int IntKind.i64 0, Value.int IntKind.i64 0, Value.int IntKind.i64 0, Value.int IntKind.i64 0], .str [(0, 3), (1, 3), (2, 88)]⟩
theorem ti90_ok : TIOk Tryz.prog 90 ti90 := ⟨agg90, size90, bytes90, zero90, ⟨_, Tryz.underlying90, rfl⟩⟩
def ti94 : TI := ⟨false, 1, 8, Value.int IntKind.u64 0, .int .u64⟩
theorem ti94_ok : TIOk Tryz.prog 94 ti94 := ⟨agg94, size94, bytes94, zero94, Tryz.underlying94⟩
def ti96 : TI := ⟨true, 3, 40, Value.agg #[Value.slice Option.none 0 0, Value.int IntKind.i64 0, Value.int IntKind.u64 0], .str [(0, 22), (1, 3), (2, 94)]⟩
theorem ti96_ok : TIOk Tryz.prog 96 ti96 := ⟨agg96, size96, bytes96, zero96, ⟨_, Tryz.underlying96, rfl⟩⟩
def ti106 : TI := ⟨false, 1, 8, Value.pointer Option.none, .ptr 183⟩
theorem ti106_ok : TIOk Tryz.prog 106 ti106 := ⟨agg106, size106, bytes106, zero106, Tryz.underlying106⟩
def ti109 : TI := ⟨false, 1, 1, Value.int IntKind.u8 0, .int .u8⟩
theorem ti109_ok : TIOk Tryz.prog 109 ti109 := ⟨agg109, size109, bytes109, zero109, Tryz.underlying109⟩
def ti112 : TI := ⟨false, 1, 8, Value.pointer Option.none, .ptr 195⟩
theorem ti112_ok : TIOk Tryz.prog 112 ti112 := ⟨agg112, size112, bytes112, zero112, Tryz.underlying112⟩
def ti115 : TI := ⟨false, 1, 8, Value.pointer Option.none, .ptr 123⟩
theorem ti115_ok : TIOk Tryz.prog 115 ti115 := ⟨agg115, size115, bytes115, zero115, Tryz.underlying115⟩
def ti116 : TI := ⟨false, 1, 8, Value.nilFunc, .other⟩
theorem ti116_ok : TIOk Tryz.prog 116 ti116 := ⟨agg116, size116, bytes116, zero116, ⟨_, Tryz.underlying116, fun _ e => by cases e⟩⟩
def ti118 : TI := ⟨true, 4, 32, Value.agg #[Value.pointer Option.none, Value.nilFunc, Value.nilFunc, Value.nilFunc], .str [(0, 115), (1, 116), (2, 116), (3, 116)]⟩
theorem ti118_ok : TIOk Tryz.prog 118 ti118 := ⟨agg118, size118, bytes118, zero118, ⟨_, Tryz.underlying118, rfl⟩⟩
def ti119 : TI := ⟨false, 1, 1, Value.int IntKind.u8 0, .int .u8⟩
theorem ti119_ok : TIOk Tryz.prog 119 ti119 := ⟨agg119, size119, bytes119, zero119, Tryz.underlying119⟩
def ti123 : TI := ⟨true, 14, 320, Value.agg #[Value.slice Option.none 0 0, Value.slice Option.none 0 0, Value.slice Option.none 0 0, Value.slice Option.none 0 0, Value.slice Option.none 0 0, Value.slice Option.none 0 0, Value.slice Option.none 0 0, Value.slice Option.none 0 0, Value.slice Option.none 0 0, Value.slice Option.none 0 0, Value.slice Option.none 0 0, Value.slice Option.none 0 0, Value.int IntKind.i64 0, Value.slice Option.none 0 0], .str [(0, 28), (5, 48), (10, 52)]⟩
theorem ti123_ok : TIOk Tryz.prog 123 ti123 := ⟨agg123, size123, bytes123, zero123, ⟨_, Tryz.underlying123, rfl⟩⟩
def ti126 : TI := ⟨true, 4, 32, Value.agg #[Value.int IntKind.i64 0, Value.int IntKind.i64 0, Value.int IntKind.i64 0, Value.int IntKind.i64 0], .str [(0, 3), (1, 3), (2, 3), (3, 3)]⟩
theorem ti126_ok : TIOk Tryz.prog 126 ti126 := ⟨agg126, size126, bytes126, zero126, ⟨_, Tryz.underlying126, rfl⟩⟩
def ti132 : TI := ⟨true, 4, 80, Value.agg #[Value.slice Option.none 0 0, Value.slice Option.none 0 0, Value.int IntKind.i64 0, Value.slice Option.none 0 0], .str [(0, 52)]⟩
theorem ti132_ok : TIOk Tryz.prog 132 ti132 := ⟨agg132, size132, bytes132, zero132, ⟨_, Tryz.underlying132, rfl⟩⟩
def ti136 : TI := ⟨false, 1, 1, Value.int IntKind.u8 0, .int .u8⟩
theorem ti136_ok : TIOk Tryz.prog 136 ti136 := ⟨agg136, size136, bytes136, zero136, Tryz.underlying136⟩
def ti141 : TI := ⟨false, 1, 8, Value.nilFunc, .other⟩
theorem ti141_ok : TIOk Tryz.prog 141 ti141 := ⟨agg141, size141, bytes141, zero141, ⟨_, Tryz.underlying141, fun _ e => by cases e⟩⟩
def ti142 : TI := ⟨true, 3, 24, Value.agg #[Value.int IntKind.i64 0, Value.int IntKind.i64 0, Value.int IntKind.i64 0], .arr 3 3⟩
theorem ti142_ok : TIOk Tryz.prog 142 ti142 := ⟨agg142, size142, bytes142, zero142, Tryz.underlying142⟩
def ti143 : TI := ⟨true, 3, 24, Value.agg #[Value.int IntKind.i64 0, Value.int IntKind.i64 0, Value.int IntKind.i64 0], .arr 3 3⟩
theorem ti143_ok : TIOk Tryz.prog 143 ti143 := ⟨agg143, size143, bytes143, zero143, Tryz.underlying143⟩
def ti145 : TI := ⟨true, 7, 56, Value.agg #[Value.int IntKind.u8 0, Value.int IntKind.i64 0, Value.int IntKind.i64 0, Value.int IntKind.i64 0, Value.int IntKind.i64 0, Value.int IntKind.i64 0, Value.bool Bool.false], .str [(0, 136), (1, 143), (4, 3), (5, 3), (6, 4)]⟩
theorem ti145_ok : TIOk Tryz.prog 145 ti145 := ⟨agg145, size145, bytes145, zero145, ⟨_, Tryz.underlying145, rfl⟩⟩
def ti147 : TI := ⟨true, 9, 72, Value.agg #[Value.nilFunc, Value.int IntKind.u8 0, Value.int IntKind.i64 0, Value.int IntKind.i64 0, Value.int IntKind.i64 0, Value.int IntKind.i64 0, Value.int IntKind.i64 0, Value.bool Bool.false, Value.bool Bool.false], .str [(0, 141), (1, 145), (8, 4)]⟩
theorem ti147_ok : TIOk Tryz.prog 147 ti147 := ⟨agg147, size147, bytes147, zero147, ⟨_, Tryz.underlying147, rfl⟩⟩
def ti149 : TI := ⟨false, 1, 8, Value.nilFunc, .other⟩
theorem ti149_ok : TIOk Tryz.prog 149 ti149 := ⟨agg149, size149, bytes149, zero149, ⟨_, Tryz.underlying149, fun _ e => by cases e⟩⟩
def ti151 : TI := ⟨false, 1, 24, Value.slice Option.none 0 0, .slice 159⟩
theorem ti151_ok : TIOk Tryz.prog 151 ti151 := ⟨agg151, size151, bytes151, zero151, Tryz.underlying151⟩
def ti153 : TI := ⟨true, 1, 8, Value.agg #[Value.int IntKind.i64 0], .str [(0, 3)]⟩
theorem ti153_ok : TIOk Tryz.prog 153 ti153 := ⟨agg153, size153, bytes153, zero153, ⟨_, Tryz.underlying153, rfl⟩⟩
def ti155 : TI := ⟨true, 1, 8, Value.agg #[Value.int IntKind.i64 0], .str [(0, 3)]⟩
theorem ti155_ok : TIOk Tryz.prog 155 ti155 := ⟨agg155, size155, bytes155, zero155, ⟨_, Tryz.underlying155, rfl⟩⟩
def ti157 : TI := ⟨true, 0, 0, Value.agg #[], .str []⟩
theorem ti157_ok : TIOk Tryz.prog 157 ti157 := ⟨agg157, size157, bytes157, zero157, ⟨_, Tryz.underlying157, rfl⟩⟩
def ti159 : TI := ⟨false, 1, 16, Value.nilIface, .iface⟩
theorem ti159_ok : TIOk Tryz.prog 159 ti159 := ⟨agg159, size159, bytes159, zero159, ⟨_, Tryz.underlying159⟩⟩
def ti161 : TI := ⟨false, 1, 16, Value.nilIface, .iface⟩
theorem ti161_ok : TIOk Tryz.prog 161 ti161 := ⟨agg161, size161, bytes161, zero161, ⟨_, Tryz.underlying161⟩⟩
def ti168 : TI := ⟨true, 0, 0, Value.agg #[], .str []⟩
theorem ti168_ok : TIOk Tryz.prog 168 ti168 := ⟨agg168, size168, bytes168, zero168, ⟨_, Tryz.underlying168, rfl⟩⟩
def ti173 : TI := ⟨false, 1, 8, Value.pointer Option.none, .ptr 232⟩
theorem ti173_ok : TIOk Tryz.prog 173 ti173 := ⟨agg173, size173, bytes173, zero173, Tryz.underlying173⟩
def ti176 : TI := ⟨false, 1, 8, Value.pointer Option.none, .ptr 3⟩
theorem ti176_ok : TIOk Tryz.prog 176 ti176 := ⟨agg176, size176, bytes176, zero176, Tryz.underlying176⟩
def ti180 : TI := ⟨false, 1, 8, Value.int IntKind.u64 0, .int .u64⟩
theorem ti180_ok : TIOk Tryz.prog 180 ti180 := ⟨agg180, size180, bytes180, zero180, Tryz.underlying180⟩
def ti181 : TI := ⟨false, 1, 8, Value.map Option.none, .other⟩
theorem ti181_ok : TIOk Tryz.prog 181 ti181 := ⟨agg181, size181, bytes181, zero181, ⟨_, Tryz.underlying181, fun _ e => by cases e⟩⟩
def ti183 : TI := ⟨true, 6, 128, Value.agg #[Value.slice Option.none 0 0, Value.slice Option.none 0 0, Value.slice Option.none 0 0, Value.slice Option.none 0 0, Value.slice Option.none 0 0, Value.map Option.none], .str [(0, 28), (5, 181)]⟩
theorem ti183_ok : TIOk Tryz.prog 183 ti183 := ⟨agg183, size183, bytes183, zero183, ⟨_, Tryz.underlying183, rfl⟩⟩
def ti185 : TI := ⟨true, 5, 40, Value.agg #[Value.int IntKind.i64 0, Value.int IntKind.i64 0, Value.int IntKind.i64 0, Value.int IntKind.i64 0, Value.int IntKind.i64 0], .arr 5 3⟩
theorem ti185_ok : TIOk Tryz.prog 185 ti185 := ⟨agg185, size185, bytes185, zero185, Tryz.underlying185⟩
def ti186 : TI := ⟨true, 6, 48, Value.agg #[Value.int IntKind.i64 0, Value.int IntKind.i64 0, Value.int IntKind.i64 0, Value.int IntKind.i64 0, Value.int IntKind.i64 0, Value.int IntKind.i64 0], .arr 3 88⟩
theorem ti186_ok : TIOk Tryz.prog 186 ti186 := ⟨agg186, size186, bytes186, zero186, Tryz.underlying186⟩
def ti188 : TI := ⟨true, 12, 96, Value.agg #[Value.int IntKind.i64 0, Value.int IntKind.i64 0, Value.int IntKind.i64 0, Value.int IntKind.i64 0, Value.int IntKind.i64 0, Value.int IntKind.i64 0, Value.int IntKind.i64 0, Value.int IntKind.i64 0, Value.int IntKind.i64 0, Value.int IntKind.i64 0, Value.int IntKind.i64 0, Value.int IntKind.i64 0], .str [(0, 185), (5, 186), (11, 3)]⟩
theorem ti188_ok : TIOk Tryz.prog 188 ti188 := ⟨agg188, size188, bytes188, zero188, ⟨_, Tryz.underlying188, rfl⟩⟩
def ti195 : TI := ⟨true, 17, 392, Value.agg #[Value.slice Option.none 0 0, Value.slice Option.none 0 0, Value.slice Option.none 0 0, Value.slice Option.none 0 0, Value.slice Option.none 0 0, Value.slice Option.none 0 0, Value.slice Option.none 0 0, Value.slice Option.none 0 0, Value.slice Option.none 0 0, Value.slice Option.none 0 0, Value.slice Option.none 0 0, Value.slice Option.none 0 0, Value.int IntKind.i64 0, Value.slice Option.none 0 0, Value.slice Option.none 0 0, Value.slice Option.none 0 0, Value.slice Option.none 0 0], .str [(0, 56), (16, 151)]⟩
theorem ti195_ok : TIOk Tryz.prog 195 ti195 := ⟨agg195, size195, bytes195, zero195, ⟨_, Tryz.underlying195, rfl⟩⟩
def ti202 : TI := ⟨true, 2, 16, Value.agg #[Value.int IntKind.i64 0, Value.int IntKind.i64 0], .arr 2 3⟩
theorem ti202_ok : TIOk Tryz.prog 202 ti202 := ⟨agg202, size202, bytes202, zero202, Tryz.underlying202⟩
def ti209 : TI := ⟨true, 1, 8, Value.agg #[Value.int IntKind.i64 0], .str [(0, 3)]⟩
theorem ti209_ok : TIOk Tryz.prog 209 ti209 := ⟨agg209, size209, bytes209, zero209, ⟨_, Tryz.underlying209, rfl⟩⟩
def ti214 : TI := ⟨true, 1, 8, Value.agg #[Value.int IntKind.i64 0], .str [(0, 39)]⟩
theorem ti214_ok : TIOk Tryz.prog 214 ti214 := ⟨agg214, size214, bytes214, zero214, ⟨_, Tryz.underlying214, rfl⟩⟩
def ti216 : TI := ⟨false, 1, 8, Value.pointer Option.none, .ptr 214⟩
theorem ti216_ok : TIOk Tryz.prog 216 ti216 := ⟨agg216, size216, bytes216, zero216, Tryz.underlying216⟩
def ti218 : TI := ⟨false, 1, 24, Value.slice Option.none 0 0, .slice 145⟩
theorem ti218_ok : TIOk Tryz.prog 218 ti218 := ⟨agg218, size218, bytes218, zero218, Tryz.underlying218⟩
def ti224 : TI := ⟨true, 0, 0, Value.agg #[], .str []⟩
theorem ti224_ok : TIOk Tryz.prog 224 ti224 := ⟨agg224, size224, bytes224, zero224, ⟨_, Tryz.underlying224, rfl⟩⟩
def ti225 : TI := ⟨false, 1, 4, Value.int IntKind.u32 0, .int .u32⟩
theorem ti225_ok : TIOk Tryz.prog 225 ti225 := ⟨agg225, size225, bytes225, zero225, Tryz.underlying225⟩
def ti227 : TI := ⟨true, 2, 8, Value.agg #[Value.int IntKind.i32 0, Value.int IntKind.u32 0], .str [(0, 21), (1, 225)]⟩
theorem ti227_ok : TIOk Tryz.prog 227 ti227 := ⟨agg227, size227, bytes227, zero227, ⟨_, Tryz.underlying227, rfl⟩⟩
def ti229 : TI := ⟨true, 2, 8, Value.agg #[Value.int IntKind.i32 0, Value.int IntKind.u32 0], .str [(0, 224), (0, 227)]⟩
theorem ti229_ok : TIOk Tryz.prog 229 ti229 := ⟨agg229, size229, bytes229, zero229, ⟨_, Tryz.underlying229, rfl⟩⟩
def ti230 : TI := ⟨false, 1, 8, Value.map Option.none, .other⟩
theorem ti230_ok : TIOk Tryz.prog 230 ti230 := ⟨agg230, size230, bytes230, zero230, ⟨_, Tryz.underlying230, fun _ e => by cases e⟩⟩
def ti232 : TI := ⟨true, 8, 136, Value.agg #[Value.slice Option.none 0 0, Value.slice Option.none 0 0, Value.slice Option.none 0 0, Value.slice Option.none 0 0, Value.slice Option.none 0 0, Value.int IntKind.i32 0, Value.int IntKind.u32 0, Value.map Option.none], .str [(0, 48), (5, 229), (7, 230)]⟩
theorem ti232_ok : TIOk Tryz.prog 232 ti232 := ⟨agg232, size232, bytes232, zero232, ⟨_, Tryz.underlying232, rfl⟩⟩
def ti233 : TI := ⟨false, 1, 8, Value.nilFunc, .other⟩
theorem ti233_ok : TIOk Tryz.prog 233 ti233 := ⟨agg233, size233, bytes233, zero233, ⟨_, Tryz.underlying233, fun _ e => by cases e⟩⟩
def ti234 : TI := ⟨false, 1, 8, Value.map Option.none, .other⟩
theorem ti234_ok : TIOk Tryz.prog 234 ti234 := ⟨agg234, size234, bytes234, zero234, ⟨_, Tryz.underlying234, fun _ e => by cases e⟩⟩
def ti236 : TI := ⟨true, 4, 32, Value.agg #[Value.int IntKind.i64 0, Value.int IntKind.i64 0, Value.int IntKind.i64 0, Value.int IntKind.i64 0], .arr 4 3⟩
theorem ti236_ok : TIOk Tryz.prog 236 ti236 := ⟨agg236, size236, bytes236, zero236, Tryz.underlying236⟩
def ti237 : TI := ⟨true, 4, 32, Value.agg #[Value.int IntKind.i64 0, Value.int IntKind.i64 0, Value.int IntKind.i64 0, Value.int IntKind.i64 0], .arr 2 88⟩
theorem ti237_ok : TIOk Tryz.prog 237 ti237 := ⟨agg237, size237, bytes237, zero237, Tryz.underlying237⟩
def ti239 : TI := ⟨true, 9, 72, Value.agg #[Value.int IntKind.i64 0, Value.int IntKind.i64 0, Value.int IntKind.i64 0, Value.int IntKind.i64 0, Value.int IntKind.i64 0, Value.int IntKind.i64 0, Value.int IntKind.i64 0, Value.int IntKind.i64 0, Value.int IntKind.i64 0], .str [(0, 236), (4, 237), (8, 3)]⟩
theorem ti239_ok : TIOk Tryz.prog 239 ti239 := ⟨agg239, size239, bytes239, zero239, ⟨_, Tryz.underlying239, rfl⟩⟩
def ti246 : TI := ⟨false, 1, 24, Value.slice Option.none 0 0, .slice 39⟩
theorem ti246_ok : TIOk Tryz.prog 246 ti246 := ⟨agg246, size246, bytes246, zero246, Tryz.underlying246⟩
def ti252 : TI := ⟨true, 2, 32, Value.agg #[Value.int IntKind.i64 0, Value.slice Option.none 0 0], .str [(0, 38)]⟩
theorem ti252_ok : TIOk Tryz.prog 252 ti252 := ⟨agg252, size252, bytes252, zero252, ⟨_, Tryz.underlying252, rfl⟩⟩
def ti260 : TI := ⟨false, 1, 8, Value.nilFunc, .other⟩
theorem ti260_ok : TIOk Tryz.prog 260 ti260 := ⟨agg260, size260, bytes260, zero260, ⟨_, Tryz.underlying260, fun _ e => by cases e⟩⟩
def ti263 : TI := ⟨true, 10, 80, Value.agg #[Value.int IntKind.i64 0, Value.int IntKind.i64 0, Value.int IntKind.i64 0, Value.int IntKind.i64 0, Value.int IntKind.i64 0, Value.int IntKind.i64 0, Value.int IntKind.i64 0, Value.int IntKind.i64 0, Value.int IntKind.i64 0, Value.int IntKind.i64 0], .str [(0, 143), (3, 143), (6, 143), (9, 3)]⟩
theorem ti263_ok : TIOk Tryz.prog 263 ti263 := ⟨agg263, size263, bytes263, zero263, ⟨_, Tryz.underlying263, rfl⟩⟩
def ti266 : TI := ⟨false, 1, 8, Value.pointer Option.none, .other⟩
theorem ti266_ok : TIOk Tryz.prog 266 ti266 := ⟨agg266, size266, bytes266, zero266, ⟨_, Tryz.underlying266, fun _ e => by cases e⟩⟩
def ti267 : TI := ⟨false, 1, 8, Value.int IntKind.u64 0, .int .u64⟩
theorem ti267_ok : TIOk Tryz.prog 267 ti267 := ⟨agg267, size267, bytes267, zero267, Tryz.underlying267⟩
def ti269 : TI := ⟨true, 3, 24, Value.agg #[Value.pointer Option.none, Value.pointer Option.none, Value.int IntKind.u64 0], .str [(0, 17), (1, 266), (2, 267)]⟩
theorem ti269_ok : TIOk Tryz.prog 269 ti269 := ⟨agg269, size269, bytes269, zero269, ⟨_, Tryz.underlying269, rfl⟩⟩
def ti272 : TI := ⟨false, 1, 16, Value.nilIface, .iface⟩
theorem ti272_ok : TIOk Tryz.prog 272 ti272 := ⟨agg272, size272, bytes272, zero272, ⟨_, Tryz.underlying272⟩⟩
def ti274 : TI := ⟨false, 1, 1, Value.int IntKind.u8 0, .int .u8⟩
theorem ti274_ok : TIOk Tryz.prog 274 ti274 := ⟨agg274, size274, bytes274, zero274, Tryz.underlying274⟩
def ti278 : TI := ⟨false, 1, 8, Value.chan Option.none, .other⟩
theorem ti278_ok : TIOk Tryz.prog 278 ti278 := ⟨agg278, size278, bytes278, zero278, ⟨_, Tryz.underlying278, fun _ e => by cases e⟩⟩
def ti279 : TI := ⟨true, 0, 0, Value.agg #[], .str []⟩
theorem ti279_ok : TIOk Tryz.prog 279 ti279 := ⟨agg279, size279, bytes279, zero279, ⟨_, Tryz.underlying279, rfl⟩⟩
def ti280 : TI := ⟨true, 0, 0, Value.agg #[], .str []⟩
theorem ti280_ok : TIOk Tryz.prog 280 ti280 := ⟨agg280, size280, bytes280, zero280, ⟨_, Tryz.underlying280, rfl⟩⟩
def ti282 : TI := ⟨true, 1, 8, Value.agg #[Value.int IntKind.u64 0], .str [(0, 279), (0, 280), (0, 94)]⟩
theorem ti282_ok : TIOk Tryz.prog 282 ti282 := ⟨agg282, size282, bytes282, zero282, ⟨_, Tryz.underlying282, rfl⟩⟩
def ti284 : TI := ⟨true, 2, 16, Value.agg #[Value.int IntKind.u64 0, Value.int IntKind.u32 0], .str [(0, 224), (0, 282), (1, 225)]⟩
theorem ti284_ok : TIOk Tryz.prog 284 ti284 := ⟨agg284, size284, bytes284, zero284, ⟨_, Tryz.underlying284, rfl⟩⟩
def ti287 : TI := ⟨false, 1, 8, Value.pointer Option.none, .ptr 147⟩
theorem ti287_ok : TIOk Tryz.prog 287 ti287 := ⟨agg287, size287, bytes287, zero287, Tryz.underlying287⟩
def ti289 : TI := ⟨true, 7, 112, Value.agg #[Value.string { data := #[] }, Value.string { data := #[] }, Value.string { data := #[] }, Value.string { data := #[] }, Value.string { data := #[] }, Value.string { data := #[] }, Value.string { data := #[] }], .arr 7 9⟩
theorem ti289_ok : TIOk Tryz.prog 289 ti289 := ⟨agg289, size289, bytes289, zero289, Tryz.underlying289⟩
def ti293 : TI := ⟨true, 0, 0, Value.agg #[], .str []⟩
theorem ti293_ok : TIOk Tryz.prog 293 ti293 := ⟨agg293, size293, bytes293, zero293, ⟨_, Tryz.underlying293, rfl⟩⟩
def ti295 : TI := ⟨false, 1, 16, Value.nilIface, .iface⟩
theorem ti295_ok : TIOk Tryz.prog 295 ti295 := ⟨agg295, size295, bytes295, zero295, ⟨_, Tryz.underlying295⟩⟩
def ti296 : TI := ⟨true, 0, 0, Value.agg #[], .str []⟩
theorem ti296_ok : TIOk Tryz.prog 296 ti296 := ⟨agg296, size296, bytes296, zero296, ⟨_, Tryz.underlying296, rfl⟩⟩
def ti297 : TI := ⟨true, 0, 0, Value.agg #[], .str []⟩
theorem ti297_ok : TIOk Tryz.prog 297 ti297 := ⟨agg297, size297, bytes297, zero297, ⟨_, Tryz.underlying297, rfl⟩⟩
def ti302 : TI := ⟨false, 1, 8, Value.nilFunc, .other⟩
theorem ti302_ok : TIOk Tryz.prog 302 ti302 := ⟨agg302, size302, bytes302, zero302, ⟨_, Tryz.underlying302, fun _ e => by cases e⟩⟩
def ti309 : TI := ⟨false, 1, 8, Value.nilFunc, .other⟩
theorem ti309_ok : TIOk Tryz.prog 309 ti309 := ⟨agg309, size309, bytes309, zero309, ⟨_, Tryz.underlying309, fun _ e => by cases e⟩⟩
def ti310 : TI := ⟨false, 1, 8, Value.nilFunc, .other⟩
theorem ti310_ok : TIOk Tryz.prog 310 ti310 := ⟨agg310, size310, bytes310, zero310, ⟨_, Tryz.underlying310, fun _ e => by cases e⟩⟩
def ti313 : TI := ⟨false, 1, 16, Value.nilIface, .iface⟩
theorem ti313_ok : TIOk Tryz.prog 313 ti313 := ⟨agg313, size313, bytes313, zero313, ⟨_, Tryz.underlying313⟩⟩
def ti316 : TI := ⟨false, 1, 8, Value.pointer Option.none, .ptr 263⟩
theorem ti316_ok : TIOk Tryz.prog 316 ti316 := ⟨agg316, size316, bytes316, zero316, Tryz.underlying316⟩
def ti318 : TI := ⟨true, 1, 8, Value.agg #[Value.pointer Option.none], .str [(0, 17)]⟩
theorem ti318_ok : TIOk Tryz.prog 318 ti318 := ⟨agg318, size318, bytes318, zero318, ⟨_, Tryz.underlying318, rfl⟩⟩
def ti319 : TI := ⟨false, 1, 8, Value.pointer Option.none, .ptr 454⟩
theorem ti319_ok : TIOk Tryz.prog 319 ti319 := ⟨agg319, size319, bytes319, zero319, Tryz.underlying319⟩
def ti323 : TI := ⟨false, 1, 16, Value.nilIface, .iface⟩
theorem ti323_ok : TIOk Tryz.prog 323 ti323 := ⟨agg323, size323, bytes323, zero323, ⟨_, Tryz.underlying323⟩⟩
def ti326 : TI := ⟨false, 1, 16, Value.nilIface, .iface⟩
theorem ti326_ok : TIOk Tryz.prog 326 ti326 := ⟨agg326, size326, bytes326, zero326, ⟨_, Tryz.underlying326⟩⟩
def ti328 : TI := ⟨false, 1, 16, Value.nilIface, .iface⟩
theorem ti328_ok : TIOk Tryz.prog 328 ti328 := ⟨agg328, size328, bytes328, zero328, ⟨_, Tryz.underlying328⟩⟩
def ti329 : TI := ⟨false, 1, 24, Value.slice Option.none 0 0, .slice 161⟩
theorem ti329_ok : TIOk Tryz.prog 329 ti329 := ⟨agg329, size329, bytes329, zero329, Tryz.underlying329⟩
def ti331 : TI := ⟨false, 1, 8, Value.pointer Option.none, .ptr 284⟩
theorem ti331_ok : TIOk Tryz.prog 331 ti331 := ⟨agg331, size331, bytes331, zero331, Tryz.underlying331⟩
def ti333 : TI := ⟨false, 1, 8, Value.int IntKind.i64 0, .int .i64⟩
theorem ti333_ok : TIOk Tryz.prog 333 ti333 := ⟨agg333, size333, bytes333, zero333, Tryz.underlying333⟩
def ti337 : TI := ⟨false, 1, 8, Value.pointer Option.none, .ptr 225⟩
theorem ti337_ok : TIOk Tryz.prog 337 ti337 := ⟨agg337, size337, bytes337, zero337, Tryz.underlying337⟩
def ti346 : TI := ⟨true, 1, 8, Value.agg #[Value.int IntKind.i64 0], .str [(0, 39)]⟩
theorem ti346_ok : TIOk Tryz.prog 346 ti346 := ⟨agg346, size346, bytes346, zero346, ⟨_, Tryz.underlying346, rfl⟩⟩
def ti348 : TI := ⟨false, 1, 24, Value.slice Option.none 0 0, .slice 236⟩
theorem ti348_ok : TIOk Tryz.prog 348 ti348 := ⟨agg348, size348, bytes348, zero348, Tryz.underlying348⟩
def ti350 : TI := ⟨false, 1, 8, Value.nilFunc, .other⟩
theorem ti350_ok : TIOk Tryz.prog 350 ti350 := ⟨agg350, size350, bytes350, zero350, ⟨_, Tryz.underlying350, fun _ e => by cases e⟩⟩
def ti353 : TI := ⟨true, 1, 8, Value.agg #[Value.int IntKind.i64 0], .str [(0, 279), (0, 280), (0, 2)]⟩
theorem ti353_ok : TIOk Tryz.prog 353 ti353 := ⟨agg353, size353, bytes353, zero353, ⟨_, Tryz.underlying353, rfl⟩⟩
def ti358 : TI := ⟨false, 1, 8, Value.nilFunc, .other⟩
theorem ti358_ok : TIOk Tryz.prog 358 ti358 := ⟨agg358, size358, bytes358, zero358, ⟨_, Tryz.underlying358, fun _ e => by cases e⟩⟩
def ti360 : TI := ⟨false, 1, 8, Value.pointer Option.none, .ptr 363⟩
theorem ti360_ok : TIOk Tryz.prog 360 ti360 := ⟨agg360, size360, bytes360, zero360, Tryz.underlying360⟩
def ti361 : TI := ⟨false, 1, 24, Value.slice Option.none 0 0, .slice 5⟩
theorem ti361_ok : TIOk Tryz.prog 361 ti361 := ⟨agg361, size361, bytes361, zero361, Tryz.underlying361⟩
def ti363 : TI := ⟨true, 2, 32, Value.agg #[Value.pointer Option.none, Value.slice Option.none 0 0], .str [(0, 360), (1, 361)]⟩
theorem ti363_ok : TIOk Tryz.prog 363 ti363 := ⟨agg363, size363, bytes363, zero363, ⟨_, Tryz.underlying363, rfl⟩⟩
def ti375 : TI := ⟨true, 2, 16, Value.agg #[Value.int IntKind.i64 0, Value.int IntKind.i64 0], .str [(0, 3), (1, 3)]⟩
theorem ti375_ok : TIOk Tryz.prog 375 ti375 := ⟨agg375, size375, bytes375, zero375, ⟨_, Tryz.underlying375, rfl⟩⟩
def ti377 : TI := ⟨true, 1, 8, Value.agg #[Value.int IntKind.i64 0], .str [(0, 3)]⟩
theorem ti377_ok : TIOk Tryz.prog 377 ti377 := ⟨agg377, size377, bytes377, zero377, ⟨_, Tryz.underlying377, rfl⟩⟩
def ti379 : TI := ⟨true, 2, 16, Value.agg #[Value.int IntKind.i64 0, Value.int IntKind.i64 0], .str [(0, 3), (1, 3)]⟩
theorem ti379_ok : TIOk Tryz.prog 379 ti379 := ⟨agg379, size379, bytes379, zero379, ⟨_, Tryz.underlying379, rfl⟩⟩
def ti381 : TI := ⟨true, 1, 8, Value.agg #[Value.int IntKind.i64 0], .str [(0, 39)]⟩
theorem ti381_ok : TIOk Tryz.prog 381 ti381 := ⟨agg381, size381, bytes381, zero381, ⟨_, Tryz.underlying381, rfl⟩⟩
def ti383 : TI := ⟨false, 1, 8, Value.pointer Option.none, .ptr 282⟩
theorem ti383_ok : TIOk Tryz.prog 383 ti383 := ⟨agg383, size383, bytes383, zero383, Tryz.underlying383⟩
def ti385 : TI := ⟨false, 1, 8, Value.pointer Option.none, .ptr 94⟩
theorem ti385_ok : TIOk Tryz.prog 385 ti385 := ⟨agg385, size385, bytes385, zero385, Tryz.underlying385⟩
def ti389 : TI := ⟨false, 1, 8, Value.nilFunc, .other⟩
theorem ti389_ok : TIOk Tryz.prog 389 ti389 := ⟨agg389, size389, bytes389, zero389, ⟨_, Tryz.underlying389, fun _ e => by cases e⟩⟩
def ti390 : TI := ⟨false, 1, 8, Value.pointer Option.none, .ptr 353⟩
theorem ti390_ok : TIOk Tryz.prog 390 ti390 := ⟨agg390, size390, bytes390, zero390, Tryz.underlying390⟩
def ti392 : TI := ⟨false, 1, 8, Value.pointer Option.none, .ptr 2⟩
theorem ti392_ok : TIOk Tryz.prog 392 ti392 := ⟨agg392, size392, bytes392, zero392, Tryz.underlying392⟩
def ti397 : TI := ⟨false, 1, 8, Value.pointer Option.none, .ptr 5⟩
theorem ti397_ok : TIOk Tryz.prog 397 ti397 := ⟨agg397, size397, bytes397, zero397, Tryz.underlying397⟩
def ti401 : TI := ⟨true, 24, 24, Value.agg #[Value.int IntKind.u8 0, Value.int IntKind.u8 0, Value.int IntKind.u8 0, Value.int IntKind.u8 0, Value.int IntKind.u8 0, Value.int IntKind.u8 0, Value.int IntKind.u8 0, Value.int IntKind.u8 0, Value.int IntKind.u8 0, Value.int IntKind.u8 0, Value.int IntKind.u8 0, Value.int IntKind.u8 0, Value.int IntKind.u8 0, Value.int IntKind.u8 0, Value.int IntKind.u8 0, Value.int IntKind.u8 0, Value.int IntKind.u8 0, Value.int IntKind.u8 0, Value.int IntKind.u8 0, Value.int IntKind.u8 0, Value.int IntKind.u8 0, Value.int IntKind.u8 0, Value.int IntKind.u8 0, Value.int IntKind.u8 0], .arr 24 5⟩
theorem ti401_ok : TIOk Tryz.prog 401 ti401 := ⟨agg401, size401, bytes401, zero401, Tryz.underlying401⟩
def ti406 : TI := ⟨true, 3, 48, Value.agg #[Value.nilIface, Value.nilIface, Value.nilIface], .arr 3 295⟩
theorem ti406_ok : TIOk Tryz.prog 406 ti406 := ⟨agg406, size406, bytes406, zero406, Tryz.underlying406⟩
def ti407 : TI := ⟨false, 1, 8, Value.pointer Option.none, .ptr 229⟩
theorem ti407_ok : TIOk Tryz.prog 407 ti407 := ⟨agg407, size407, bytes407, zero407, Tryz.underlying407⟩
def ti410 : TI := ⟨true, 256, 256, Value.agg (List.toArray (List.append (List.append [Value.int IntKind.u8 0, Value.int IntKind.u8 0, Value.int IntKind.u8 0, Value.int IntKind.u8 0, Value.int IntKind.u8 0, Value.int IntKind.u8 0, Value.int IntKind.u8 0, Value.int IntKind.u8 0, Value.int IntKind.u8 0, Value.int IntKind.u8 0, Value.int IntKind.u8 0, Value.int IntKind.u8 0, Value.int IntKind.u8 0, Value.int IntKind.u8 0, Value.int IntKind.u8 0, Value.int IntKind.u8 0, Value.int IntKind.u8 0, Value.int IntKind.u8 0, Value.int IntKind.u8 0, Value.int IntKind.u8 0, Value.int IntKind.u8 0, Value.int IntKind.u8 0, Value.int IntKind.u8 0, Value.int IntKind.u8 0, Value.int IntKind.u8 0, Value.int IntKind.u8 0, Value.int IntKind.u8 0, Value.int IntKind.u8 0, Value.int IntKind.u8 0, Value.int IntKind.u8 0, Value.int IntKind.u8 0, Value.int IntKind.u8 0, Value.int IntKind.u8 0, Value.int IntKind.u8 0, Value.int IntKind.u8 0, Value.int IntKind.u8 0, Value.int IntKind.u8 0, Value.int IntKind.u8 0, Value.int IntKind.u8 0, Value.int IntKind.u8 0, Value.int IntKind.u8 0, Value.int IntKind.u8 0, Value.int IntKind.u8 0, Value.int IntKind.u8 0, Value.int IntKind.u8 0, Value.int IntKind.u8 0, Value.int IntKind.u8 0, Value.int IntKind.u8 0, Value.int IntKind.u8 0, Value.int IntKind.u8 0, Value.int IntKind.u8 0, Value.int IntKind.u8 0, Value.int IntKind.u8 0, Value.int IntKind.u8 0, Value.int IntKind.u8 0, Value.int IntKind.u8 0, Value.int IntKind.u8 0, Value.int IntKind.u8 0, Value.int IntKind.u8 0, Value.int IntKind.u8 0, Value.int IntKind.u8 0, Value.int IntKind.u8 0, Value.int IntKind.u8 0, Value.int IntKind.u8 0] [Value.int IntKind.u8 0, Value.int IntKind.u8 0, Value.int IntKind.u8 0, Value.int IntKind.u8 0, Value.int IntKind.u8 0, Value.int IntKind.u8 0, Value.int IntKind.u8 0, Value.int IntKind.u8 0, Value.int IntKind.u8 0, Value.int IntKind.u8 0, Value.int IntKind.u8 0, Value.int IntKind.u8 0, Value.int IntKind.u8 0, Value.int IntKind.u8 0, Value.int IntKind.u8 0, Value.int IntKind.u8 0, Value.int IntKind.u8 0, Value.int IntKind.u8 0, Value.int IntKind.u8 0, Value.int IntKind.u8 0, Value.int IntKind.u8 0, Value.int IntKind.u8 0, Value.int IntKind.u8 0, Value.int IntKind.u8 0, Value.int IntKind.u8 0, Value.int IntKind.u8 0, Value.int IntKind.u8 0, Value.int IntKind.u8 0, Value.int IntKind.u8 0, Value.int IntKind.u8 0, Value.int IntKind.u8 0, Value.int IntKind.u8 0, Value.int IntKind.u8 0, Value.int IntKind.u8 0, Value.int IntKind.u8 0, Value.int IntKind.u8 0, Value.int IntKind.u8 0, Value.int IntKind.u8 0, Value.int IntKind.u8 0, Value.int IntKind.u8 0, Value.int IntKind.u8 0, Value.int IntKind.u8 0, Value.int IntKind.u8 0, Value.int IntKind.u8 0, Value.int IntKind.u8 0, Value.int IntKind.u8 0, Value.int IntKind.u8 0, Value.int IntKind.u8 0, Value.int IntKind.u8 0, Value.int IntKind.u8 0, Value.int IntKind.u8 0, Value.int IntKind.u8 0, Value.int IntKind.u8 0, Value.int IntKind.u8 0, Value.int IntKind.u8 0, Value.int IntKind.u8 0, Value.int IntKind.u8 0, Value.int IntKind.u8 0, Value.int IntKind.u8 0, Value.int IntKind.u8 0, Value.int IntKind.u8 0, Value.int IntKind.u8 0, Value.int IntKind.u8 0, Value.int IntKind.u8 0]) (List.append [Value.int IntKind.u8 0, Value.int IntKind.u8 0, Value.int IntKind.u8 0, Value.int IntKind.u8 0, Value.int IntKind.u8 0, Value.int IntKind.u8 0, Value.int IntKind.u8 0, Value.int IntKind.u8 0, Value.int IntKind.u8 0, Value.int IntKind.u8 0, Value.int IntKind.u8 0, Value.int IntKind.u8 0, Value.int IntKind.u8 0, Value.int IntKind.u8 0, Value.int IntKind.u8 0, Value.int IntKind.u8 0, Value.int IntKind.u8 0, Value.int IntKind.u8 0, Value.int IntKind.u8 0, Value.int IntKind.u8 0, Value.int IntKind.u8 0, Value.int IntKind.u8 0, Value.int IntKind.u8 0, Value.int IntKind.u8 0, Value.int IntKind.u8 0, Value.int IntKind.u8 0, Value.int IntKind.u8 0, Value.int IntKind.u8 0, Value.int IntKind.u8 0, Value.int IntKind.u8 0, Value.int IntKind.u8 0, Value.int IntKind.u8 0, Value.int IntKind.u8 0, Value.int IntKind.u8 0, Value.int IntKind.u8 0, Value.int IntKind.u8 0, Value.int IntKind.u8 0, Value.int IntKind.u8 0, Value.int IntKind.u8 0, Value.int IntKind.u8 0, Value.int IntKind.u8 0, Value.int IntKind.u8 0, Value.int IntKind.u8 0, Value.int IntKind.u8 0, Value.int IntKind.u8 0, Value.int IntKind.u8 0, Value.int IntKind.u8 0, Value.int IntKind.u8 0, Value.int IntKind.u8 0, Value.int IntKind.u8 0, Value.int IntKind.u8 0, Value.int IntKind.u8 0, Value.int IntKind.u8 0, Value.int IntKind.u8 0, Value.int IntKind.u8 0, Value.int IntKind.u8 0, Value.int IntKind.u8 0, Value.int IntKind.u8 0, Value.int IntKind.u8 0, Value.int IntKind.u8 0, Value.int IntKind.u8 0, Value.int IntKind.u8 0, Value.int IntKind.u8 0, Value.int IntKind.u8 0] [Value.int IntKind.u8 0, Value.int IntKind.u8 0, Value.int IntKind.u8 0, Value.int IntKind.u8 0, Value.int IntKind.u8 0, Value.int IntKind.u8 0, Value.int IntKind.u8 0, Value.int IntKind.u8 0, Value.int IntKind.u8 0, Value.int IntKind.u8 0, Value.int IntKind.u8 0, Value.int IntKind.u8 0, Value.int IntKind.u8 0, Value.int IntKind.u8 0, Value.int IntKind.u8 0, Value.int IntKind.u8 0, Value.int IntKind.u8 0, Value.int IntKind.u8 0, Value.int IntKind.u8 0, Value.int IntKind.u8 0, Value.int IntKind.u8 0, Value.int IntKind.u8 0, Value.int IntKind.u8 0, Value.int IntKind.u8 0, Value.int IntKind.u8 0, Value.int IntKind.u8 0, Value.int IntKind.u8 0, Value.int IntKind.u8 0, Value.int IntKind.u8 0, Value.int IntKind.u8 0, Value.int IntKind.u8 0, Value.int IntKind.u8 0, Value.int IntKind.u8 0, Value.int IntKind.u8 0, Value.int IntKind.u8 0, Value.int IntKind.u8 0, Value.int IntKind.u8 0, Value.int IntKind.u8 0, Value.int IntKind.u8 0, Value.int IntKind.u8 0, Value.int IntKind.u8 0, Value.int IntKind.u8 0, Value.int IntKind.u8 0, Value.int IntKind.u8 0, Value.int IntKind.u8 0, Value.int IntKind.u8 0, Value.int IntKind.u8 0, Value.int IntKind.u8 0, Value.int IntKind.u8 0, Value.int IntKind.u8 0, Value.int IntKind.u8 0, Value.int IntKind.u8 0, Value.int IntKind.u8 0, Value.int IntKind.u8 0, Value.int IntKind.u8 0, Value.int IntKind.u8 0, Value.int IntKind.u8 0, Value.int IntKind.u8 0, Value.int IntKind.u8 0, Value.int IntKind.u8 0, Value.int IntKind.u8 0, Value.int IntKind.u8 0, Value.int IntKind.u8 0, Value.int IntKind.u8 0]))), .arr 256 5⟩
theorem ti410_ok : TIOk Tryz.prog 410 ti410 := ⟨agg410, size410, bytes410, zero410, Tryz.underlying410⟩
def ti412 : TI := ⟨true, 2, 2, Value.agg #[Value.int IntKind.u8 0, Value.int IntKind.u8 0], .str [(0, 5), (1, 5)]⟩
theorem ti412_ok : TIOk Tryz.prog 412 ti412 := ⟨agg412, size412, bytes412, zero412, ⟨_, Tryz.underlying412, rfl⟩⟩
def ti413 : TI := ⟨true, 32, 32, Value.agg #[Value.int IntKind.u8 0, Value.int IntKind.u8 0, Value.int IntKind.u8 0, Value.int IntKind.u8 0, Value.int IntKind.u8 0, Value.int IntKind.u8 0, Value.int IntKind.u8 0, Value.int IntKind.u8 0, Value.int IntKind.u8 0, Value.int IntKind.u8 0, Value.int IntKind.u8 0, Value.int IntKind.u8 0, Value.int IntKind.u8 0, Value.int IntKind.u8 0, Value.int IntKind.u8 0, Value.int IntKind.u8 0, Value.int IntKind.u8 0, Value.int IntKind.u8 0, Value.int IntKind.u8 0, Value.int IntKind.u8 0, Value.int IntKind.u8 0, Value.int IntKind.u8 0, Value.int IntKind.u8 0, Value.int IntKind.u8 0, Value.int IntKind.u8 0, Value.int IntKind.u8 0, Value.int IntKind.u8 0, Value.int IntKind.u8 0, Value.int IntKind.u8 0, Value.int IntKind.u8 0, Value.int IntKind.u8 0, Value.int IntKind.u8 0], .arr 16 412⟩
theorem ti413_ok : TIOk Tryz.prog 413 ti413 := ⟨agg413, size413, bytes413, zero413, Tryz.underlying413⟩
def ti417 : TI := ⟨true, 20, 160, Value.agg #[Value.int IntKind.u64 0, Value.int IntKind.u64 0, Value.int IntKind.u64 0, Value.int IntKind.u64 0, Value.int IntKind.u64 0, Value.int IntKind.u64 0, Value.int IntKind.u64 0, Value.int IntKind.u64 0, Value.int IntKind.u64 0, Value.int IntKind.u64 0, Value.int IntKind.u64 0, Value.int IntKind.u64 0, Value.int IntKind.u64 0, Value.int IntKind.u64 0, Value.int IntKind.u64 0, Value.int IntKind.u64 0, Value.int IntKind.u64 0, Value.int IntKind.u64 0, Value.int IntKind.u64 0, Value.int IntKind.u64 0], .arr 20 94⟩
theorem ti417_ok : TIOk Tryz.prog 417 ti417 := ⟨agg417, size417, bytes417, zero417, Tryz.underlying417⟩
def ti418 : TI := ⟨true, 65, 65, Value.agg (List.toArray (List.append [Value.int IntKind.u8 0, Value.int IntKind.u8 0, Value.int IntKind.u8 0, Value.int IntKind.u8 0, Value.int IntKind.u8 0, Value.int IntKind.u8 0, Value.int IntKind.u8 0, Value.int IntKind.u8 0, Value.int IntKind.u8 0, Value.int IntKind.u8 0, Value.int IntKind.u8 0, Value.int IntKind.u8 0, Value.int IntKind.u8 0, Value.int IntKind.u8 0, Value.int IntKind.u8 0, Value.int IntKind.u8 0, Value.int IntKind.u8 0, Value.int IntKind.u8 0, Value.int IntKind.u8 0, Value.int IntKind.u8 0, Value.int IntKind.u8 0, Value.int IntKind.u8 0, Value.int IntKind.u8 0, Value.int IntKind.u8 0, Value.int IntKind.u8 0, Value.int IntKind.u8 0, Value.int IntKind.u8 0, Value.int IntKind.u8 0, Value.int IntKind.u8 0, Value.int IntKind.u8 0, Value.int IntKind.u8 0, Value.int IntKind.u8 0] [Value.int IntKind.u8 0, Value.int IntKind.u8 0, Value.int IntKind.u8 0, Value.int IntKind.u8 0, Value.int IntKind.u8 0, Value.int IntKind.u8 0, Value.int IntKind.u8 0, Value.int IntKind.u8 0, Value.int IntKind.u8 0, Value.int IntKind.u8 0, Value.int IntKind.u8 0, Value.int IntKind.u8 0, Value.int IntKind.u8 0, Value.int IntKind.u8 0, Value.int IntKind.u8 0, Value.int IntKind.u8 0, Value.int IntKind.u8 0, Value.int IntKind.u8 0, Value.int IntKind.u8 0, Value.int IntKind.u8 0, Value.int IntKind.u8 0, Value.int IntKind.u8 0, Value.int IntKind.u8 0, Value.int IntKind.u8 0, Value.int IntKind.u8 0, Value.int IntKind.u8 0, Value.int IntKind.u8 0, Value.int IntKind.u8 0, Value.int IntKind.u8 0, Value.int IntKind.u8 0, Value.int IntKind.u8 0, Value.int IntKind.u8 0, Value.int IntKind.u8 0])), .arr 65 5⟩
theorem ti418_ok : TIOk Tryz.prog 418 ti418 := ⟨agg418, size418, bytes418, zero418, Tryz.underlying418⟩
def ti420 : TI := ⟨false, 1, 8, Value.pointer Option.none, .ptr 227⟩
theorem ti420_ok : TIOk Tryz.prog 420 ti420 := ⟨agg420, size420, bytes420, zero420, Tryz.underlying420⟩
def ti422 : TI := ⟨false, 1, 8, Value.pointer Option.none, .ptr 21⟩
theorem ti422_ok : TIOk Tryz.prog 422 ti422 := ⟨agg422, size422, bytes422, zero422, Tryz.underlying422⟩
def ti427 : TI := ⟨true, 32, 32, Value.agg #[Value.int IntKind.u8 0, Value.int IntKind.u8 0, Value.int IntKind.u8 0, Value.int IntKind.u8 0, Value.int IntKind.u8 0, Value.int IntKind.u8 0, Value.int IntKind.u8 0, Value.int IntKind.u8 0, Value.int IntKind.u8 0, Value.int IntKind.u8 0, Value.int IntKind.u8 0, Value.int IntKind.u8 0, Value.int IntKind.u8 0, Value.int IntKind.u8 0, Value.int IntKind.u8 0, Value.int IntKind.u8 0, Value.int IntKind.u8 0, Value.int IntKind.u8 0, Value.int IntKind.u8 0, Value.int IntKind.u8 0, Value.int IntKind.u8 0, Value.int IntKind.u8 0, Value.int IntKind.u8 0, Value.int IntKind.u8 0, Value.int IntKind.u8 0, Value.int IntKind.u8 0, Value.int IntKind.u8 0, Value.int IntKind.u8 0, Value.int IntKind.u8 0, Value.int IntKind.u8 0, Value.int IntKind.u8 0, Value.int IntKind.u8 0], .arr 32 5⟩
theorem ti427_ok : TIOk Tryz.prog 427 ti427 := ⟨agg427, size427, bytes427, zero427, Tryz.underlying427⟩
def ti428 : TI := ⟨true, 64, 64, Value.agg #[Value.int IntKind.u8 0, Value.int IntKind.u8 0, Value.int IntKind.u8 0, Value.int IntKind.u8 0, Value.int IntKind.u8 0, Value.int IntKind.u8 0, Value.int IntKind.u8 0, Value.int IntKind.u8 0, Value.int IntKind.u8 0, Value.int IntKind.u8 0, Value.int IntKind.u8 0, Value.int IntKind.u8 0, Value.int IntKind.u8 0, Value.int IntKind.u8 0, Value.int IntKind.u8 0, Value.int IntKind.u8 0, Value.int IntKind.u8 0, Value.int IntKind.u8 0, Value.int IntKind.u8 0, Value.int IntKind.u8 0, Value.int IntKind.u8 0, Value.int IntKind.u8 0, Value.int IntKind.u8 0, Value.int IntKind.u8 0, Value.int IntKind.u8 0, Value.int IntKind.u8 0, Value.int IntKind.u8 0, Value.int IntKind.u8 0, Value.int IntKind.u8 0, Value.int IntKind.u8 0, Value.int IntKind.u8 0, Value.int IntKind.u8 0, Value.int IntKind.u8 0, Value.int IntKind.u8 0, Value.int IntKind.u8 0, Value.int IntKind.u8 0, Value.int IntKind.u8 0, Value.int IntKind.u8 0, Value.int IntKind.u8 0, Value.int IntKind.u8 0, Value.int IntKind.u8 0, Value.int IntKind.u8 0, Value.int IntKind.u8 0, Value.int IntKind.u8 0, Value.int IntKind.u8 0, Value.int IntKind.u8 0, Value.int IntKind.u8 0, Value.int IntKind.u8 0, Value.int IntKind.u8 0, Value.int IntKind.u8 0, Value.int IntKind.u8 0, Value.int IntKind.u8 0, Value.int IntKind.u8 0, Value.int IntKind.u8 0, Value.int IntKind.u8 0, Value.int IntKind.u8 0, Value.int IntKind.u8 0, Value.int IntKind.u8 0, Value.int IntKind.u8 0, Value.int IntKind.u8 0, Value.int IntKind.u8 0, Value.int IntKind.u8 0, Value.int IntKind.u8 0, Value.int IntKind.u8 0], .arr 64 5⟩
theorem ti428_ok : TIOk Tryz.prog 428 ti428 := ⟨agg428, size428, bytes428, zero428, Tryz.underlying428⟩
def ti430 : TI := ⟨true, 4, 40, Value.agg #[Value.pointer Option.none, Value.pointer Option.none, Value.pointer Option.none, Value.string { data := #[] }], .str [(0, 17), (1, 17), (2, 17), (3, 9)]⟩
theorem ti430_ok : TIOk Tryz.prog 430 ti430 := ⟨agg430, size430, bytes430, zero430, ⟨_, Tryz.underlying430, rfl⟩⟩
def ti431 : TI := ⟨true, 0, 0, Value.agg #[], .arr 0 16⟩
theorem ti431_ok : TIOk Tryz.prog 431 ti431 := ⟨agg431, size431, bytes431, zero431, Tryz.underlying431⟩
def ti433 : TI := ⟨true, 0, 0, Value.agg #[], .str [(0, 431)]⟩
theorem ti433_ok : TIOk Tryz.prog 433 ti433 := ⟨agg433, size433, bytes433, zero433, ⟨_, Tryz.underlying433, rfl⟩⟩
def ti435 : TI := ⟨false, 1, 1, Value.int IntKind.u8 0, .int .u8⟩
theorem ti435_ok : TIOk Tryz.prog 435 ti435 := ⟨agg435, size435, bytes435, zero435, Tryz.underlying435⟩
def ti436 : TI := ⟨false, 1, 8, Value.nilFunc, .other⟩
theorem ti436_ok : TIOk Tryz.prog 436 ti436 := ⟨agg436, size436, bytes436, zero436, ⟨_, Tryz.underlying436, fun _ e => by cases e⟩⟩
def ti437 : TI := ⟨false, 1, 4, Value.int IntKind.i32 0, .int .i32⟩
theorem ti437_ok : TIOk Tryz.prog 437 ti437 := ⟨agg437, size437, bytes437, zero437, Tryz.underlying437⟩
def ti438 : TI := ⟨false, 1, 4, Value.int IntKind.i32 0, .int .i32⟩
theorem ti438_ok : TIOk Tryz.prog 438 ti438 := ⟨agg438, size438, bytes438, zero438, Tryz.underlying438⟩
def ti440 : TI := ⟨true, 11, 48, Value.agg #[Value.int IntKind.u64 0, Value.int IntKind.u64 0, Value.int IntKind.u32 0, Value.int IntKind.u8 0, Value.int IntKind.u8 0, Value.int IntKind.u8 0, Value.int IntKind.u8 0, Value.nilFunc, Value.pointer Option.none, Value.int IntKind.i32 0, Value.int IntKind.i32 0], .str [(0, 12), (1, 12), (2, 225), (3, 435), (4, 5), (5, 5), (6, 274), (7, 436), (8, 397), (9, 437), (10, 438)]⟩
theorem ti440_ok : TIOk Tryz.prog 440 ti440 := ⟨agg440, size440, bytes440, zero440, ⟨_, Tryz.underlying440, rfl⟩⟩
def ti447 : TI := ⟨true, 3, 24, Value.agg #[Value.int IntKind.i64 0, Value.int IntKind.i64 0, Value.bool Bool.false], .str [(0, 3), (1, 3), (2, 4)]⟩
theorem ti447_ok : TIOk Tryz.prog 447 ti447 := ⟨agg447, size447, bytes447, zero447, ⟨_, Tryz.underlying447, rfl⟩⟩
def ti449 : TI := ⟨false, 1, 8, Value.pointer Option.none, .ptr 447⟩
theorem ti449_ok : TIOk Tryz.prog 449 ti449 := ⟨agg449, size449, bytes449, zero449, Tryz.underlying449⟩
def ti454 : TI := ⟨true, 2, 24, Value.agg #[Value.string { data := #[] }, Value.int IntKind.u8 0], .str [(0, 9), (1, 274)]⟩
theorem ti454_ok : TIOk Tryz.prog 454 ti454 := ⟨agg454, size454, bytes454, zero454, ⟨_, Tryz.underlying454, rfl⟩⟩
def ti455 : TI := ⟨false, 1, 8, Value.pointer Option.none, .ptr 459⟩
theorem ti455_ok : TIOk Tryz.prog 455 ti455 := ⟨agg455, size455, bytes455, zero455, Tryz.underlying455⟩
def ti457 : TI := ⟨false, 1, 2, Value.int IntKind.u16 0, .int .u16⟩
theorem ti457_ok : TIOk Tryz.prog 457 ti457 := ⟨agg457, size457, bytes457, zero457, Tryz.underlying457⟩
def ti459 : TI := ⟨true, 5, 16, Value.agg #[Value.int IntKind.i32 0, Value.int IntKind.u16 0, Value.int IntKind.u16 0, Value.int IntKind.u32 0, Value.int IntKind.u32 0], .str [(0, 437), (1, 457), (2, 457), (3, 225), (4, 225)]⟩
theorem ti459_ok : TIOk Tryz.prog 459 ti459 := ⟨agg459, size459, bytes459, zero459, ⟨_, Tryz.underlying459, rfl⟩⟩
def ti460 : TI := ⟨false, 1, 24, Value.slice Option.none 0 0, .slice 463⟩
theorem ti460_ok : TIOk Tryz.prog 460 ti460 := ⟨agg460, size460, bytes460, zero460, Tryz.underlying460⟩
def ti461 : TI := ⟨false, 1, 4, Value.int IntKind.i32 0, .int .i32⟩
theorem ti461_ok : TIOk Tryz.prog 461 ti461 := ⟨agg461, size461, bytes461, zero461, Tryz.underlying461⟩
def ti463 : TI := ⟨true, 4, 16, Value.agg #[Value.int IntKind.i32 0, Value.int IntKind.i32 0, Value.int IntKind.i32 0, Value.int IntKind.i32 0], .str [(0, 437), (1, 438), (2, 461), (3, 461)]⟩
theorem ti463_ok : TIOk Tryz.prog 463 ti463 := ⟨agg463, size463, bytes463, zero463, ⟨_, Tryz.underlying463, rfl⟩⟩
def ti464 : TI := ⟨false, 1, 8, Value.pointer Option.none, .ptr 161⟩
theorem ti464_ok : TIOk Tryz.prog 464 ti464 := ⟨agg464, size464, bytes464, zero464, Tryz.underlying464⟩
def tau : TT := (.node (.node (.node (.node (.node (.node (.node (.node .nil 0 ti0 .nil) 1 ti1 .nil) 2 ti2 (.node (.node .nil 3 ti3 .nil) 4 ti4 .nil)) 5 ti5 (.node (.node (.node .nil 6 ti6 .nil) 7 ti7 .nil) 8 ti8 (.node .nil 9 ti9 .nil))) 10 ti10 (.node (.node (.node (.node .nil 11 ti11 .nil) 12 ti12 .nil) 14 ti14 (.node (.node .nil 15 ti15 .nil) 16 ti16 .nil)) 17 ti17 (.node (.node (.node .nil 19 ti19 .nil) 20 ti20 .nil) 21 ti21 (.node .nil 22 ti22 .nil)))) 23 ti23 (.node (.node (.node (.node (.node .nil 25 ti25 .nil) 26 ti26 .nil) 28 ti28 (.node (.node .nil 33 ti33 .nil) 35 ti35 .nil)) 38 ti38 (.node (.node (.node .nil 39 ti39 .nil) 45 ti45 .nil) 46 ti46 (.node .nil 48 ti48 .nil))) 49 ti49 (.node (.node (.node (.node .nil 50 ti50 .nil) 52 ti52 .nil) 56 ti56 (.node (.node .nil 63 ti63 .nil) 68 ti68 .nil)) 88 ti88 (.node (.node (.node .nil 90 ti90 .nil) 94 ti94 .nil) 96 ti96 (.node .nil 106 ti106 .nil))))) 109 ti109 (.node (.node (.node (.node (.node (.node .nil 112 ti112 .nil) 115 ti115 .nil) 116 ti116 (.node (.node .nil 118 ti118 .nil) 119 ti119 .nil)) 123 ti123 (.node (.node (.node .nil 126 ti126 .nil) 132 ti132 .nil) 136 ti136 (.node .nil 141 ti141 .nil))) 142 ti142 (.node (.node (.node (.node .nil 143 ti143 .nil) 145 ti145 .nil) 147 ti147 (.node (.node .nil 149 ti149 .nil) 151 ti151 .nil)) 153 ti153 (.node (.node (.node .nil 155 ti155 .nil) 157 ti157 .nil) 159 ti159 (.node .nil 161 ti161 .nil)))) 168 ti168 (.node (.node (.node (.node (.node .nil 173 ti173 .nil) 176 ti176 .nil) 180 ti180 (.node (.node .nil 181 ti181 .nil) 183 ti183 .nil)) 185 ti185 (.node (.node (.node .nil 186 ti186 .nil) 188 ti188 .nil) 195 ti195 (.node .nil 202 ti202 .nil))) 209 ti209 (.node (.node (.node (.node .nil 214 ti214 .nil) 216 ti216 .nil) 218 ti218 (.node .nil 224 ti224 .nil)) 225 ti225 (.node (.node (.node .nil 227 ti227 .nil) 229 ti229 .nil) 230 ti230 (.node .nil 232 ti232 .nil)))))) 233 ti233 (.node (.node (.node (.node (.node (.node (.node .nil 234 ti234 .nil) 236 ti236 .nil) 237 ti237 (.node (.node .nil 239 ti239 .nil) 246 ti246 .nil)) 252 ti252 (.node (.node (.node .nil 260 ti260 .nil) 263 ti263 .nil) 266 ti266 (.node .nil 267 ti267 .nil))) 269 ti269 (.node (.node (.node (.node .nil 272 ti272 .nil) 274 ti274 .nil) 278 ti278 (.node (.node .nil 279 ti279 .nil) 280 ti280 .nil)) 282 ti282 (.node (.node (.node .nil 284 ti284 .nil) 287 ti287 .nil) 289 ti289 (.node .nil 293 ti293 .nil)))) 295 ti295 (.node (.node (.node (.node (.node .nil 296 ti296 .nil) 297 ti297 .nil) 302 ti302 (.node (.node .nil 309 ti309 .nil) 310 ti310 .nil)) 313 ti313 (.node (.node (.node .nil 316 ti316 .nil) 318 ti318 .nil) 319 ti319 (.node .nil 323 ti323 .nil))) 326 ti326 (.node (.node (.node (.node .nil 328 ti328 .nil) 329 ti329 .nil) 331 ti331 (.node (.node .nil 333 ti333 .nil) 337 ti337 .nil)) 346 ti346 (.node (.node (.node .nil 348 ti348 .nil) 350 ti350 .nil) 353 ti353 (.node .nil 358 ti358 .nil))))) 360 ti360 (.node (.node (.node (.node (.node (.node .nil 361 ti361 .nil) 363 ti363 .nil) 375 ti375 (.node (.node .nil 377 ti377 .nil) 379 ti379 .nil)) 381 ti381 (.node (.node (.node .nil 383 ti383 .nil) 385 ti385 .nil) 389 ti389 (.node .nil 390 ti390 .nil))) 392 ti392 (.node (.node (.node (.node .nil 397 ti397 .nil) 401 ti401 .nil) 406 ti406 (.node (.node .nil 407 ti407 .nil) 410 ti410 .nil)) 412 ti412 (.node (.node (.node .nil 413 ti413 .nil) 417 ti417 .nil) 418 ti418 (.node .nil 420 ti420 .nil)))) 422 ti422 (.node (.node (.node (.node (.node .nil 427 ti427 .nil) 428 ti428 .nil) 430 ti430 (.node (.node .nil 431 ti431 .nil) 433 ti433 .nil)) 435 ti435 (.node (.node (.node .nil 436 ti436 .nil) 437 ti437 .nil) 438 ti438 (.node .nil 440 ti440 .nil))) 447 ti447 (.node (.node (.node (.node .nil 449 ti449 .nil) 454 ti454 .nil) 455 ti455 (.node .nil 457 ti457 .nil)) 459 ti459 (.node (.node (.node .nil 460 ti460 .nil) 461 ti461 .nil) 463 ti463 (.node .nil 464 ti464 .nil)))))))
theorem tauOk : tau.Ok Tryz.prog := ⟨⟨⟨⟨⟨⟨⟨⟨trivial, ti0_ok, trivial⟩, ti1_ok, trivial⟩, ti2_ok, ⟨⟨trivial, ti3_ok, trivial⟩, ti4_ok, trivial⟩⟩, ti5_ok, ⟨⟨⟨trivial, ti6_ok, trivial⟩, ti7_ok, trivial⟩, ti8_ok, ⟨trivial, ti9_ok, trivial⟩⟩⟩, ti10_ok, ⟨⟨⟨⟨trivial, ti11_ok, trivial⟩, ti12_ok, trivial⟩, ti14_ok, ⟨⟨trivial, ti15_ok, trivial⟩, ti16_ok, trivial⟩⟩, ti17_ok, ⟨⟨⟨trivial, ti19_ok, trivial⟩, ti20_ok, trivial⟩, ti21_ok, ⟨trivial, ti22_ok, trivial⟩⟩⟩⟩, ti23_ok, ⟨⟨⟨⟨⟨trivial, ti25_ok, trivial⟩, ti26_ok, trivial⟩, ti28_ok, ⟨⟨trivial, ti33_ok, trivial⟩, ti35_ok, trivial⟩⟩, ti38_ok, ⟨⟨⟨trivial, ti39_ok, trivial⟩, ti45_ok, trivial⟩, ti46_ok, ⟨trivial, ti48_ok, trivial⟩⟩⟩, ti49_ok, ⟨⟨⟨⟨trivial, ti50_ok, trivial⟩, ti52_ok, trivial⟩, ti56_ok, ⟨⟨trivial, ti63_ok, trivial⟩, ti68_ok, trivial⟩⟩, ti88_ok, ⟨⟨⟨trivial, ti90_ok, trivial⟩, ti94_ok, trivial⟩, ti96_ok, ⟨trivial, ti106_ok, trivial⟩⟩⟩⟩⟩, ti109_ok, ⟨⟨⟨⟨⟨⟨trivial, ti112_ok, trivial⟩, ti115_ok, trivial⟩, ti116_ok, ⟨⟨trivial, ti118_ok, trivial⟩, ti119_ok, trivial⟩⟩, ti123_ok, ⟨⟨⟨trivial, ti126_ok, trivial⟩, ti132_ok, trivial⟩, ti136_ok, ⟨trivial, ti141_ok, trivial⟩⟩⟩, ti142_ok, ⟨⟨⟨⟨trivial, ti143_ok, trivial⟩, ti145_ok, trivial⟩, ti147_ok, ⟨⟨trivial, ti149_ok, trivial⟩, ti151_ok, trivial⟩⟩, ti153_ok, ⟨⟨⟨trivial, ti155_ok, trivial⟩, ti157_ok, trivial⟩, ti159_ok, ⟨trivial, ti161_ok, trivial⟩⟩⟩⟩, ti168_ok, ⟨⟨⟨⟨⟨trivial, ti173_ok, trivial⟩, ti176_ok, trivial⟩, ti180_ok, ⟨⟨trivial, ti181_ok, trivial⟩, ti183_ok, trivial⟩⟩, ti185_ok, ⟨⟨⟨trivial, ti186_ok, trivial⟩, ti188_ok, trivial⟩, ti195_ok, ⟨trivial, ti202_ok, trivial⟩⟩⟩, ti209_ok, ⟨⟨⟨⟨trivial, ti214_ok, trivial⟩, ti216_ok, trivial⟩, ti218_ok, ⟨trivial, ti224_ok, trivial⟩⟩, ti225_ok, ⟨⟨⟨trivial, ti227_ok, trivial⟩, ti229_ok, trivial⟩, ti230_ok, ⟨trivial, ti232_ok, trivial⟩⟩⟩⟩⟩⟩, ti233_ok, ⟨⟨⟨⟨⟨⟨⟨trivial, ti234_ok, trivial⟩, ti236_ok, trivial⟩, ti237_ok, ⟨⟨trivial, ti239_ok, trivial⟩, ti246_ok, trivial⟩⟩, ti252_ok, ⟨⟨⟨trivial, ti260_ok, trivial⟩, ti263_ok, trivial⟩, ti266_ok, ⟨trivial, ti267_ok, trivial⟩⟩⟩, ti269_ok, ⟨⟨⟨⟨trivial, ti272_ok, trivial⟩, ti274_ok, trivial⟩, ti278_ok, ⟨⟨trivial, ti279_ok, trivial⟩, ti280_ok, trivial⟩⟩, ti282_ok, ⟨⟨⟨trivial, ti284_ok, trivial⟩, ti287_ok, trivial⟩, ti289_ok, ⟨trivial, ti293_ok, trivial⟩⟩⟩⟩, ti295_ok, ⟨⟨⟨⟨⟨trivial, ti296_ok, trivial⟩, ti297_ok, trivial⟩, ti302_ok, ⟨⟨trivial, ti309_ok, trivial⟩, ti310_ok, trivial⟩⟩, ti313_ok, ⟨⟨⟨trivial, ti316_ok, trivial⟩, ti318_ok, trivial⟩, ti319_ok, ⟨trivial, ti323_ok, trivial⟩⟩⟩, ti326_ok, ⟨⟨⟨⟨trivial, ti328_ok, trivial⟩, ti329_ok, trivial⟩, ti331_ok, ⟨⟨trivial, ti333_ok, trivial⟩, ti337_ok, trivial⟩⟩, ti346_ok, ⟨⟨⟨trivial, ti348_ok, trivial⟩, ti350_ok, trivial⟩, ti353_ok, ⟨trivial, ti358_ok, trivial⟩⟩⟩⟩⟩, ti360_ok, ⟨⟨⟨⟨⟨⟨trivial, ti361_ok, trivial⟩, ti363_ok, trivial⟩, ti375_ok, ⟨⟨trivial, ti377_ok, trivial⟩, ti379_ok, trivial⟩⟩, ti381_ok, ⟨⟨⟨trivial, ti383_ok, trivial⟩, ti385_ok, trivial⟩, ti389_ok, ⟨trivial, ti390_ok, trivial⟩⟩⟩, ti392_ok, ⟨⟨⟨⟨trivial, ti397_ok, trivial⟩, ti401_ok, trivial⟩, ti406_ok, ⟨⟨trivial, ti407_ok, trivial⟩, ti410_ok, trivial⟩⟩, ti412_ok, ⟨⟨⟨trivial, ti413_ok, trivial⟩, ti417_ok, trivial⟩, ti418_ok, ⟨trivial, ti420_ok, trivial⟩⟩⟩⟩, ti422_ok, ⟨⟨⟨⟨⟨trivial, ti427_ok, trivial⟩, ti428_ok, trivial⟩, ti430_ok, ⟨⟨trivial, ti431_ok, trivial⟩, ti433_ok, trivial⟩⟩, ti435_ok, ⟨⟨⟨trivial, ti436_ok, trivial⟩, ti437_ok, trivial⟩, ti438_ok, ⟨trivial, ti440_ok, trivial⟩⟩⟩, ti447_ok, ⟨⟨⟨⟨trivial, ti449_ok, trivial⟩, ti454_ok, trivial⟩, ti455_ok, ⟨trivial, ti457_ok, trivial⟩⟩, ti459_ok, ⟨⟨⟨trivial, ti460_ok, trivial⟩, ti461_ok, trivial⟩, ti463_ok, ⟨trivial, ti464_ok, trivial⟩⟩⟩⟩⟩⟩⟩
instance : Seat Tryz.prog := ⟨tau, tauOk⟩
end Go.Mz


namespace Go.Mz
open Go
structure Shelf where
 lift : Int
 room : Int
structure Cone where
 wet : Int
 cold : Int
 jump : Int
 most : Int
structure Stand where
 shelf : Int
 day : Int
deriving DecidableEq
structure St where
 shelves : List Shelf
 cones : List Cone
 days : Int
 now : Int
 rise : Int
 top : Int
def inB (n lo hi : Int) : Bool := decide (lo ≤ n) && decide (n ≤ hi)
theorem inB_iff {n lo hi : Int} : inB n lo hi = true ↔ lo ≤ n ∧ n ≤ hi := by unfold inB; simp
def sizedE (n lo hi : Int) : Int := if n < lo then 7 else if hi < n then 6 else 0
structure Ok (s : St) : Prop where
 s1 : 1 ≤ s.shelves.length
 s3 : s.shelves.length ≤ 3
 sh : ∀ x ∈ s.shelves, 0 ≤ x.lift ∧ x.lift ≤ 3 ∧ 1 ≤ x.room ∧ x.room ≤ 2
 c3 : s.cones.length ≤ 3
 co : ∀ c ∈ s.cones, (1 ≤ c.wet ∧ c.wet ≤ 20) ∧ (0 ≤ c.cold ∧ c.cold ≤ 9) ∧ (0 ≤ c.jump ∧ c.jump ≤ 9) ∧ (0 ≤ c.most ∧ c.most ≤ 9)
 d1 : 1 ≤ s.days
 d4 : s.days ≤ 4
 n0 : 0 ≤ s.now
 n5 : s.now ≤ 5
 t0 : 0 ≤ s.top
 t5 : s.top ≤ 5
 r0 : 0 ≤ s.rise
 r3 : s.rise ≤ 3
def grow (fit : List Stand → Bool) : List (List Stand) → List Stand → List (List Stand)
 | [], b => [b]
 | o :: os, b => o.flatMap fun a => if fit (b ++ [a]) then grow fit os (b ++ [a]) else []
def sumL (l : List Int) : Int := l.foldl (· + ·) 0
end Go.Mz


namespace Go.Mz
open Go
theorem sumL_add (l : List Int) (x : Int) : sumL (l ++ [x]) = sumL l + x := by unfold sumL; rw [List.foldl_append]; rfl
theorem sumL_bd : ∀ (n : Nat) (l : List Int), l.length = n → (∀ x ∈ l, 0 ≤ x ∧ x ≤ 100) → 0 ≤ sumL l ∧ sumL l ≤ 100 * n
 | 0, l, hn, _ => by
  rw [List.length_eq_zero_iff] at hn
  subst hn
  exact ⟨Int.le_refl _, Int.le_refl _⟩
 | n + 1, l, hn, h => by
  have hne : l ≠ [] := fun e => by subst e; simp at hn
  obtain ⟨k, x, rfl⟩ : ∃ k x, l = k ++ [x] := ⟨l.dropLast, l.getLast hne, (List.dropLast_concat_getLast hne).symm⟩
  rw [sumL_add]
  have h1 := sumL_bd n k (by simp at hn; omega) fun y hy => h y (List.mem_append_left _ hy)
  have h2 := h x (by simp)
  omega
end Go.Mz


namespace Go.Mz
open Go
structure Spn where
 lo : Int
 hi : Int
deriving DecidableEq
structure Prf where
 pan : Int
 tick : Int
 thread : Int
deriving DecidableEq
structure Bl where
 starts : List Spn
 rates : List Int
 marks : List Int
 heats : List Spn
 proofs : List Prf
deriving DecidableEq
def spanE (s : Spn) (most : Int) : Int := if !inB s.lo 0 most || !inB s.hi 0 most then 1 else if s.hi < s.lo then 5 else 0
def spanLE (most : Int) : List Spn → Int
 | [] => 0
 | s :: l => if spanE s most ≠ 0 then spanE s most else spanLE most l
def spansE (l : List Spn) (many most : Int) : Int := if sizedE l.length 1 many ≠ 0 then sizedE l.length 1 many else spanLE most l
def ratesB : List Int → Bool
 | [] => true
 | r :: l => inB r 1 3 && ratesB l
def marksE (l : List Int) : Int :=
 if l.length ≠ 3 then 9 else if !(l.all fun n => inB n 1 60) then 1 else
 if l.getD 1 0 ≤ l.getD 0 0 ∨ l.getD 2 0 ≤ l.getD 1 0 then 5 else 0
def proofE (b : Bl) (p : Prf) : Int :=
 if !inB p.pan 0 ((b.starts.length : Int) - 1) || !inB p.tick 0 b.heats.length then 3 else if !inB p.thread 0 3 then 8 else 0
def proofsE (b : Bl) : List Prf → Int
 | [] => 0
 | p :: l => if proofE b p ≠ 0 then proofE b p else proofsE b l
def boilE (b : Bl) : Int :=
 if spansE b.starts 3 40 ≠ 0 then spansE b.starts 3 40 else
 if b.rates.length ≠ b.starts.length then 9 else
 if !ratesB b.rates then 1 else
 if marksE b.marks ≠ 0 then marksE b.marks else
 if spansE b.heats 5 4 ≠ 0 then spansE b.heats 5 4 else
 if 8 < b.proofs.length then 6 else proofsE b b.proofs
def meetS (a b : Spn) : Spn := ⟨max a.lo b.lo, min a.hi b.hi⟩
def numS (s : Spn) : Int := max 0 (s.hi - s.lo + 1)
def thickB (b : Bl) (h : List Int) (pan time : Nat) : Int := b.rates.getD pan 0 * sumL (h.take time)
def marksB (b : Bl) (t : Nat) : Spn :=
 let all : List Int := [-1048576, b.marks.getD 0 0, b.marks.getD 1 0, b.marks.getD 2 0, 1048576]
 ⟨all.getD t 0, all.getD (t + 1) 0 - 1⟩
def threadB (b : Bl) (thick : Int) : Nat := b.marks.countP fun m => decide (m ≤ thick)
def groupB (b : Bl) (h : List Int) (ps : List Prf) : List Spn :=
 ps.foldl (fun g p => g.modify p.pan.toNat fun s => meetS s ⟨(marksB b p.thread.toNat).lo - thickB b h p.pan.toNat p.tick.toNat, (marksB b p.thread.toNat).hi - thickB b h p.pan.toNat p.tick.toNat⟩) b.starts
def prodL (l : List Int) : Int := l.foldl (· * ·) 1
def sizeB (g : List Spn) : Int := prodL (g.map numS)
def spanL (s : Spn) : List Int := (List.range (s.hi - s.lo + 1).toNat).map fun (n : Nat) => s.lo + n
def heatsL : List Spn → List (List Int)
 | [] => [[]]
 | s :: l => (spanL s).flatMap fun n => (heatsL l).map (n :: ·)
def knownB (b : Bl) (ps : List Prf) : List (List Int × List Spn) :=
 ((heatsL b.heats).map fun h => (h, groupB b h ps)).filter fun x => decide (sizeB x.2 ≠ 0)
def sureB (b : Bl) (pan time : Nat) : Bool := (knownB b b.proofs).all fun x =>
 let s := x.2.getD pan ⟨0, 0⟩
 let n := thickB b x.1 pan time
 threadB b (s.lo + n) == 2 && threadB b (s.hi + n) == 2
def strikeB (b : Bl) (pan : Nat) : List Nat := (List.range (b.heats.length + 1)).filter fun t => sureB b pan t
def StrikeE (b : Bl) (pan : Int) : List Nat × Int :=
 if boilE b ≠ 0 then ([], boilE b) else
 if !inB pan 0 ((b.starts.length : Int) - 1) then ([], 3) else
 if knownB b b.proofs = [] then ([], 9) else
 if strikeB b pan.toNat = [] then ([], 11) else (strikeB b pan.toNat, 0)
def bl0 : Bl := ⟨[], [], [], [], []⟩
def AddPE (b : Bl) (p : Prf) : Bl × Int :=
 if boilE b ≠ 0 then (bl0, boilE b) else
 if b.proofs.length = 8 then (bl0, 6) else
 if proofE b p ≠ 0 then (bl0, proofE b p) else
 if knownB b b.proofs ≠ [] ∧ knownB b (b.proofs ++ [p]) = [] then (bl0, 9) else ({ b with proofs := b.proofs ++ [p] }, 0)
def boilK : Bl := ⟨[⟨4, 6⟩, ⟨8, 8⟩], [1, 2], [8, 12, 16], [⟨1, 2⟩, ⟨2, 2⟩, ⟨1, 3⟩], [⟨0, 2, 1⟩]⟩
theorem boilK_ok : boilE boilK = 0 ∧ StrikeE { boilK with proofs := boilK.proofs ++ [⟨1, 1, 1⟩] } 1 = ([2], 0) ∧ (StrikeE boilK 0).2 = 11 ∧ (StrikeE boilK 1).2 = 11 := by decide +kernel
end Go.Mz


namespace Go.Mz
open Go.Conc
section
variable {P : Program} {X : Logic P} {T : Array Value} {L : LH} {Q : Value → LH → Prop}
theorem wpS_callExt {g : FuncId} {fn : Func} {args : Array Value} {e : Array Value → Sem Value} {Q : Next → LH → Prop} {H : Value → LH → Prop} (hf : P.funcs[g]? = some fn) (hn : (fn.name == "runtime.NumGoroutine") = false) (hb : fn.body.isNone = true) (hx : Extern.findNext fn = none) (he : Extern.find fn = some e)
  (h : wpS P (fun v L' => Q (.value v) L') H (e args) L) : wpS P Q H (callFunc g args) L := by
 unfold callFunc
 rw [wpS_bind, wpS_program]
 simp only [hf, hn, hb, hx, he, Bool.false_eq_true, if_false, if_true]
 rw [wpS_bind]
 refine ⟨.inr ⟨g, rfl⟩, ?_⟩
 show wpS P Q H (e args >>= fun v => pure (Next.value v)) L
 rw [wpS_bind]
 exact h
end
structure Ext (P : Program) (g : FuncId) (fn : Func) (e : Array Value → Sem Value) : Prop where
 func : P.funcs[g]? = some fn
 name : (fn.name == "runtime.NumGoroutine") = false
 body : fn.body.isNone = true
 next : Extern.findNext fn = none
 find : Extern.find fn = some e
def SpE (P : Program) (g : FuncId) (args : List Value) (L : LH) (Q : Value → LH → Prop) : Prop :=
 ∃ fn e, Ext P g fn e ∧ ∀ R, Le L R → wpS P (fun v R' => ∃ L', Q v L' ∧ Post L R L' R') (fun _ _ => False) (e args.toArray) R
theorem Post.refl {L R : LH} (h : Le L R) : Post L R L R := ⟨h, fun _ _ _ h => h, fun _ h => .inl h, fun _ h => h⟩
theorem Post.new {L R : LH} (h : Le L R) {b : Nat} (hb : R b = none) (o : Obj) : Post L R (L.put b o) (R.put b o) where
 le := fun b' x hx => by
  by_cases e : b' = b
  ·subst e; rw [put_same] at hx ⊢; exact hx
  ·rw [put_ne _ _ e] at hx ⊢; exact h _ _ hx
 keep := fun b' x h1 h2 => by rw [put_ne _ _ (fun e => by subst e; rw [hb] at h2; cases h2)]; exact h2
 fresh := fun b' hb' => by
  by_cases e : b' = b
  ·subst e; exact .inr hb
  ·rw [put_ne _ _ e] at hb'; exact .inl hb'
 dom := fun b' hb' => by
  by_cases e : b' = b
  ·subst e; rw [put_same]; simp
  ·rw [put_ne _ _ e]; exact hb'
theorem Post.set {L R R' : LH} (h : Le L R) {b : Nat} {o' o : Obj} (hb : L b = some (o', true)) (h1 : R' b = some (o, true)) (h2 : ∀ b', b' ≠ b → R' b' = R b') : Post L R (L.put b o) R' where
 le := fun b' x hx => by
  by_cases e : b' = b
  ·subst e; rw [put_same] at hx; rw [h1]; exact hx
  ·rw [put_ne _ _ e] at hx; rw [h2 _ e]; exact h _ _ hx
 keep := fun b' x g1 g2 => by rw [h2 _ (fun e => by subst e; rw [hb] at g1; cases g1)]; exact g2
 fresh := fun b' hb' => by
  by_cases e : b' = b
  ·subst e; exact .inl (by rw [hb]; simp)
  ·rw [put_ne _ _ e] at hb'; exact .inl hb'
 dom := fun b' hb' => by
  by_cases e : b' = b
  ·subst e; rw [put_same]; simp
  ·rw [put_ne _ _ e]; exact hb'
section
variable {P : Program} {C : Cx P} {E : Look} {B : List (Option Bx)} {L : LH} {dst : Option Tmp} {ty : TypeId} {pos : String} {af : Array Edge} {gd : Option (Nat × Bool)}
theorem wpS_invoked {β : Nm} {R : LH} {g : FuncId} {args : List Value} {Q : Value → LH → Prop} (hH : HeapOk C.L0 C.R0 β B L R) (h : Sp C.X g args L Q ∨ SpE P g args L Q) :
  wpS P (fun nx L' => match nx with
   | .value v => ∃ sv B' L'', CallQ B Q sv B' L'' ∧ den β sv = some v ∧ HeapOk C.L0 C.R0 β B' L'' L' ∧ ∀ kk, β kk = none → B'[kk]? = B[kk]?
   | .skip => ∃ sv B' L'', CallQ B Q sv B' L'' ∧ den β sv = some undef ∧ HeapOk C.L0 C.R0 β B' L'' L' ∧ ∀ kk, β kk = none → B'[kk]? = B[kk]?
   | .enter g args => ∃ Q' : Value → LH → Prop, Fn C.X g args L' Q' ∧ ∀ v L1, Q' v L1 → ∃ sv B' L'', CallQ B Q sv B' L'' ∧ den β sv = some v ∧ HeapOk C.L0 C.R0 β B' L'' L1 ∧ ∀ kk, β kk = none → B'[kk]? = B[kk]?
   | .round l g tmps asg body => ∃ Q' : Value → LH → Prop, FnF C.X (Frame.round l g tmps asg body .normal) L' Q' ∧ ∀ v L1, Q' v L1 → ∃ sv B' L'', CallQ B Q sv B' L'' ∧ den β sv = some v ∧ HeapOk C.L0 C.R0 β B' L'' L1 ∧ ∀ kk, β kk = none → B'[kk]? = B[kk]?
   | _ => False) (fun _ _ => False) (callFunc g args.toArray) R := by
 have fin : ∀ v R', (∃ L', Q v L' ∧ Post L R L' R') → ∃ sv B' L', CallQ B Q sv B' L' ∧ den β sv = some v ∧ HeapOk C.L0 C.R0 β B' L' R' ∧ ∀ kk, β kk = none → B'[kk]? = B[kk]? := fun v R' ⟨L', hq, hp⟩ => ⟨.v v, B, L', ⟨v, rfl, rfl, hq⟩, rfl, hH.call hp, fun _ _ => rfl⟩
 rcases h with ⟨⟨fn, h1, h2, h3⟩, hf⟩ | ⟨fn, e, h1, h2⟩
 ·rw [wpS_callFunc h1 h2 h3]
  exact ⟨_, (hf R hH.le).mono (Q' := fun v R' => ∃ L', Q v L' ∧ Post L R L' R') (H' := fun _ _ => False) (fun _ _ h => h) (fun ch R' ⟨L', h, _⟩ => h), fin⟩
 ·refine wpS_callExt h1.func h1.name h1.body h1.next h1.find (wpS_mono (fun v R' hv => fin v R' hv) (fun _ _ h => h) _ _ (h2 R hH.le))
theorem Ef.ext {g : FuncId} {xs : Array Operand} {ts : Array TypeId} {args : List Value} {Q : Value → LH → Prop} (ha : denA E xs.toList = some args) (hs : SpE P g args L Q) : Ef C ⟨dst, .call { callee := .value (.func g), args := xs, argTypes := ts }, ty, pos, af, gd⟩ E B L (CallQ B Q) := by
 intro T R β hE hH
 have hx : xs.map (ev T) = args.toArray := by rw [← denA_ok hE ha, ← List.map_toArray]
 refine ⟨rfl, ?_⟩
 simp only [execOp, resolve, ev, Deferred.ofValue, hx]
 rw [wpS_bind, wpS_pure]
 simp only [invoke, Array.empty_append, Array.append_empty]
 exact wpS_invoked hH (.inr hs)
theorem Ef.inv {x : Operand} {sv : SV} {name : String} {t : TypeId} {v rv : Value} {g : FuncId} {xs : Array Operand} {ts : Array TypeId} {args : List Value} {Q : Value → LH → Prop} (hx : evS E x = some sv) (hd : den nm0 sv = some (.iface t v)) (ha : denA E xs.toList = some args)
  (hm : ∀ (Q : FuncId × Value → LH → Prop) (H : Value → LH → Prop) (R : LH), wpS P Q H (method (P.types.size + Made.depth) t v name) R = Q (g, rv) R) (hs : Sp C.X g (rv :: args) L Q ∨ SpE P g (rv :: args) L Q) :
  Ef C ⟨dst, .call { callee := .invoke x name, args := xs, argTypes := ts }, ty, pos, af, gd⟩ E B L (CallQ B Q) := by
 intro T R β hE hH
 have ex : ev T x = .iface t v := Option.some.inj ((hE.val hx).symm.trans (den_nil hd β))
 have hxs : xs.map (ev T) = args.toArray := by rw [← denA_ok hE ha, ← List.map_toArray]
 refine ⟨rfl, ?_⟩
 simp only [execOp, resolve, hxs, ex]
 rw [wpS_bind, wpS_pure]
 simp only [invoke]
 have e0 : (#[Value.iface t v] ++ args.toArray)[0]? = some (.iface t v) := by simp
 simp only [e0]
 have e1 : (#[Value.iface t v] ++ args.toArray).extract 1 (#[Value.iface t v] ++ args.toArray).size = args.toArray := by simp
 rw [e1]
 unfold callMethod
 simp only
 rw [wpS_bind, wpS_program, wpS_bind, hm]
 have e2 : #[rv] ++ args.toArray = (rv :: args).toArray := by simp
 simp only [e2]
 exact wpS_invoked hH hs
end
section
variable {P : Program} {g : FuncId} {fn : Func} {e : Array Value → Sem Value} {args : List Value} {L : LH} {v : Value}
theorem SpE.pure (h : Ext P g fn e) (hw : ∀ (Q : Value → LH → Prop) (H : Value → LH → Prop) (R : LH), wpS P Q H (e args.toArray) R = Q v R) : SpE P g args L (fun u L' => u = v ∧ L = L') :=
 ⟨fn, e, h, fun R hR => by rw [hw]; exact ⟨L, ⟨rfl, rfl⟩, Post.refl hR⟩⟩
theorem SpE.read (h : Ext P g fn e) (hw : ∀ (Q : Value → LH → Prop) (H : Value → LH → Prop) (R : LH), Le L R → wpS P Q H (e args.toArray) R = Q v R) : SpE P g args L (fun u L' => u = v ∧ L = L') :=
 ⟨fn, e, h, fun R hR => by rw [hw _ _ _ hR]; exact ⟨L, ⟨rfl, rfl⟩, Post.refl hR⟩⟩
theorem SpE.alloc {mk : Nat → Value} {o : Obj} (h : Ext P g fn e) (hw : ∀ (Q : Value → LH → Prop) (H : Value → LH → Prop) (R : LH), wpS P Q H (e args.toArray) R = ∀ b, R b = none → Q (mk b) (R.put b o)) : SpE P g args L (fun u L' => ∃ b, L b = none ∧ u = mk b ∧ L' = L.put b o) :=
 ⟨fn, e, h, fun R hR => by rw [hw]; exact fun b hb => ⟨_, ⟨b, none_of_le hR hb, rfl, rfl⟩, Post.new hR hb o⟩⟩
end
end Go.Mz

