/- Lemmas on which the claim leans. -/
import Derived.Test.YtnhckcgdmolgcaaGreatDoorMzAp
set_option maxRecDepth 100000
namespace Go.Mz
open Go.Conc Go.Proofs
variable {X : Logic Tryz.prog}
open Extern in
def e143 (args : Array Value) : Sem Value := ReflectliteValue.unpack (args.getD 0 (.tuple #[]))
open Extern in
def e144 : Array Value → Sem Value := ReflectliteValue.methodAny (ReflectliteValue.valueError "reflectlite.Value.Type" 0) fun t _ _ _ => ReflectliteType.toType t
open Extern in
def e145 : Array Value → Sem Value := ReflectliteValue.method (ReflectliteValue.valueError "reflectlite.Value.IsNil" 0) ReflectliteValue.isNil
open Extern in
def e169 : Array Value → Sem Value := ReflectliteType.typeOf
open Extern in
def e170 : Array Value → Sem Value := ReflectliteValue.method (ReflectliteValue.valueError "reflectlite.Value.Elem" 0) ReflectliteValue.elem
open Extern in
def e171 : Array Value → Sem Value := ReflectliteValue.set
open Extern in
def e191 : Array Value → Sem Value := ReflectliteType.abiMethod fun t => (fun a : Nat => Value.int IntKind.u8 (a : Int)) <$> Rtype.kind t
open Extern in
def e203 : Array Value → Sem Value := ReflectliteType.relation "AssignableTo" ReflectliteType.assignableTo
open Extern in
def e205 : Array Value → Sem Value := ReflectliteType.method ReflectliteType.elem
open Extern in
def e206 : Array Value → Sem Value := ReflectliteType.relation "Implements" ReflectliteType.implements_
theorem ext143 : Ext Tryz.prog 143 Tryz.f143 e143 := ⟨Tryz.func143, by kernel_rfl, rfl, by kernel_rfl, by kernel_rfl⟩
theorem ext144 : Ext Tryz.prog 144 Tryz.f144 e144 := ⟨Tryz.func144, by kernel_rfl, rfl, by kernel_rfl, by kernel_rfl⟩
theorem ext145 : Ext Tryz.prog 145 Tryz.f145 e145 := ⟨Tryz.func145, by kernel_rfl, rfl, by kernel_rfl, by kernel_rfl⟩
theorem ext169 : Ext Tryz.prog 169 Tryz.f169 e169 := ⟨Tryz.func169, by kernel_rfl, rfl, by kernel_rfl, by kernel_rfl⟩
theorem ext170 : Ext Tryz.prog 170 Tryz.f170 e170 := ⟨Tryz.func170, by kernel_rfl, rfl, by kernel_rfl, by kernel_rfl⟩
theorem ext171 : Ext Tryz.prog 171 Tryz.f171 e171 := ⟨Tryz.func171, by kernel_rfl, rfl, by kernel_rfl, by kernel_rfl⟩
theorem ext191 : Ext Tryz.prog 191 Tryz.f191 e191 := ⟨Tryz.func191, by kernel_rfl, rfl, by kernel_rfl, by kernel_rfl⟩
theorem ext203 : Ext Tryz.prog 203 Tryz.f203 e203 := ⟨Tryz.func203, by kernel_rfl, rfl, by kernel_rfl, by kernel_rfl⟩
theorem ext205 : Ext Tryz.prog 205 Tryz.f205 e205 := ⟨Tryz.func205, by kernel_rfl, rfl, by kernel_rfl, by kernel_rfl⟩
theorem ext206 : Ext Tryz.prog 206 Tryz.f206 e206 := ⟨Tryz.func206, by kernel_rfl, rfl, by kernel_rfl, by kernel_rfl⟩
abbrev hdl (t : Nat) : Value := .pointer (some ⟨1, t, none⟩)
abbrev rty (t : Nat) : Value := .iface 232 (.agg #[hdl t])
section
variable {R : LH} {Q : Value → LH → Prop} {H : Value → LH → Prop} {QM : FuncId × Value → LH → Prop}
theorem w143h (d : Value) : wpS Tryz.prog Q H (e143 #[.iface 158 (.agg #[d])]) R = ∀ b, R b = none → Q (.agg #[hdl 158, .pointer (some ⟨b, 0, none⟩), .int .u64 153]) (R.put b (.cells #[d] 158)) := by kernel_rfl
theorem w143p (a : Addr) : wpS Tryz.prog Q H (e143 #[.iface 163 (.pointer (some a))]) R = ∀ b, R b = none → Q (.agg #[hdl 163, .pointer (some ⟨b, 0, none⟩), .int .u64 150]) (R.put b (.cells #[.pointer (some a)] 163)) := by kernel_rfl
theorem w144 (a : Addr) : wpS Tryz.prog Q H (e144 #[.agg #[hdl 163, .pointer (some a), .int .u64 150]]) R = Q (rty 163) R := by kernel_rfl
theorem mKind (h : Value) : wpS Tryz.prog QM H (method (Tryz.prog.types.size + Made.depth) 232 (.agg #[h]) "Kind") R = QM (191, h) R := by kernel_rfl
theorem mElem (h : Value) : wpS Tryz.prog QM H (method (Tryz.prog.types.size + Made.depth) 232 (.agg #[h]) "Elem") R = QM (205, .agg #[h]) R := by kernel_rfl
theorem mImpl (h : Value) : wpS Tryz.prog QM H (method (Tryz.prog.types.size + Made.depth) 232 (.agg #[h]) "Implements") R = QM (206, .agg #[h]) R := by kernel_rfl
theorem mAssg (h : Value) : wpS Tryz.prog QM H (method (Tryz.prog.types.size + Made.depth) 232 (.agg #[h]) "AssignableTo") R = QM (203, .agg #[h]) R := by kernel_rfl
theorem w191p : wpS Tryz.prog Q H (e191 #[hdl 163]) R = Q (.int .u8 22) R := by kernel_rfl
theorem w191h : wpS Tryz.prog Q H (e191 #[hdl 158]) R = Q (.int .u8 25) R := by kernel_rfl
theorem w205 : wpS Tryz.prog Q H (e205 #[.agg #[hdl 163]]) R = Q (rty 158) R := by kernel_rfl
theorem w206 : wpS Tryz.prog Q H (e206 #[.agg #[hdl 158], rty 161]) R = Q (.bool true) R := by kernel_rfl
theorem w169 (v : Value) : wpS Tryz.prog Q H (e169 #[.iface 158 v]) R = Q (rty 158) R := by kernel_rfl
theorem w203 : wpS Tryz.prog Q H (e203 #[.agg #[hdl 158], rty 158]) R = Q (.bool true) R := by kernel_rfl
end
open Extern
theorem rlm (z : Sem Value) (f : TypeId → Addr → Nat → Nat → Sem Value) (v : Value) :
  ReflectliteValue.method z f #[v] = (do match ← ReflectliteValue.parts v with | none => z | some (t, a, fl) => f t a fl (fl % 32)) := rfl
theorem rls (v x : Value) : ReflectliteValue.set #[v, x] = (do
  let (some (dst, a, fl), some (src, b, _)) := (← ReflectliteValue.parts v, ← ReflectliteValue.parts x)
   | unsupported (.noEntry "extern/(internal/reflectlite.Value).Set.zeroValue")
  if fl / ReflectliteValue.flagAddr % 2 == 0 then unsupported (.noEntry "extern/(internal/reflectlite.Value).Set.unaddressable")
  let val ← loadVar src b
  if ← Rtype.directlyAssignable dst src then storeVar dst a val
  else if ← Rtype.implements dst src then
   if (← Rtype.kind src) == 20 then
    match val with
    | .nilIface => unsupported (.noEntry "extern/reflectlite: a nil value of one interface type handed on as a value of another")
    | _ => storeVar dst a val
   else storeVar dst a (.iface src val)
  else panicString ("reflectlite.Set: value of type " ++ (← Rtype.spelt src) ++ " is not assignable to type " ++ (← Rtype.spelt dst))
  pure (.tuple #[])) := rfl
section
variable {R : LH} {Q : Value → LH → Prop} {H : Value → LH → Prop}
theorem parts163 (a : Addr) {Q : Option (TypeId × Addr × Nat) → LH → Prop} : wpS Tryz.prog Q H (ReflectliteValue.parts (.agg #[hdl 163, .pointer (some a), .int .u64 150])) R = Q (some (163, a, 150)) R := by kernel_rfl
theorem parts158a (a : Addr) {Q : Option (TypeId × Addr × Nat) → LH → Prop} : wpS Tryz.prog Q H (ReflectliteValue.parts (.agg #[hdl 158, .pointer (some a), .int .u64 409])) R = Q (some (158, a, 409)) R := by kernel_rfl
theorem parts158 (a : Addr) {Q : Option (TypeId × Addr × Nat) → LH → Prop} : wpS Tryz.prog Q H (ReflectliteValue.parts (.agg #[hdl 158, .pointer (some a), .int .u64 153])) R = Q (some (158, a, 153)) R := by kernel_rfl
theorem elem163 {Q : Option TypeId → LH → Prop} : wpS Tryz.prog Q H (Rtype.elem? 163) R = Q (some 158) R := by kernel_rfl
theorem mk158 (p : Addr) : wpS Tryz.prog Q H (ReflectliteValue.mk 158 p ReflectliteValue.flagAddr) R = Q (.agg #[hdl 158, .pointer (some p), .int .u64 409]) R := by kernel_rfl
theorem direct158 {Q : Bool → LH → Prop} : wpS Tryz.prog Q H (Rtype.directlyAssignable 158 158) R = Q true R := by kernel_rfl
theorem w145 {b : Nat} {a : Addr} (hb : R.cell? ⟨b, 0, none⟩ = some (.pointer (some a))) : wpS Tryz.prog Q H (e145 #[.agg #[hdl 163, .pointer (some ⟨b, 0, none⟩), .int .u64 150]]) R = Q (.bool false) R := by
 unfold e145
 rw [rlm, wpS_bind, parts163]
 show wpS Tryz.prog Q H (ReflectliteValue.isNil 163 ⟨b, 0, none⟩ 150 22) R = _
 have : ReflectliteValue.isNil 163 ⟨b, 0, none⟩ 150 22 = (do match ← loadVar 163 ⟨b, 0, none⟩ with | .chan none | .nilFunc | .nilIface | .map none | .pointer none | .slice none _ _ => pure (.bool true) | _ => pure (.bool false)) := rfl
 rw [this, wpS_bind, wpS_loadVar1 agg163 hb]
 rfl
theorem w170 {b : Nat} {a : Addr} (hb : R.cell? ⟨b, 0, none⟩ = some (.pointer (some a))) : wpS Tryz.prog Q H (e170 #[.agg #[hdl 163, .pointer (some ⟨b, 0, none⟩), .int .u64 150]]) R = Q (.agg #[hdl 158, .pointer (some a), .int .u64 409]) R := by
 unfold e170
 rw [rlm, wpS_bind, parts163]
 show wpS Tryz.prog Q H (ReflectliteValue.elem 163 ⟨b, 0, none⟩ 150 22) R = _
 have : ReflectliteValue.elem 163 ⟨b, 0, none⟩ 150 22 = (do match 22, ← loadVar 163 ⟨b, 0, none⟩, ← Rtype.elem? 163 with | 20, i, _ => ReflectliteValue.unpack i | 22, .pointer none, _ => pure ReflectliteValue.zeroV | 22, .pointer (some p), some e => ReflectliteValue.mk e p ReflectliteValue.flagAddr | _, _, _ => ReflectliteValue.valueError "reflectlite.Value.Elem" 22) := rfl
 rw [this, wpS_bind, wpS_loadVar1 agg163 hb, wpS_bind, elem163]
 exact mk158 a
theorem w171 {a b : Nat} {x y : Value} {e : TypeId} (hb : R.cell? ⟨b, 0, none⟩ = some x) (hx : single x = true) (ha : R a = some (.cells #[y] e (0, 0), true)) (hq : ∀ R', R' a = some (.cells #[x] e (0, 0), true) → (∀ b', b' ≠ a → R' b' = R b') → Q (.tuple #[]) R') :
  wpS Tryz.prog Q H (e171 #[.agg #[hdl 158, .pointer (some ⟨a, 0, none⟩), .int .u64 409], .agg #[hdl 158, .pointer (some ⟨b, 0, none⟩), .int .u64 153]]) R := by
 unfold e171
 rw [rls, wpS_bind, parts158a, wpS_bind, parts158]
 simp only
 rw [if_neg (by decide), wpS_bind, wpS_loadVarN agg158 size158 (vs := [x]) ⟨rfl, fun i v hi => by
  cases i with
  | zero => simp at hi; subst hi; exact hb
  | succ i => simp at hi⟩, wpS_bind, direct158]
 simp only [if_true]
 rw [wpS_bind]
 unfold storeVar
 rw [wpS_bind, wpS_sizeOf size158]
 refine wpS_storeCells (e := e) [x] 0 _ R ha (by simp) (fun v hv => by cases List.mem_singleton.1 hv; exact hx) (fun R' g1 g2 => ?_)
 exact hq R' (by rw [g1]; rfl) g2
end
end Go.Mz

