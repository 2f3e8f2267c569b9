/- Lemmas on which the claim leans. -/
import Derived.Test.YtfnjganjlkoehaaGreatDoorMzAo
set_option maxRecDepth 100000
namespace Go.Mz
open Go.Conc Go.Proofs
variable {X : Logic Tryz.prog}
open Extern in
def e169 (args : Array Value) : Sem Value := ReflectliteValue.unpack (args.getD 0 (.tuple #[]))
open Extern in
def e170 : Array Value → Sem Value := ReflectliteValue.methodAny (ReflectliteValue.valueError "reflectlite.Value.Type" 0) fun t _ _ _ => ReflectliteType.toType t
open Extern in
def e171 : Array Value → Sem Value := ReflectliteValue.method (ReflectliteValue.valueError "reflectlite.Value.IsNil" 0) ReflectliteValue.isNil
open Extern in
def e173 : Array Value → Sem Value := ReflectliteType.typeOf
open Extern in
def e174 : Array Value → Sem Value := ReflectliteValue.method (ReflectliteValue.valueError "reflectlite.Value.Elem" 0) ReflectliteValue.elem
open Extern in
def e175 : Array Value → Sem Value := ReflectliteValue.set
open Extern in
def e190 : Array Value → Sem Value := ReflectliteType.abiMethod fun t => (fun a : Nat => Value.int IntKind.u8 (a : Int)) <$> Rtype.kind t
open Extern in
def e202 : Array Value → Sem Value := ReflectliteType.relation "AssignableTo" ReflectliteType.assignableTo
open Extern in
def e204 : Array Value → Sem Value := ReflectliteType.method ReflectliteType.elem
open Extern in
def e205 : Array Value → Sem Value := ReflectliteType.relation "Implements" ReflectliteType.implements_
theorem ext169 : Ext Tryz.prog 169 Tryz.f169 e169 := ⟨Tryz.func169, by kernel_rfl, rfl, by kernel_rfl, by kernel_rfl⟩
theorem ext170 : Ext Tryz.prog 170 Tryz.f170 e170 := ⟨Tryz.func170, by kernel_rfl, rfl, by kernel_rfl, by kernel_rfl⟩
theorem ext171 : Ext Tryz.prog 171 Tryz.f171 e171 := ⟨Tryz.func171, by kernel_rfl, rfl, by kernel_rfl, by kernel_rfl⟩
theorem ext173 : Ext Tryz.prog 173 Tryz.f173 e173 := ⟨Tryz.func173, by kernel_rfl, rfl, by kernel_rfl, by kernel_rfl⟩
theorem ext174 : Ext Tryz.prog 174 Tryz.f174 e174 := ⟨Tryz.func174, by kernel_rfl, rfl, by kernel_rfl, by kernel_rfl⟩
theorem ext175 : Ext Tryz.prog 175 Tryz.f175 e175 := ⟨Tryz.func175, by kernel_rfl, rfl, by kernel_rfl, by kernel_rfl⟩
theorem ext190 : Ext Tryz.prog 190 Tryz.f190 e190 := ⟨Tryz.func190, by kernel_rfl, rfl, by kernel_rfl, by kernel_rfl⟩
theorem ext202 : Ext Tryz.prog 202 Tryz.f202 e202 := ⟨Tryz.func202, by kernel_rfl, rfl, by kernel_rfl, by kernel_rfl⟩
theorem ext204 : Ext Tryz.prog 204 Tryz.f204 e204 := ⟨Tryz.func204, by kernel_rfl, rfl, by kernel_rfl, by kernel_rfl⟩
theorem ext205 : Ext Tryz.prog 205 Tryz.f205 e205 := ⟨Tryz.func205, by kernel_rfl, rfl, by kernel_rfl, by kernel_rfl⟩
abbrev hdl (t : Nat) : Value := .pointer (some ⟨1, t, none⟩)
abbrev rty (t : Nat) : Value := .iface 214 (.agg #[hdl t])
section
variable {R : LH} {Q : Value → LH → Prop} {H : Value → LH → Prop} {QM : FuncId × Value → LH → Prop}
theorem w169h (d : Value) : wpS Tryz.prog Q H (e169 #[.iface 186 (.agg #[d])]) R = ∀ b, R b = none → Q (.agg #[hdl 186, .pointer (some ⟨b, 0, none⟩), .int .u64 153]) (R.put b (.cells #[d] 186)) := by kernel_rfl
theorem w169p (a : Addr) : wpS Tryz.prog Q H (e169 #[.iface 188 (.pointer (some a))]) R = ∀ b, R b = none → Q (.agg #[hdl 188, .pointer (some ⟨b, 0, none⟩), .int .u64 150]) (R.put b (.cells #[.pointer (some a)] 188)) := by kernel_rfl
theorem w170 (a : Addr) : wpS Tryz.prog Q H (e170 #[.agg #[hdl 188, .pointer (some a), .int .u64 150]]) R = Q (rty 188) R := by kernel_rfl
theorem mKind (h : Value) : wpS Tryz.prog QM H (method (Tryz.prog.types.size + Made.depth) 214 (.agg #[h]) "Kind") R = QM (190, h) R := by kernel_rfl
theorem mElem (h : Value) : wpS Tryz.prog QM H (method (Tryz.prog.types.size + Made.depth) 214 (.agg #[h]) "Elem") R = QM (204, .agg #[h]) R := by kernel_rfl
theorem mImpl (h : Value) : wpS Tryz.prog QM H (method (Tryz.prog.types.size + Made.depth) 214 (.agg #[h]) "Implements") R = QM (205, .agg #[h]) R := by kernel_rfl
theorem mAssg (h : Value) : wpS Tryz.prog QM H (method (Tryz.prog.types.size + Made.depth) 214 (.agg #[h]) "AssignableTo") R = QM (202, .agg #[h]) R := by kernel_rfl
theorem w190p : wpS Tryz.prog Q H (e190 #[hdl 188]) R = Q (.int .u8 22) R := by kernel_rfl
theorem w190h : wpS Tryz.prog Q H (e190 #[hdl 186]) R = Q (.int .u8 25) R := by kernel_rfl
theorem w204 : wpS Tryz.prog Q H (e204 #[.agg #[hdl 188]]) R = Q (rty 186) R := by kernel_rfl
theorem w205 : wpS Tryz.prog Q H (e205 #[.agg #[hdl 186], rty 159]) R = Q (.bool true) R := by kernel_rfl
theorem w173 (v : Value) : wpS Tryz.prog Q H (e173 #[.iface 186 v]) R = Q (rty 186) R := by kernel_rfl
theorem w202 : wpS Tryz.prog Q H (e202 #[.agg #[hdl 186], rty 186]) R = Q (.bool true) R := by kernel_rfl
end
open Extern
theorem rlm (z : Sem Value) (f : TypeId → Addr → Nat → Nat → Sem Value) (v : Value) :
  ReflectliteValue.method z f #[v] = (do match ← ReflectliteValue.parts v with | none => z | some (t, a, fl) => f t a fl (fl % 32)) := rfl
theorem rls (v x : Value) : ReflectliteValue.set #[v, x] = (do
  let (some (dst, a, fl), some (src, b, _)) := (← ReflectliteValue.parts v, ← ReflectliteValue.parts x)
   | unsupported (.noEntry "extern/(internal/reflectlite.Value).Set.zeroValue")
  if fl / ReflectliteValue.flagAddr % 2 == 0 then unsupported (.noEntry "extern/(internal/reflectlite.Value).Set.unaddressable")
  let val ← loadVar src b
  if ← Rtype.directlyAssignable dst src then storeVar dst a val
  else if ← Rtype.implements dst src then
   if (← Rtype.kind src) == 20 then
    match val with
    | .nilIface => unsupported (.noEntry "extern/reflectlite: a nil value of one interface type handed on as a value of another")
    | _ => storeVar dst a val
   else storeVar dst a (.iface src val)
  else panicString ("reflectlite.Set: value of type " ++ (← Rtype.spelt src) ++ " is not assignable to type " ++ (← Rtype.spelt dst))
  pure (.tuple #[])) := rfl
section
variable {R : LH} {Q : Value → LH → Prop} {H : Value → LH → Prop}
theorem parts188 (a : Addr) {Q : Option (TypeId × Addr × Nat) → LH → Prop} : wpS Tryz.prog Q H (ReflectliteValue.parts (.agg #[hdl 188, .pointer (some a), .int .u64 150])) R = Q (some (188, a, 150)) R := by kernel_rfl
theorem parts186a (a : Addr) {Q : Option (TypeId × Addr × Nat) → LH → Prop} : wpS Tryz.prog Q H (ReflectliteValue.parts (.agg #[hdl 186, .pointer (some a), .int .u64 409])) R = Q (some (186, a, 409)) R := by kernel_rfl
theorem parts186 (a : Addr) {Q : Option (TypeId × Addr × Nat) → LH → Prop} : wpS Tryz.prog Q H (ReflectliteValue.parts (.agg #[hdl 186, .pointer (some a), .int .u64 153])) R = Q (some (186, a, 153)) R := by kernel_rfl
theorem elem188 {Q : Option TypeId → LH → Prop} : wpS Tryz.prog Q H (Rtype.elem? 188) R = Q (some 186) R := by kernel_rfl
theorem mk186 (p : Addr) : wpS Tryz.prog Q H (ReflectliteValue.mk 186 p ReflectliteValue.flagAddr) R = Q (.agg #[hdl 186, .pointer (some p), .int .u64 409]) R := by kernel_rfl
theorem direct186 {Q : Bool → LH → Prop} : wpS Tryz.prog Q H (Rtype.directlyAssignable 186 186) R = Q true R := by kernel_rfl
theorem w171 {b : Nat} {a : Addr} (hb : R.cell? ⟨b, 0, none⟩ = some (.pointer (some a))) : wpS Tryz.prog Q H (e171 #[.agg #[hdl 188, .pointer (some ⟨b, 0, none⟩), .int .u64 150]]) R = Q (.bool false) R := by
 unfold e171
 rw [rlm, wpS_bind, parts188]
 show wpS Tryz.prog Q H (ReflectliteValue.isNil 188 ⟨b, 0, none⟩ 150 22) R = _
 have : ReflectliteValue.isNil 188 ⟨b, 0, none⟩ 150 22 = (do match ← loadVar 188 ⟨b, 0, none⟩ with | .chan none | .nilFunc | .nilIface | .map none | .pointer none | .slice none _ _ => pure (.bool true) | _ => pure (.bool false)) := rfl
 rw [this, wpS_bind, wpS_loadVar1 agg188 hb]
 rfl
theorem w174 {b : Nat} {a : Addr} (hb : R.cell? ⟨b, 0, none⟩ = some (.pointer (some a))) : wpS Tryz.prog Q H (e174 #[.agg #[hdl 188, .pointer (some ⟨b, 0, none⟩), .int .u64 150]]) R = Q (.agg #[hdl 186, .pointer (some a), .int .u64 409]) R := by
 unfold e174
 rw [rlm, wpS_bind, parts188]
 show wpS Tryz.prog Q H (ReflectliteValue.elem 188 ⟨b, 0, none⟩ 150 22) R = _
 have : ReflectliteValue.elem 188 ⟨b, 0, none⟩ 150 22 = (do match 22, ← loadVar 188 ⟨b, 0, none⟩, ← Rtype.elem? 188 with | 20, i, _ => ReflectliteValue.unpack i | 22, .pointer none, _ => pure ReflectliteValue.zeroV | 22, .pointer (some p), some e => ReflectliteValue.mk e p ReflectliteValue.flagAddr | _, _, _ => ReflectliteValue.valueError "reflectlite.Value.Elem" 22) := rfl
 rw [this, wpS_bind, wpS_loadVar1 agg188 hb, wpS_bind, elem188]
 exact mk186 a
theorem w175 {a b : Nat} {x y : Value} {e : TypeId} (hb : R.cell? ⟨b, 0, none⟩ = some x) (hx : single x = true) (ha : R a = some (.cells #[y] e (0, 0), true)) (hq : ∀ R', R' a = some (.cells #[x] e (0, 0), true) → (∀ b', b' ≠ a → R' b' = R b') → Q (.tuple #[]) R') :
  wpS Tryz.prog Q H (e175 #[.agg #[hdl 186, .pointer (some ⟨a, 0, none⟩), .int .u64 409], .agg #[hdl 186, .pointer (some ⟨b, 0, none⟩), .int .u64 153]]) R := by
 unfold e175
 rw [rls, wpS_bind, parts186a, wpS_bind, parts186]
 simp only
 rw [if_neg (by decide), wpS_bind, wpS_loadVarN agg186 size186 (vs := [x]) ⟨rfl, fun i v hi => by
  cases i with
  | zero => simp at hi; subst hi; exact hb
  | succ i => simp at hi⟩, wpS_bind, direct186]
 simp only [if_true]
 rw [wpS_bind]
 unfold storeVar
 rw [wpS_bind, wpS_sizeOf size186]
 refine wpS_storeCells (e := e) [x] 0 _ R ha (by simp) (fun v hv => by cases List.mem_singleton.1 hv; exact hx) (fun R' g1 g2 => ?_)
 exact hq R' (by rw [g1]; rfl) g2
end
end Go.Mz

