/- Lemmas on which the claim leans. -/
import Derived.Test.YtnhckcgdmolgcaaGreatDoorMzAg
namespace Go.Mz
open Go.Conc
def Val (P : Program) (op : Op) (ty : TypeId) (T : Array Value) (L : LH) (v : Value) : Prop :=
  ∀ (dst : Option Tmp) (pos : String) (af : Array Edge) (gd : Option (Nat × Bool)) (Q : Next → LH → Prop) (H : Value → LH → Prop), Q (.value v) L → wpS P Q H (execOp (ev T) ⟨dst, op, ty, pos, af, gd⟩) L
def isDefer : Op → Bool
  | .defer _ => true
  | _ => false
inductive Wn (ops : Array Oper) (T : Array Value) : Option (Nat × Bool) → Prop
  | n : Wn ops T none
  | y {j s : Nat} {w b : Bool} {oj : Oper} (hj : ops[j]? = some oj) (hs : oj.dst = some s) (hsz : s < T.size) (hb : T.getD s undef = .bool b) (hw : (b == w) = true) : Wn ops T (some (j, w))
theorem Wn.wanted {ops : Array Oper} {T : Array Value} {o : Oper} (h : Wn ops T o.guard) : Region.wanted o (yielded ops T) = true := by
  unfold Region.wanted
  revert h
  generalize o.guard = gd
  intro h
  cases h with
  | n => rfl
  | @y j s w b oj hj hs hsz hb hw =>
    have hT : T[s]? = some (.bool b) := by
      simp only [Array.getD, hsz, dif_pos] at hb
      rw [Array.getElem?_eq_getElem hsz]; exact congrArg some hb
    simp only [yielded, hj, Option.bind_some, hs, hT]
    cases b <;> cases w <;> simp_all
section
variable {P : Program} (X : Logic P)
variable {f : FuncId} {T : Array Value} {k : List Item} {ds : List Deferred} {kd : CallKind} {ro : Option Nat} {cs : List Frame} {L : LH} {ops : Array Oper} {i : Nat} {rest : List Nat}
variable {op : Op} {ty : TypeId} {pos : String} {af : Array Edge} {gd : Option (Nat × Bool)} {d : Nat} {v : Value}
theorem Logic.exec {dst : Option Tmp} (ho : ops[i]? = some ⟨dst, op, ty, pos, af, gd⟩) (hg : Wn ops T gd) (hdef : isDefer op = false)
    (h : wpS P (nextOut P X.Go (Fr f T (.inRegion ops (i :: rest) :: k) ds .run kd ro) cs .normal) (panicOut X.Go (Fr f T (.inRegion ops (i :: rest) :: k) ds .run kd ro) cs) (execOp (ev T) ⟨dst, op, ty, pos, af, gd⟩) L) :
    X.Go (G (Fr f T (.inRegion ops (i :: rest) :: k) ds .run kd ro) cs) L :=
  X.op ho (Wn.wanted (o := ⟨dst, op, ty, pos, af, gd⟩) hg) (.inr fun c h => by rw [show op = .defer c from h] at hdef; cases hdef) h
theorem Logic.val (ho : ops[i]? = some ⟨some d, op, ty, pos, af, gd⟩) (hg : Wn ops T gd) (hdef : isDefer op = false) (hz : d < T.size) (hv : Val P op ty T L v) (h : After X f T ops rest k ds kd ro cs L d v) :
    X.Go (G (Fr f T (.inRegion ops (i :: rest) :: k) ds .run kd ro) cs) L := by
  refine X.exec ho hg hdef (hv _ _ _ _ _ _ ?_)
  show X.Go (G ((Fr f T (.inRegion ops (i :: rest) :: k) ds .run kd ro).finish v) cs) L
  rw [finish_some ho rfl]
  exact h _ (upd_set v hz)
theorem Logic.no {j s : Nat} {w b : Bool} {oj : Oper} (ho : ops[i]? = some ⟨some d, op, ty, pos, af, some (j, w)⟩) (hj : ops[j]? = some oj) (hs : oj.dst = some s) (hsz : s < T.size) (hb : T.getD s undef = .bool b) (hw : (b == w) = false) (hz : d < T.size)
    (h : After X f T ops rest k ds kd ro cs L d undef) : X.Go (G (Fr f T (.inRegion ops (i :: rest) :: k) ds .run kd ro) cs) L :=
  X.guardNo ho hz hj hs hsz hb hw h
end
section
variable {P : Program} {T : Array Value} {L : LH} {ty t t2 : TypeId} {x y c : Operand} {v u : Value} {a b : Int} {k : IntKind}
theorem Val.move (h : ev T x = v) : Val P (.move x) ty T L v := by
  intro dst pos af gd Q H hq; subst h; exact hq
theorem Val.assign (h : ev T x = v) : Val P (.assign x) ty T L v := by
  intro dst pos af gd Q H hq; subst h; exact hq
theorem Val.pickT (hc : ev T c = .bool true) (h : ev T x = v) : Val P (.pick c x y) ty T L v := by
  intro dst pos af gd Q H hq
  simp only [execOp, hc, asBool, wpS_bind, wpS_pure, if_true, h]
  exact hq
theorem Val.pickF (hc : ev T c = .bool false) (h : ev T y = v) : Val P (.pick c x y) ty T L v := by
  intro dst pos af gd Q H hq
  simp only [execOp, hc, asBool, wpS_bind, wpS_pure, Bool.false_eq_true, if_false, h]
  exact hq
def intRes : BinOp → IntKind → Int → Int → Option Value
  | .add, k, a, b => some (.int k (k.wrap (a + b)))
  | .sub, k, a, b => some (.int k (k.wrap (a - b)))
  | .mul, k, a, b => some (.int k (k.wrap (a * b)))
  | .eql, _, a, b => some (.bool (a == b))
  | .neq, _, a, b => some (.bool (a != b))
  | .lss, _, a, b => some (.bool (decide (a < b)))
  | .leq, _, a, b => some (.bool (decide (a ≤ b)))
  | .gtr, _, a, b => some (.bool (decide (b < a)))
  | .geq, _, a, b => some (.bool (decide (b ≤ a)))
  | .and, k, a, b => some (.int k (k.wrap (BitVec.ofInt k.bits a &&& BitVec.ofInt k.bits b).toNat))
  | .or, k, a, b => some (.int k (k.wrap (BitVec.ofInt k.bits a ||| BitVec.ofInt k.bits b).toNat))
  | .xor, k, a, b => some (.int k (k.wrap (BitVec.ofInt k.bits a ^^^ BitVec.ofInt k.bits b).toNat))
  | .quo, k, a, b => if b = 0 then none else some (.int k (k.wrap (a.tdiv b)))
  | .rem, k, a, b => if b = 0 then none else some (.int k (a.tmod b))
  | _, _, _, _ => none
theorem Val.bin {op : BinOp} (hx : ev T x = .int k a) (hy : ev T y = .int k b) (h : intRes op k a b = some v) : Val P (.binOp op t x y t2) ty T L v := by
  intro dst pos af gd Q H hq
  have e : ∀ (Q' : Value → LH → Prop), Q' v L → wpS P Q' H (do eqGuard op t x y (.int k a) (.int k b); binOp op t (.int k a) (.int k b)) L := by
    intro Q' hq'
    rw [wpS_bind]
    have hg : ∀ Q'' : Unit → LH → Prop, wpS P Q'' H (eqGuard op t x y (.int k a) (.int k b)) L = Q'' () L := by
      intro Q''; cases op <;> rfl
    rw [hg]
    cases op <;> simp only [intRes, Option.some.injEq, reduceCtorEq] at h <;> first
      | (subst h; simp only [binOp, ne_eq, not_true_eq_false, if_false, Op.intArith, Op.intCmp, Op.intBits]; exact hq')
      | skip
    all_goals
      split at h
      · cases h
      · rename_i hb
        simp only [Option.some.injEq] at h
        subst h
        simp only [binOp, ne_eq, not_true_eq_false, if_false, Op.intDiv, if_neg hb]
        exact hq'
  simp only [execOp, hx, hy]
  rw [wpS_bind]
  exact e _ hq
theorem Val.shl {yk : IntKind} (hx : ev T x = .int k a) (hy : ev T y = .int yk b) (hb : 0 ≤ b) : Val P (.binOp .shl t x y t2) ty T L (.int k (k.wrap (a * 2 ^ min b.toNat k.bits))) := by
  intro dst pos af gd Q H hq
  have hn : ¬ b < 0 := by omega
  simp only [execOp, hx, hy, wpS_bind, eqGuard, binOp, Op.shift, if_neg hn]
  exact hq
theorem Val.shr {yk : IntKind} (hx : ev T x = .int k a) (hy : ev T y = .int yk b) (hb : 0 ≤ b) : Val P (.binOp .shr t x y t2) ty T L (.int k (a.fdiv (2 ^ min b.toNat k.bits))) := by
  intro dst pos af gd Q H hq
  have hn : ¬ b < 0 := by omega
  simp only [execOp, hx, hy, wpS_bind, eqGuard, binOp, Op.shift, if_neg hn]
  exact hq
theorem Val.not {p : Bool} (hx : ev T x = .bool p) : Val P (.unOp .not t x) ty T L (.bool (!p)) := by
  intro dst pos af gd Q H hq
  simp only [execOp, hx, wpS_bind, Op.unary, wpS_pure]
  exact hq
theorem Val.neg (hx : ev T x = .int k a) : Val P (.unOp .neg t x) ty T L (.int k (k.wrap (0 - a))) := by
  intro dst pos af gd Q H hq
  simp only [execOp, hx, wpS_bind, Op.unary, Op.intArith, wpS_pure]
  exact hq
theorem Val.conv {d1 : TypeDesc} {k' : IntKind} (h1 : P.underlying t = some d1) (h2 : P.underlying t2 = some (.int k')) (hx : ev T x = .int k a) : Val P (.convert t t2 x) ty T L (.int k' (k'.wrap a)) := by
  intro dst pos af gd Q H hq
  simp only [execOp, hx]
  rw [wpS_bind]
  unfold convert
  rw [wpS_bind, wpS_underlying h1, wpS_bind, wpS_underlying h2]
  cases d1 <;> exact hq
theorem Val.load1 {ad : Addr} (ht : aggB P t = some false) (hp : ev T x = .pointer (some ad)) (hc : L.cell? ad = some v) : Val P (.load t x) ty T L v := by
  intro dst pos af gd Q H hq
  simp only [execOp, hp]
  rw [wpS_bind]
  unfold Instr.loadAt
  rw [wpS_bind]
  simp only [Instr.sureAddr, wpS_pure]
  rw [wpS_loadVar1 ht hc]
  exact hq
theorem Val.loadN {ad : Addr} {n : Nat} {vs : List Value} (ht : aggB P t = some true) (hn : (P.info? t).map (·.size) = some n) (hp : ev T x = .pointer (some ad)) (hc : cellsAt L ad n vs) : Val P (.load t x) ty T L (.agg vs.toArray) := by
  intro dst pos af gd Q H hq
  simp only [execOp, hp]
  rw [wpS_bind]
  unfold Instr.loadAt
  rw [wpS_bind]
  simp only [Instr.sureAddr, wpS_pure]
  rw [wpS_loadVarN ht hn hc]
  exact hq
theorem wpS_fieldPlace {ad : Addr} {fl : Field} {n : Nat} (hn : (P.info? fl.type).map (·.size) = some n) (h0 : n ≠ 0) {Q : Addr → LH → Prop} {H : Value → LH → Prop} : wpS P Q H (fieldPlace ad fl) L = Q (ad.add fl.offset) L := by
  unfold fieldPlace
  rw [wpS_bind, wpS_sizeOf hn]
  simp only [if_neg h0, wpS_pure]
theorem Val.field {ad ad' : Addr} {fs : Array Field} {fl : Field} {fi n : Nat} (hu : P.underlying t = some (.struct fs)) (hf : fs[fi]? = some fl) (hn : (P.info? fl.type).map (·.size) = some n) (h0 : n ≠ 0) (hp : ev T x = .pointer (some ad)) (ha : ad.add fl.offset = ad') :
    Val P (.fieldAddr t x fi) ty T L (.pointer (some ad')) := by
  intro dst pos af gd Q H hq
  simp only [execOp, hp]
  rw [wpS_bind]
  unfold Instr.fieldAt
  rw [wpS_bind, wpS_underlying hu]
  simp only [hf]
  rw [wpS_bind]
  simp only [Instr.sureAddr, wpS_pure]
  rw [wpS_bind, wpS_fieldPlace hn h0, wpS_pure, ha]
  exact hq
theorem Val.nilCheckP {ad : Addr} (hx : ev T x = .pointer (some ad)) : Val P (.nilCheck x) ty T L (.pointer (some ad)) := by
  intro dst pos af gd Q H hq
  simp only [execOp, hx]
  exact hq
theorem Val.nilCheckF {g : FuncId} {f1 f2 : Array Value} (hx : ev T x = .func (.func g) f1 f2) : Val P (.nilCheck x) ty T L (.func (.func g) f1 f2) := by
  intro dst pos af gd Q H hq
  simp only [execOp, hx]
  exact hq
theorem Val.nilCheckY {l : Nat} {f1 f2 : Array Value} (hx : ev T x = .func (.yield l) f1 f2) : Val P (.nilCheck x) ty T L (.func (.yield l) f1 f2) := by
  intro dst pos af gd Q H hq
  simp only [execOp, hx]
  exact hq
theorem Val.indexSlice {e : TypeId} {ad : Addr} {len cap n i : Nat} (hu : P.underlying t = some (.slice e)) (hn : (P.info? e).map (·.size) = some n) (hx : ev T x = .slice (some ad) len cap) (hy : ev T y = .int k (i : Int)) (hi : i < len) :
    Val P (.indexAddr t x y) ty T L (.pointer (some (ad.add (i * n)))) := by
  intro dst pos af gd Q H hq
  simp only [execOp, hx, hy]
  rw [wpS_bind]
  unfold Instr.indexAt
  simp only [asIntOf, wpS_bind, wpS_pure]
  rw [wpS_underlying hu]
  simp only [wpS_bind, wpS_pure]
  rw [wpS_underlying hu]
  have hlt : (0 : Int) ≤ (i : Int) ∧ (i : Int) < (len : Int) := ⟨by omega, by omega⟩
  simp only [hlt, and_self, if_true]
  rw [wpS_bind, wpS_sizeOf hn, wpS_pure]
  exact hq
theorem Val.indexArr {e : TypeId} {ad : Addr} {len n i : Nat} (hu : P.underlying t = some (.array len e)) (hn : (P.info? e).map (·.size) = some n) (hx : ev T x = .pointer (some ad)) (hy : ev T y = .int k (i : Int)) (hi : i < len) :
    Val P (.indexAddr t x y) ty T L (.pointer (some (ad.add (i * n)))) := by
  intro dst pos af gd Q H hq
  simp only [execOp, hx, hy]
  rw [wpS_bind]
  unfold Instr.indexAt
  simp only [asIntOf, wpS_bind, wpS_pure]
  rw [wpS_underlying hu]
  simp only [Instr.sureAddr, wpS_bind, wpS_pure]
  rw [wpS_underlying hu]
  have hlt : (0 : Int) ≤ (i : Int) ∧ (i : Int) < (len : Int) := ⟨by omega, by omega⟩
  simp only [hlt, and_self, if_true]
  rw [wpS_bind, wpS_sizeOf hn, wpS_pure]
  exact hq
theorem Val.extract {vs : Array Value} {n : Nat} (hx : ev T x = .tuple vs) (h : vs[n]? = some v) : Val P (.extract x n) ty T L v := by
  intro dst pos af gd Q H hq
  simp only [execOp, hx, wpS_bind, Instr.extract, h, wpS_pure]
  exact hq
theorem Val.makeFunc {g : Go.Fn} {f1 f2 : Array Operand} {v1 v2 : Array Value} (h1 : f1.map (ev T) = v1) (h2 : f2.map (ev T) = v2) : Val P (.makeFunc g f1 f2) ty T L (.func g v1 v2) := by
  intro dst pos af gd Q H hq
  simp only [execOp, wpS_bind, Instr.makeFunc, wpS_pure, h1, h2]
  exact hq
theorem Val.makeIface {d1 : TypeDesc} (hu : P.underlying t = some d1) (hn : ∀ ms, d1 ≠ .interface ms) (h : ev T x = v) : Val P (.makeInterface t x) ty T L (.iface t v) := by
  intro dst pos af gd Q H hq
  simp only [execOp, h]
  rw [wpS_bind]
  unfold Instr.makeInterface
  rw [wpS_bind, wpS_underlying hu]
  cases d1 <;> first | exact absurd rfl (hn _) | exact hq
theorem Val.build {fs : Array Field} {parts : Array (Nat × Operand)} {z : Value} {pv : List (Nat × Value)} {pl : Array (Nat × Nat)} {cells : Array Value} (hz : (P.info? t).bind (·.zero) = some z) (hu : P.underlying t = some (.struct fs))
    (hp : (parts.map fun (i, x) => (i, ev T x)).toList = pv) (hpl : ∀ (Q : Array (Nat × Nat) → LH → Prop) (H : Value → LH → Prop), wpS P Q H (fs.mapM fun f => do pure (f.offset, ← sizeOf f.type)) L = Q pl L) (hc : Instr.fill (pl[·]?) z.cells pv = some cells) :
    Val P (.build t parts) ty T L (.agg cells) := by
  intro dst pos af gd Q H hq
  simp only [execOp]
  rw [wpS_bind]
  unfold Instr.build
  rw [wpS_bind, wpS_zeroValue hz, wpS_bind, wpS_underlying hu]
  simp only
  rw [wpS_bind, hpl, hp]
  simp only [hc]
  exact hq
theorem Val.lenSlice {ad : Option Addr} {len cap : Nat} {e t0 : TypeId} (hu : P.underlying t0 = some (.slice e)) (hx : ev T x = .slice ad len cap) : Val P (.call { callee := .builtin .len, args := #[x], argTypes := #[t0] }) ty T L (.int .i64 len) := by
  intro dst pos af gd Q H hq
  simp only [execOp, resolve, List.map_toArray, List.map_cons, List.map_nil, hx, pure, Sem.bind, bind, invoke, builtin, Builtin.len_]
  simp only [List.getElem?_toArray, List.getElem?_cons_zero]
  show wpS P Q H ((_ >>= _) >>= _) L
  rw [wpS_bind, wpS_bind, wpS_underlying hu]
  exact hq
theorem Val.lenArr {n : Nat} {e t0 : TypeId} (hu : P.underlying t0 = some (.array n e)) : Val P (.call { callee := .builtin .len, args := #[x], argTypes := #[t0] }) ty T L (.int .i64 n) := by
  intro dst pos af gd Q H hq
  simp only [execOp, resolve, List.map_toArray, List.map_cons, List.map_nil, pure, Sem.bind, bind, invoke, builtin, Builtin.len_]
  simp only [List.getElem?_toArray, List.getElem?_cons_zero]
  show wpS P Q H ((_ >>= _) >>= _) L
  rw [wpS_bind, wpS_bind, wpS_underlying hu]
  exact hq
theorem Val.min {t0 : Array TypeId} (hx : ev T x = .int k a) (hy : ev T y = .int k b) : Val P (.call { callee := .builtin .min, args := #[x, y], argTypes := t0 }) ty T L (.int k (if b < a then b else a)) := by
  intro dst pos af gd Q H hq
  simp only [execOp, resolve, List.map_toArray, List.map_cons, List.map_nil, hx, hy, pure, Sem.bind, bind, invoke, builtin, Builtin.min_, List.foldlM_cons, List.foldlM_nil, Builtin.min2]
  exact hq
theorem Val.max {t0 : Array TypeId} (hx : ev T x = .int k a) (hy : ev T y = .int k b) : Val P (.call { callee := .builtin .max, args := #[x, y], argTypes := t0 }) ty T L (.int k (if b > a then b else a)) := by
  intro dst pos af gd Q H hq
  simp only [execOp, resolve, List.map_toArray, List.map_cons, List.map_nil, hx, hy, pure, Sem.bind, bind, invoke, builtin, Builtin.max_, List.foldlM_cons, List.foldlM_nil, Builtin.max2]
  exact hq
end
end Go.Mz

