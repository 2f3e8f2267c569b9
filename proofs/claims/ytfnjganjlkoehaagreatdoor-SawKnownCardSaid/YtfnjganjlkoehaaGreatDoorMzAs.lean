/- Lemmas on which the claim leans. -/
import Derived.Test.YtfnjganjlkoehaaGreatDoorMzAr
import Derived.Conc.TokenWalk
set_option maxRecDepth 100000
namespace Go.Mz
open Go.Conc Go.ConcN Go.Proofs
open Go.ConcR (KK wgBlock WgAt smA rd wr mk)
structure AD where
 s : Sw
 p : Wp
 W : Nat
 C : Nat
 bs : Nat
 bf : Nat
 L0 : LH
 R0 : LH
 kd : CallKind
 c : Frame
 cs : List Frame
 Post : Value → World → Prop
 W0 : World
noncomputable def pool0 (D : Nat) : Pool := { P := Tryz.prog, ty := 153, W := 0, C := 0, D := D, n := 0, base := 0, out := fun _ _ _ => False, mute := fun _ => False, ML := fun _ _ _ => False, Anch := fun _ _ => False, Fin := fun _ _ => False }
noncomputable abbrev found (s : Sw) (k : Nat) : CrV := crV k (crushW s (bits5 k))
noncomputable def allPool (z : AD) (ML : (Nat → Prop) → Goroutine → LH → Prop) : Pool := { P := Tryz.prog, ty := 153, W := z.W, C := z.C, D := z.C, n := 2 ^ z.s.wants.length, base := 0, out := fun k v Gv => v = cC (found z.s k) ∧ Gv = LH.nil, mute := fun _ => False, ML := ML, Anch := AnW z.W (KClose (pool0 z.C)), Fin := FGo Tryz.prog z.Post z.W0 }
variable {z : AD} {ML : (Nat → Prop) → Goroutine → LH → Prop}
theorem addS_of (k : Nat) (Nx : Goroutine → LH → Prop) : AddS z.W (MKd (allPool z ML) k Nx) (MAdd (allPool z ML) k Nx) (MSaid (allPool z ML) k Nx) (MEn (allPool z ML) k Nx) (MGo (allPool z ML) k Nx) where
 h1 := fun g g' L h1 h2 h3 => ⟨h1, g', h2, h3⟩
 h2 := fun g L h1 h2 => ⟨h1, h2⟩
 h3 := fun g g' L h1 h2 h3 => ⟨h1, g', h2, h3⟩
 h4 := fun g g' L h1 h2 h3 => ⟨h1, g', h2, h3⟩
theorem waitS_of : WaitS z.W (KDis (allPool z ML)) (KLd (allPool z ML)) (KCas (allPool z ML)) (KSaid (allPool z ML)) (KSem (allPool z ML)) (KL4 (allPool z ML)) (KEnb (allPool z ML)) (KAcq (allPool z ML)) (KClose (allPool z ML)) (AnW z.W (KClose (allPool z ML))) where
 h1 := fun g g' L h1 h2 h3 => ⟨h1, g', h2, h3⟩
 h2 := fun g L h1 h2 h3 => ⟨h1, h2, h3⟩
 h3 := fun vs g L h1 h2 h3 => ⟨h1, h2, h3⟩
 h4 := fun g g' L h1 h2 h3 => ⟨h1, g', h2, h3⟩
 h5 := fun g L h1 h2 h3 h4 => ⟨h1, h2, h3, h4⟩
 h6 := fun g L h1 h2 => ⟨h1, h2⟩
 h7 := fun g g' L h1 h2 h3 => ⟨h1, g', h2, h3⟩
 h8 := fun g g' L h1 h2 h3 => ⟨h1, g', h2, h3⟩
theorem anch_way (b : Nat) : ∀ g L, (allPool z ML).Anch g L → Way (allPool z ML).P false (allPool z ML).Φ (KLd { allPool z ML with base := b }) g L :=
 anW_way (waitS_of (z := z) (ML := ML))
noncomputable def botF : Frame := { (default : Frame) with fn := Tryz.prog.funcs.size, defers := [], mode := .panicking [goexitEntry] }
theorem quitsTail (f : FuncId) (T : Array Value) (k : List Item) {fn : Func} (hf : Tryz.prog.funcs[f]? = some fn) (hr : fn.results = #[]) : QuitsD Tryz.prog 2 0 (G (Fr f T k [] .returning .deferred none) [botF]) := by
 refine QuitsD.ctl (g' := G botF []) rfl (fun w => ?_) ?_
 ·simp [G, stepG, unwind, doReturn, results, Fr, botF, hf, hr, seen, GStep.after, goexitEntry]
 refine QuitsD.ctl (g' := { G botF [] with status := .finished }) rfl (fun w => ?_) ⟨rfl, rfl⟩
 simp [G, stepG, unwind, botF, goexitEntry, Frame.catches]
 rfl
theorem atDn_of {T : Array Value} {k : List Item} {cc : Nat} {v : Value} {c : Array Value} {e : TypeId} {fz : Nat × Nat} {R : LH} (h1 : R cc = some (.cells c e fz, true)) (h2 : c[0]? = some v) :
  AtDn (allPool z ML) (G (Fr 130 T k [dcall 131 #[pt z.W]] .returning .deferred none) [botF]) R := by
 refine ⟨rfl, 24, cc, v, c, e, fz, h1, h2, fun w hw hh => ?_⟩
 have hK := And.intro hw hh
 refine Goes.step rfl fun w₁ h₁ => ?_
 replace hK := Go.ConcN.Gen.kn_rely hK h₁
 have hA := @Go.ConcN.Gen.doneN pay0 lnk Tryz.prog wgLib Own0 Own0 z.W cc 1 0 1 v (Fr 130 T k [] .returning .deferred none) [botF] 2 rfl (quitsTail 130 T k Tryz.func130 rfl) w₁ hK
 have hs := stepG_unwind_enter (P := Tryz.prog) (main := false) (b := baseD 130) (a := ⟨T, [dcall 131 #[pt z.W]]⟩) (ds := []) (todo := k) (cs := [botF]) (w := w₁) rfl Tryz.func131 (by kernel_rfl) rfl
 have hs' : stepG Tryz.prog false (G (Fr 130 T k [dcall 131 #[pt z.W]] .returning .deferred none) [botF]) w₁ = _ := hs
 show (stepG Tryz.prog false _ w₁).goes _
 rw [hs']
 simp only [goes_go]
 refine ⟨?_, hA⟩
 u_nil
theorem born_enter {g : FuncId} {fn : Func} {f1 f2 : Array Value} {bd : Code} (hf : Tryz.prog.funcs[g]? = some fn) (hn : (fn.name == "runtime.NumGoroutine") = false) (hb : fn.body = some bd) (w : World) :
  stepG Tryz.prog false (born Tryz.prog ⟨.fn (.func g) f2, f1⟩) w = .go (G (Frame.enter Tryz.prog g (f1 ++ f2) .deferred) [botF]) w := by
 have h4 : ¬ fn.name = "runtime.NumGoroutine" := by simpa using hn
 simp [born, G, stepG, unwind, callDeferred, invoke, callFunc, hf, h4, hb, GStep.after, seen_none, botF, goexitEntry]
theorem closer_way {R : LH} (hd : R.cell? ⟨z.bf, 0, none⟩ = some (.chan (some z.C))) : Way Tryz.prog false (WgLive 153 z.W) (KDis (allPool z ML)) (born Tryz.prog ⟨.fn (.func 132) #[pt z.W, pt z.bf], #[]⟩) R := by
 refine (LW z.W (KDis (allPool z ML))).quiet rfl (born_enter Tryz.func132 (by kernel_rfl) rfl) ?_
 refine W.start (n := 4) (args := [pt z.W, pt z.bf]) Tryz.func132 rfl rfl rfl ?_
 refine W.go 99 rfl ?_
 refine W.callX rfl rfl rfl rfl (wait_sp (waitS_of (z := z) (ML := ML)) R) ?_
 rintro Y v _ ⟨rfl, rfl, rfl⟩
 refine W.go 99 rfl ?_
 refine W.vf rfl rfl rfl rfl (Vf.load rfl rfl rfl (hd)) ?_
 refine W.go 99 rfl ?_
 refine W.stop rfl fun T R β hT hE hH => ?_
 have e3 : (⟨T, []⟩ : Act).eval (.tmp 3) = .chan (some z.C) := (congrFun (act_ev T []) _).trans (Option.some.inj (hE 3 _ rfl)).symm
 refine ⟨rfl, _, 4, rfl, rfl, fun w s r h => stepG_close (b := bF 132 .deferred) (a := ⟨T, []⟩) (kk := []) rfl rfl (by decide) rfl e3 h (by kernel_rfl), ?_⟩
 exact QuitsD.ctl (g' := G (Fr 132 T [] [] .run .deferred none) [botF]) rfl (fun w => by simp [G, Fr, bF, Frame.at, Act.put, stepG, stepG.exec])
  (QuitsD.ctl (g' := G (Fr 132 T [] [] .returning .deferred none) [botF]) rfl (fun w => by simp [G, Fr, stepG, stepG.exec]) (quitsTail 132 T [] Tryz.func132 rfl))
theorem bits_wn {s : Sw} {k : Nat} (hk : k < 2 ^ s.wants.length) : WnOk s (bits5 k) := fun i hi => by
 unfold bits5 at hi
 have h1 := (List.mem_filter.1 hi).2
 refine Classical.byContradiction fun hn => ?_
 have : k < 2 ^ i := Nat.lt_of_lt_of_le hk (Nat.pow_le_pow_right (by decide) (by omega))
 rw [Nat.testBit_lt_two_pow this] at h1
 cases h1
theorem pow5 {s : Sw} (h : SOk s) : 2 ^ s.wants.length ≤ 32 := Nat.pow_le_pow_right (n := 2) (by decide) h.w5
structure WkAt (z : AD) (k bi : Nat) (R : LH) : Prop where
 s : R.cell? ⟨z.bf, 0, none⟩ = some (.chan (some z.C))
 bs : cellsAt R ⟨z.bs, 0, none⟩ 4 (encSw z.s z.p)
 sw : SwAt R z.s z.p
 i : R bi = some (.cells #[.int .i64 k] 3 (0, 0), true)
 ok : SOk z.s
theorem worker_way {k bi : Nat} {R : LH} (h : WkAt z k bi R) (hk : k < 2 ^ z.s.wants.length) : Way Tryz.prog false (WgLive 153 z.W) (WStop (allPool z ML) k) (born Tryz.prog ⟨.fn (.func 130) #[pt z.W, pt z.bf, pt z.bs, pt bi], #[]⟩) R := by
 refine (LW z.W (WStop (allPool z ML) k)).quiet rfl (born_enter Tryz.func130 (by kernel_rfl) rfl) ?_
 refine W.start (n := 9) (args := [pt z.W, pt z.bf, pt z.bs, pt bi]) Tryz.func130 rfl rfl rfl ?_
 have h32 := pow5 h.ok
 have hcr := crush_sp (X := LW z.W (WStop (allPool z ML) k)) z.s z.p k R h.sw h.ok (by omega) (bits_wn hk)
 have hwu : IntKind.u8.wrap (k : Int) = (k : Int) := by
  unfold IntKind.wrap
  exact Int.emod_eq_of_lt (by omega) (by show (k : Int) < 256; omega)
 refine W.go 99 rfl ?_
 refine W.deferF rfl rfl rfl rfl ?_
 refine W.go 99 rfl ?_
 refine W.drawn (by kernel_rfl) _ (Le.refl _) ?_
 refine DD.vf 0 rfl rfl rfl rfl rfl (Vf.load rfl rfl rfl (h.s)) ?_
 refine DD.vf 1 rfl rfl rfl rfl rfl (Vf.loadN rfl rfl rfl (h.bs)) ?_
 refine DD.vf 2 rfl rfl rfl rfl rfl (Vf.load rfl rfl rfl (cell_of h.i rfl)) ?_
 refine DD.run' [3] rfl ?_
 rw [hwu]
 refine DD.act 4 rfl rfl rfl rfl rfl (Ef.call rfl (hcr)) ((by rintro _ _ _ ⟨_, rfl, rfl, rfl, hl⟩; exact ⟨hl, rfl, .inl rfl⟩)) ?_
 rintro _ _ _ ⟨_, rfl, rfl, rfl, hle⟩
 refine DD.rest 5 rfl rfl rfl rfl ?_
 refine W.commO rfl rfl rfl rfl rfl rfl fun T R' g hev hwt ho' hg hrun hof hle4 cont => .inl ?_
 have e4 : (⟨T, [dcall 131 #[pt z.W]]⟩ : Act).eval (.tmp 4) = .chan (some z.C) := hev _ _ _ rfl rfl
 have e8 : (⟨T, [dcall 131 #[pt z.W]]⟩ : Act).eval (.tmp 8) = cC (found z.s k) := hev _ _ _ rfl rfl
 refine ⟨hrun, cC (found z.s k), .tuple #[], g, R', LH.nil, fun w hw => ?_, fun _ _ h => h, (fun _ _ h => by cases h), fun b => .inr rfl, ⟨rfl, rfl⟩, ?_⟩
 ·rw [hg]
  refine (stepG_comm (w' := w) (cases := #[scase z.C (cC (found z.s k)) (.tuple #[])]) (blocking := true) (shape := .send) ho' hwt (show CallKind.deferred ≠ CallKind.early by decide) (by simp [execOp, e4, e8, scase])).trans ?_
  simp [listed, execOp, seen]
  rfl
 ·refine cont (LW z.W (AtDn (allPool z ML))) undef ?_
  refine W.go 99 rfl ?_
  intro T R' β hT hE hH
  have hbi : R' bi = some (.cells #[.int .i64 k] 3 (0, 0), true) := hH.le _ _ (hle _ _ h.i)
  exact (LW z.W (AtDn (allPool z ML))).quiet (g' := G (Fr 130 T [] [dcall 131 #[pt z.W]] .returning .deferred none) [botF]) rfl (fun w => by simp [G, Fr, stepG, stepG.exec]) (Way.stop (atDn_of hbi rfl))
end Go.Mz


namespace Go.Mz
open Go.Conc
section
variable {P : Program} {C : Cx P} {E : Look} {B : List (Option Bx)} {L : LH} {dst : Option Tmp} {ty : TypeId} {pos : String} {af : Array Edge} {gd : Option (Nat × Bool)}
theorem Ef.makeChan {t e : TypeId} {cd : ChanDir} {bts : Nat} {x : Operand} (hx : evS E x = some (.v (.int .i64 0))) (hu : P.underlying t = some (.chan cd e)) (hb : (P.info? e).map (·.bytes) = some bts) :
  Ef C ⟨dst, .makeChan t x, ty, pos, af, gd⟩ E B L (fun sv B' L' => ∃ r, sv = .v (.chan (some r)) ∧ B' = B ∧ L r = none ∧ L' = L.put r (.chan 0 #[] false 0 0 false)) := by
 intro T R β hE hH
 have ex : ev T x = .int .i64 0 := (Option.some.inj (hE.val hx)).symm
 obtain ⟨inf, hinf, hib⟩ : ∃ inf, P.info? e = some inf ∧ inf.bytes = bts := by
  cases hx : P.info? e with
  | none => rw [hx] at hb; cases hb
  | some i => rw [hx] at hb; cases hb; exact ⟨i, rfl, rfl⟩
 refine ⟨rfl, ?_⟩
 simp only [execOp, ex]
 rw [wpS_bind]
 unfold Instr.makeChan
 rw [wpS_bind]
 show wpS P _ _ (underlying t >>= _) R
 rw [wpS_bind, wpS_underlying hu]
 simp only
 rw [wpS_bind, wpS_typeInfo hinf]
 have hmax : (0 : Int) ≤ IntKind.i64.max := by decide
 rw [if_neg (by simp [hmax])]
 intro b hb
 exact ⟨_, B, _, ⟨b, rfl, rfl, (hH.free hb).1, rfl⟩, rfl, hH.newF hb _, fun _ _ => rfl⟩
end
end Go.Mz


set_option maxRecDepth 100000
namespace Go.Mz
open Go.Conc Go.Proofs
section
variable {P : Program} {C : Cx P} {E : Look} {B : List (Option Bx)} {L : LH} {dst : Option Tmp} {ty : TypeId} {pos : String} {af : Array Edge} {gd : Option (Nat × Bool)}
theorem Ef.makeSliceK {t e : TypeId} {x : Operand} {n k bts : Nat} {z : Value} (hx : evS E x = some (.v (.int .i64 n))) (hn : n ≤ 10000) (hn0 : n ≠ 0) (hk0 : k ≠ 0) (hu : P.underlying t = some (.slice e)) (hk : (P.info? e).map (·.size) = some k) (hbt : (P.info? e).map (·.bytes) = some bts) (hz : (P.info? e).bind (·.zero) = some z) (hb : bts ≤ 1024) :
  Ef C ⟨dst, .makeSlice t x x, ty, pos, af, gd⟩ E B L (fun sv B' L' => ∃ b, sv = .v (.slice (some ⟨b, 0, none⟩) n n) ∧ B' = B ∧ L b = none ∧ L' = L.put b (.cells ((Array.range (n * k)).map fun x => z.cells[x % z.cells.size]!) e)) := by
 intro T R β hE hH
 have ex : ev T x = .int .i64 n := (Option.some.inj (hE.val hx)).symm
 obtain ⟨inf, hinf, hib⟩ : ∃ inf, P.info? e = some inf ∧ inf.bytes = bts := by
  cases hx : P.info? e with
  | none => rw [hx] at hbt; cases hbt
  | some i => rw [hx] at hbt; cases hbt; exact ⟨i, rfl, rfl⟩
 have hw : IntKind.i64.wrap (n : Int) = n := wrap64_in _ (by omega) (by omega)
 refine ⟨rfl, ?_⟩
 simp only [execOp, ex]
 rw [wpS_bind]
 unfold Instr.makeSlice
 rw [wpS_bind, wpS_underlying hu]
 simp only
 rw [wpS_bind]
 show wpS P _ _ (asInt (.int .i64 n) >>= _) R
 rw [wpS_bind]
 show wpS P _ _ (typeInfo e >>= _) R
 rw [wpS_bind, wpS_typeInfo hinf]
 simp only [hw]
 have hmul : bts * n ≤ 1024 * 10000 := Nat.mul_le_mul hb hn
 have h48 : (inf.bytes : Int) * (n : Int) ≤ 281474976710656 := by
  rw [hib]
  have : ((bts * n : Nat) : Int) ≤ 10240000 := by omega
  rw [Int.natCast_mul] at this
  omega
 rw [if_neg (by simp [h48])]
 rw [wpS_bind]
 refine wpS_askRoom ?_
 rw [wpS_bind, wpS_sizeOf hk]
 simp only [Int.toNat_natCast]
 rw [if_neg (Nat.mul_ne_zero hn0 hk0), wpS_bind, wpS_zeroValue hz, wpS_bind, wpS_pure, wpS_bind, wpS_newRow]
 intro b hb
 exact ⟨_, B, _, ⟨b, rfl, rfl, (hH.free hb).1, rfl⟩, rfl, hH.newF hb _, fun _ _ => rfl⟩
end
end Go.Mz


set_option maxRecDepth 100000
namespace Go.Mz
open Go.Conc Go.ConcN Go.Proofs
open Go.ConcR (KK wgBlock WgAt smA rd wr mk)
def findB (m : Nat) : Code → List Code → Option (Code × List Code)
 | .block l b, k => if Nat.beq l m then some (b, k) else none
 | .seq a b, k => match findB m a (b :: k) with
  | some r => some r
  | none => findB m b k
 | _, _ => none
def findR (m : Nat) : Code → List Code → Option (Array Oper × List Code)
 | .region l ops _, k => if Nat.beq l m then some (ops, k) else none
 | .seq a b, k => match findR m a (b :: k) with
  | some r => some r
  | none => findR m b k
 | _, _ => none
def Dim (L L' : LH) : Prop := ∀ b o wr, L b = some (o, wr) → ∃ wr', L' b = some (o, wr')
theorem Dim.of_le {L L' : LH} (h : Le L L') : Dim L L' := fun b o wr hb => ⟨wr, h _ _ hb⟩
theorem Dim.trans {L L' L2 : LH} (h : Dim L L') (h2 : Dim L' L2) : Dim L L2 := fun b o wr hb => let ⟨w1, h1⟩ := h b o wr hb; h2 b o w1 h1
theorem Dim.cell {L L' : LH} (h : Dim L L') {a : Addr} {v : Value} (hc : L.cell? a = some v) : L'.cell? a = some v := by
 unfold LH.cell? at hc ⊢
 cases hb : L a.block with
 | none => rw [hb] at hc; cases hc
 | some x =>
  obtain ⟨o, wr⟩ := x
  obtain ⟨wr', h'⟩ := h _ _ _ hb
  rw [hb] at hc
  rw [h']
  cases o <;> first | exact hc | cases hc
theorem Dim.cells {L L' : LH} (h : Dim L L') {a : Addr} {n : Nat} {vs : List Value} (hc : cellsAt L a n vs) : cellsAt L' a n vs := ⟨hc.1, fun i v hv => h.cell (hc.2 i v hv)⟩
theorem Dim.sl {α : Type} {L L' : LH} (h : Dim L L') {ad : Option Addr} {k : Nat} {enc : α → List Value} {l : List α} (hs : SlAt L ad k enc l) : SlAt L' ad k enc l := fun i x hx => let ⟨a, h1, h2⟩ := hs i x hx; ⟨a, h1, fun j v hv => h.cell (h2 j v hv)⟩
theorem flat_set_get {α : Type} {enc : α → List Value} {k : Nat} (hk : ∀ x, (enc x).length = k) : ∀ (l : List α) (d : Nat) (x : α) (i : Nat), d < l.length → ((l.set d x).flatMap enc)[i]? = if d * k ≤ i ∧ i < d * k + k then (enc x)[i - d * k]? else (l.flatMap enc)[i]?
 | [], _, _, _, h => absurd h (Nat.not_lt_zero _)
 | y :: l, 0, x, i, _ => by
  simp only [List.set_cons_zero, List.flatMap_cons, Nat.zero_mul, Nat.zero_add, Nat.zero_le, true_and, Nat.sub_zero]
  by_cases h : i < k
  ·rw [if_pos h, List.getElem?_append_left (by rw [hk]; exact h)]
  ·rw [if_neg h, List.getElem?_append_right (by rw [hk]; omega), List.getElem?_append_right (by rw [hk]; omega), hk, hk]
 | y :: l, d + 1, x, i, h => by
  simp only [List.set_cons_succ, List.flatMap_cons]
  have e : (d + 1) * k = d * k + k := Nat.succ_mul d k
  by_cases h2 : i < k
  ·rw [List.getElem?_append_left (by rw [hk]; exact h2), List.getElem?_append_left (by rw [hk]; exact h2), if_neg (by omega)]
  ·rw [List.getElem?_append_right (by rw [hk]; omega), List.getElem?_append_right (by rw [hk]; omega), hk, flat_set_get hk l d x (i - k) (by simpa using h)]
   by_cases h3 : d * k ≤ i - k ∧ i - k < d * k + k
   ·rw [if_pos h3, if_pos (by omega), e, show i - k - d * k = i - (d * k + k) by omega]
   ·rw [if_neg h3, if_neg (by omega)]
theorem join_nil (L : LH) : L.join LH.nil = L := by
 funext b
 unfold LH.join LH.nil
 cases L b <;> rfl
theorem Dim.rows {α : Type} {L L' : LH} (h : Dim L L') {ad : Option Addr} {k : Nat} {enc : α → List Value} {ls : List (List α)} (hs : RowsAt L ad k enc ls) : RowsAt L' ad k enc ls :=
 let ⟨rs, h1, h2, h3⟩ := hs; ⟨rs, h1, h.sl h2, fun x hx => ⟨h.sl (h3 x hx).sl, (h3 x hx).len, (h3 x hx).cap⟩⟩
theorem Dim.sw {L L' : LH} (h : Dim L L') {s : Sw} {p : Wp} (hs : SwAt L s p) : SwAt L' s p := ⟨h.rows hs.lo, h.sl hs.st, h.sl hs.wt, hs.cap⟩
noncomputable def alB0 : Code × List Code := ((Tryz.f102.body.bind (findB 0 · [])).getD (.skip, []))
noncomputable def alC0 : Code := match alB0.1 with | .loop c => c | _ => .skip
noncomputable def alK0 : List Item := .inBlock 0 :: alB0.2.map .code
noncomputable def alB2 : Code × List Code := ((Tryz.f102.body.bind (findB 2 · [])).getD (.skip, []))
noncomputable def alC2 : Code := match alB2.1 with | .loop c => c | _ => .skip
noncomputable def alK2 : List Item := .inBlock 2 :: alB2.2.map .code
noncomputable def alB3 : Code := ((findB 3 alC2 []).getD (.skip, [])).1
noncomputable def alR12 : Array Oper × List Code := (findR 12 alB3 []).getD (#[], [])
noncomputable def alS : List Item := .inRegion alR12.1 [1, 2, 3, 4, 5, 6, 7] :: (alR12.2.map .code ++ (.inBlock 3 :: .inLoop alC2 :: alK2))
structure AllAt (z : AD) (L : LH) : Prop where
 bs : cellsAt L ⟨z.bs, 0, none⟩ 4 (encSw z.s z.p)
 f : L.cell? ⟨z.bf, 0, none⟩ = some (.chan (some z.C))
 sw : SwAt L z.s z.p
theorem AllAt.dim {z : AD} {L L' : LH} (h : AllAt z L) (hd : Dim L L') : AllAt z L' := ⟨hd.cells h.bs, hd.cell h.f, hd.sw h.sw⟩
def Fr0 (z : AD) (b : Nat) : Prop := z.L0 b = none ∧ z.R0 b ≠ none
open Classical in
noncomputable def nf (z : AD) (R : LH) : LH := fun b => if Fr0 z b then none else R b
theorem nf_le (z : AD) (R : LH) : Le (nf z R) R := fun b x hx => by
 unfold nf at hx
 split at hx
 ·cases hx
 ·exact hx
theorem nf_mono {z : AD} {R R' : LH} (h : Le R R') : Le (nf z R) (nf z R') := fun b x hx => by
 unfold nf at hx ⊢
 split at hx
 ·cases hx
 ·rename_i hf; rw [if_neg hf]; exact h b x hx
structure InvE (z : AD) (R : LH) : Prop where
 at_ : AllAt z (nf z R)
 keep : ∀ b x, z.L0 b = none → z.R0 b = some x → R b = some x
 dom : ∀ b o wr, z.L0 b = some (o, wr) → ∃ wr', R b = some (o, wr')
theorem InvE.le {z : AD} {R R' : LH} (h : InvE z R) (hl : Le R R') : InvE z R' :=
 ⟨h.at_.dim (Dim.of_le (nf_mono hl)), fun b x h1 h2 => hl _ _ (h.keep b x h1 h2), fun b o wr hb => let ⟨w1, h1⟩ := h.dom b o wr hb; ⟨w1, hl _ _ h1⟩⟩
abbrev zC : CrV := ⟨0, 0, 0, 0, 0, 0, false⟩
open Classical in
noncomputable def cl (s : Sw) (n : Nat) (Rk : Nat → Prop) : List CrV := (List.range n).map fun i => if Rk i then found s i else zC
noncomputable def fineC (s : Sw) (n : Nat) (Rk : Nat → Prop) : Array Value := ((cl s n Rk).flatMap encC).toArray
theorem cl_len {s : Sw} {n : Nat} {Rk : Nat → Prop} : (cl s n Rk).length = n := by simp [cl]
theorem fineC_size {s : Sw} {n : Nat} {Rk : Nat → Prop} : (fineC s n Rk).size = n * 7 := by
 unfold fineC
 rw [List.size_toArray, flat_len encC_len, cl_len]
theorem cl_set {s : Sw} {n : Nat} {Rk : Nat → Prop} {k : Nat} : (cl s n Rk).set k (found s k) = cl s n (fun i => Rk i ∨ i = k) := by
 refine List.ext_getElem? fun j => ?_
 unfold cl
 rw [List.getElem?_set]
 by_cases hj : j < n
 ·rw [List.getElem?_map, List.getElem?_map, List.getElem?_range hj]
  simp only [Option.map_some]
  by_cases e : k = j
  ·subst e
   rw [if_pos rfl, if_pos (by simpa using hj), if_pos (.inr rfl)]
  ·rw [if_neg e]
   by_cases hr : Rk j
   ·rw [if_pos hr, if_pos (.inl hr)]
   ·rw [if_neg hr, if_neg (fun h => h.elim hr fun h => e h.symm)]
 ·rw [List.getElem?_eq_none (by simp; omega), List.getElem?_eq_none (by simp; omega)]
  split
  ·rw [if_neg (by simp; omega)]
  ·rfl
theorem putRow_flat {α : Type} {enc : α → List Value} {m : Nat} (hm : ∀ x, (enc x).length = m) {l : List α} {k : Nat} (hk : k < l.length) (x : α) : putRow (l.flatMap enc).toArray (k * m) (enc x) = ((l.set k x).flatMap enc).toArray := by
 refine Array.ext_getElem? fun j => ?_
 have hl := flat_len hm l
 rw [putRow_get, List.getElem?_toArray, List.getElem?_toArray, flat_set_get hm l k x j hk]
 have hle : k * m + m ≤ l.length * m := by rw [← Nat.succ_mul]; exact Nat.mul_le_mul_right _ hk
 by_cases h1 : j < k * m
 ·rw [if_pos h1, if_neg (by omega)]
 ·rw [if_neg h1]
  by_cases h2 : j < k * m + m
  ·rw [if_pos ⟨by omega, h2⟩, dif_pos ⟨by rw [hm]; omega, by rw [List.size_toArray, hl]; omega⟩]
   exact (List.getElem?_eq_getElem _).symm
  ·rw [if_neg (by omega), dif_neg (by rw [hm]; omega)]
theorem fineC_set {s : Sw} {n : Nat} {Rk : Nat → Prop} {k : Nat} (hk : k < n) : putRow (fineC s n Rk) (k * 7) (encC (found s k)) = fineC s n (fun i => Rk i ∨ i = k) := by
 unfold fineC
 rw [putRow_flat encC_len (by rw [cl_len]; exact hk), cl_set]
theorem fineC_zero {s : Sw} {n : Nat} {z : Value} (hz : z.cells = (encC zC).toArray) : ((Array.range (n * 7)).map fun x => z.cells[x % z.cells.size]!) = fineC s n fun _ => False := by
 refine Array.ext_getElem? fun j => ?_
 rw [hz]
 have hs : (encC zC).toArray.size = 7 := rfl
 rw [hs]
 unfold fineC
 have hcl : cl s n (fun _ => False) = (List.range n).map fun _ => zC := by unfold cl; simp
 rw [hcl]
 have hR : (((List.range n).map fun _ => zC).flatMap encC).toArray[j]? = (((List.range n).map fun _ => zC).flatMap encC)[j]? := List.getElem?_toArray
 rw [hR]
 by_cases hj : j < n * 7
 ·have hd : j = (j / 7) * 7 + j % 7 := by omega
  have h1 : ((List.range n).map fun _ => zC)[j / 7]? = some zC := by rw [List.getElem?_map, List.getElem?_range (by omega)]; rfl
  have hlt : j % 7 < 7 := Nat.mod_lt _ (by decide)
  have h2 : (encC zC)[j % 7]? = some ((encC zC).toArray[j % 7]!) := by
   obtain ⟨q, hq⟩ : ∃ q, j % 7 = q := ⟨_, rfl⟩
   rw [hq] at hlt ⊢
   match q, hlt with
   | 0, _ => rfl
   | 1, _ => rfl
   | 2, _ => rfl
   | 3, _ => rfl
   | 4, _ => rfl
   | 5, _ => rfl
   | 6, _ => rfl
  have h3 := flat_get encC_len h1 h2
  rw [← hd] at h3
  rw [h3, Array.getElem?_map]
  have h4 : (Array.range (n * 7))[j]? = some j := by simp [hj]
  rw [h4]; rfl
 ·have h5 : (((List.range n).map fun _ => zC).flatMap encC)[j]? = none := List.getElem?_eq_none (by rw [flat_len encC_len, List.length_map, List.length_range]; omega)
  rw [h5, Array.getElem?_map]
  have h4 : (Array.range (n * 7))[j]? = none := Array.getElem?_eq_none (by simp; omega)
  rw [h4]; rfl
def eS (z : AD) (bn : Nat) : Env := [(4, .v (pt z.bf)), (7, .v (.slice (some ⟨bn, 0, none⟩) (2 ^ z.s.wants.length) (2 ^ z.s.wants.length))), (27, .v (.chan (some z.C)))]
structure SelK (z : AD) (Rk : Nat → Prop) (bn : Nat) (R : LH) : Prop where
 inv : InvE z (R.less [bn])
 blk : R bn = some (.cells (fineC z.s (2 ^ z.s.wants.length) Rk) 101 (0, 0), true)
theorem SelK.le {z : AD} {Rk : Nat → Prop} {bn : Nat} {R R' : LH} (h : SelK z Rk bn R) (hl : Le R R') : SelK z Rk bn R' :=
 ⟨h.inv.le fun b x hx => by
  have hb : b ∉ [bn] := fun e => by rw [less_none e] at hx; cases hx
  rw [less_get hb] at hx ⊢
  exact hl b x hx, hl _ _ h.blk⟩
theorem SelK.all {z : AD} {Rk : Nat → Prop} {bn : Nat} {R : LH} (h : SelK z Rk bn R) : InvE z R := h.inv.le (less_le _ _)
theorem SelK.at_ {z : AD} {Rk : Nat → Prop} {bn : Nat} {R : LH} (h : SelK z Rk bn R) : AllAt z R := h.all.at_.dim (Dim.of_le (nf_le _ _))
def ML (z : AD) (Rk : Nat → Prop) (g : Goroutine) (R : LH) : Prop :=
 ∃ (T : Array Value) (bn : Nat), T.size = 39 ∧ EnvOk nm0 (get (eS z bn)) T ∧ g = G (Fr 102 T alS [] .run z.kd none) (z.c :: z.cs) ∧ SelK z Rk bn R
theorem sel_reach {z : AD} {Rk : Nat → Prop} {bn : Nat} {C : Cx Tryz.prog} {L : LH} (hX : C.X = LWay Tryz.prog true (WgLive 153 z.W) (ML z Rk)) (hf : C.f = 102) (hk : C.kd = z.kd) (hro : C.ro = none) (hcs : C.cs = z.c :: z.cs) (h : SelK z Rk bn L) :
  W C 39 [] (.code alC2 :: .inLoop alC2 :: alK2) [(4, .v (pt z.bf)), (7, .v (.slice (some ⟨bn, 0, none⟩) (2 ^ z.s.wants.length) (2 ^ z.s.wants.length)))] [] L := by
 refine W.go 99 rfl ?_
 refine W.vf rfl rfl rfl rfl (Vf.load rfl rfl rfl (h.at_.f)) ?_
 refine W.go 99 rfl ?_
 refine W.stop hX fun T R β hT hE hH => ?_
 refine ⟨T, bn, hT, hE.sub0 ⟨rfl, rfl, rfl, trivial⟩ rfl, ?_, h.le hH.le⟩
 rw [hf, hk, hro, hcs]
 rfl
structure ZOk (z : AD) : Prop where
 ok : SOk z.s
 kd : z.kd = .normal ∨ z.kd = .wrapped
 ret : ∀ bn R', R' bn = some (.cells (fineC z.s (2 ^ z.s.wants.length) fun _ => True) 101 (0, 0), true) → InvE z (R'.less [bn]) → FGo Tryz.prog z.Post z.W0 (G (z.c.finish (.slice (some ⟨bn, 0, none⟩) (2 ^ z.s.wants.length) (2 ^ z.s.wants.length))) z.cs) R'
theorem found_w (s : Sw) (k : Nat) : (found s k).w = k := by
 unfold found crV
 cases crushW s (bits5 k) <;> rfl
theorem sel_step {z : AD} {bn : Nat} {T : Array Value} (hk : z.kd = .normal ∨ z.kd = .wrapped) (hE : EnvOk nm0 (get (eS z bn)) T) (w : World) :
  stepG Tryz.prog true (G (Fr 102 T alS [] .run z.kd none) (z.c :: z.cs)) w = .comm (G (Fr 102 T alS [] .run z.kd none) (z.c :: z.cs)) #[rcase z.C (cC zC)] true (.recv true) w #[] := by
 have e27 : (⟨T, []⟩ : Act).eval (.tmp 27) = .chan (some z.C) := (congrFun (act_ev T _) _).trans (Option.some.inj (hE 27 _ rfl)).symm
 have hkd : z.kd ≠ .early := by rcases hk with e | e <;> rw [e] <;> decide
 have ho : alR12.1[1]? = some (alR12.1[1]?.getD default) := rfl
 have hr : (execOp (⟨T, []⟩ : Act).eval (alR12.1[1]?.getD default)).run Tryz.prog w = .ok (.comm #[rcase z.C (cC zC)] true (.recv true)) w ∧ (execOp (⟨T, []⟩ : Act).eval (alR12.1[1]?.getD default)).events Tryz.prog w #[] = #[] := by
  show (execOp (⟨T, []⟩ : Act).eval ⟨some 28, .recv 144 (.tmp 27) true, _, _, _, none⟩).run Tryz.prog w = _ ∧ (execOp (⟨T, []⟩ : Act).eval ⟨some 28, .recv 144 (.tmp 27) true, _, _, _, none⟩).events Tryz.prog w #[] = _
  have z101 := Tryz.zeroValue101
  have u144 := Tryz.underlying144
  constructor
  ·simp [execOp, e27, z101, rcase]
   rfl
  ·simp [execOp, e27, z101]
 refine (stepG_comm (P := Tryz.prog) (main := true) (b := bF 102 z.kd) (a := ⟨T, []⟩) (w' := w) ho (by rfl) hkd hr.1).trans ?_
 unfold listed
 rw [hr.2]
 rfl
theorem inv_put {z : AD} {bn : Nat} {R : LH} {o : Obj} (h : InvE z (R.less [bn])) : InvE z ((R.put bn o).less [bn]) := by
 have e : (R.put bn o).less [bn] = R.less [bn] := by
  funext b'
  by_cases hb : b' ∈ [bn]
  ·rw [less_none hb, less_none hb]
  ·rw [less_get hb, less_get hb, put_ne _ _ (by simpa using hb)]
 exact e ▸ h
theorem takes_of {z : AD} (hz : ZOk z) (b : Nat) : Takes { allPool z (ML z) with base := b } := by
 rintro Rk _ R ⟨T, bn, hT, hE, rfl, h⟩
 refine ⟨rfl, _, _, .recv true, 0, 0, cC zC, cC zC, ⟨rfl, fun w _ => sel_step hz.kd hE w, fun w _ => sel_step hz.kd hE w, rfl, rfl, ?_, ?_, ?_, ?_⟩⟩
 ·intro m c hm
  match m, hm with
  | 0, _ => exact .inl rfl
  | m + 1, hm => simp at hm
 ·exact ⟨fun _ => rfl, fun _ => rfl⟩
 ·rintro k v Gv hk hR ⟨rfl, rfl⟩ _
  rw [join_nil]
  have hsz : (fineC z.s (2 ^ z.s.wants.length) Rk).size = 2 ^ z.s.wants.length * 7 := fineC_size
  have hk' : k < 2 ^ z.s.wants.length := hk
  have w : W (⟨LWay Tryz.prog true (WgLive 153 z.W) (ML z fun i => Rk i ∨ i = k), 102, z.kd, none, z.c :: z.cs, R, R⟩ : Cx Tryz.prog) 39 [] (.inRegion alR12.1 [2, 3, 4, 5, 6, 7] :: (alR12.2.map .code ++ (.inBlock 3 :: .inLoop alC2 :: alK2))) ((28, .v (.tuple #[cC (found z.s k), .bool true])) :: eS z bn) [] R := by
   unfold eS
   refine W.go 99 rfl ?_
   refine W.split rfl rfl rfl (fun c => absurd c (by decide)) (fun c => ?_)
   refine W.go 99 rfl ?_
   refine W.vf rfl rfl rfl rfl (Vf.idx rfl rfl rfl rfl rfl (congrArg Nat.cast (found_w z.s k)) hk') ?_
   refine W.eff0 rfl rfl (Ef.stoF (congrArg (fun a => some (SV.v (.pointer (some a)))) (show Addr.add ⟨bn, 0, none⟩ (k * 7) = ⟨bn, k * 7, none⟩ by rw [add_of, Nat.zero_add])) ⟨_, rfl, rfl⟩ rfl h.blk rfl (by rw [hsz]; show k * 7 + 7 ≤ _; omega) (singles rfl)) ?_
   rintro _ _ _ ⟨rfl, rfl, rfl⟩
   refine W.go 99 rfl ?_
   refine W.inLoopI (W.again (sel_reach (Rk := fun i => Rk i ∨ i = k) (bn := bn) rfl rfl rfl rfl rfl ⟨inv_put h.inv, ?_⟩) ⟨rfl, rfl, trivial⟩ (by exact trivial))
   exact (congrArg (fun c => some (Obj.cells c 101 (0, 0), true)) (fineC_set hk')) ▸ put_same _ _ _
  exact W.fin_some (o := alR12.1[1]?.getD default) rfl rfl (by decide) hT hE (HeapOk.all R) (show den nm0 (.v (.tuple #[cC (found z.s k), .bool true])) = some _ from rfl) w
 ·intro hall
  have hcl : fineC z.s (2 ^ z.s.wants.length) Rk = fineC z.s (2 ^ z.s.wants.length) fun _ => True := by
   unfold fineC cl
   rw [List.map_congr_left fun i hi => ?_]
   have hr := (hall i (List.mem_range.1 hi)).resolve_right id
   rw [if_pos hr, if_pos trivial]
  have w : W (⟨LFGo Tryz.prog z.Post z.W0, 102, z.kd, none, z.c :: z.cs, R, R⟩ : Cx Tryz.prog) 39 [] (.inRegion alR12.1 [2, 3, 4, 5, 6, 7] :: (alR12.2.map .code ++ (.inBlock 3 :: .inLoop alC2 :: alK2))) ((28, .v (.tuple #[cC zC, .bool false])) :: eS z bn) [] R := by
   unfold eS
   refine W.go 99 rfl ?_
   refine W.split rfl rfl rfl (fun c => ?_) (fun c => absurd c (by decide))
   refine W.go 99 rfl ?_
   exact W.ret (Q := fun v L' => v = .slice (some ⟨bn, 0, none⟩) (2 ^ z.s.wants.length) (2 ^ z.s.wants.length) ∧ L' = R) (H := fun _ _ => False) ⟨Tryz.func102, rfl, hz.kd, z.c, z.cs, rfl, fun v R' L' hq hp => by
    obtain ⟨rfl, rfl⟩ := hq
    exact hz.ret bn R' (hp.le _ _ (by rw [← hcl]; exact h.blk)) (h.inv.le fun b x hx => by
     have hb : b ∉ [bn] := fun e => by rw [less_none e] at hx; cases hx
     rw [less_get hb] at hx ⊢
     exact hp.le _ _ hx), fun _ _ _ (h : False) _ => h.elim⟩ rfl rfl ⟨rfl, rfl⟩
  exact W.fin_some (o := alR12.1[1]?.getD default) rfl rfl (by decide) hT hE (HeapOk.all R) (show den nm0 (.v (.tuple #[cC zC, .bool false])) = some _ from rfl) w
end Go.Mz


set_option maxRecDepth 100000
namespace Go.Mz
open Go.Conc Go.ConcN Go.Proofs
open Go.ConcR (KK wgBlock WgAt smA rd wr mk)
open Classical in
noncomputable def Lmn (z : AD) (ex : Nat → Prop) (R : LH) : LH := fun b => if ex b then none else if Fr0 z b then R b else (R b).map fun x => (x.1, false)
open Classical in
noncomputable def Lch (z : AD) (ex : Nat → Prop) (R : LH) : LH := fun b => if ex b then R b else if Fr0 z b then none else (R b).map fun x => (x.1, false)
section
variable {z : AD} {ex : Nat → Prop} {R Rs : LH}
theorem mapF {x : Option (Obj × Bool)} {o : Obj} {wr : Bool} (h : (x.map fun x => (x.1, false)) = some (o, wr)) : wr = false ∧ ∃ wr', x = some (o, wr') := by
 cases x with
 | none => cases h
 | some y => obtain ⟨o', w'⟩ := y; cases h; exact ⟨rfl, _, rfl⟩
theorem Lmn_sub {b : Nat} {o : Obj} {wr : Bool} (h : Lmn z ex R b = some (o, wr)) : ∃ wr', R b = some (o, wr') ∧ (wr = true → wr' = true) := by
 unfold Lmn at h
 split at h
 ·cases h
 ·split at h
  ·exact ⟨wr, h, id⟩
  ·obtain ⟨rfl, w', h'⟩ := mapF h; exact ⟨w', h', fun e => by cases e⟩
theorem Lch_sub {b : Nat} {o : Obj} {wr : Bool} (h : Lch z ex R b = some (o, wr)) : ∃ wr', R b = some (o, wr') ∧ (wr = true → wr' = true) := by
 unfold Lch at h
 split at h
 ·exact ⟨wr, h, id⟩
 ·split at h
  ·cases h
  ·obtain ⟨rfl, w', h'⟩ := mapF h; exact ⟨w', h', fun e => by cases e⟩
theorem Lex1 {b : Nat} {o : Obj} (h : Lmn z ex R b = some (o, true)) : Lch z ex R b = none := by
 unfold Lmn at h
 unfold Lch
 split at h
 ·cases h
 ·rename_i h1
  split at h
  ·rename_i h2; rw [if_neg h1, if_pos h2]
  ·have := (mapF h).1; cases this
theorem Lex2 {b : Nat} {o : Obj} (h : Lch z ex R b = some (o, true)) : Lmn z ex R b = none := by
 unfold Lch at h
 unfold Lmn
 split at h
 ·rename_i h1; rw [if_pos h1]
 ·split at h
  ·cases h
  ·have := (mapF h).1; cases this
theorem Lch_dim (hl : Le Rs R) : Dim (nf z Rs) (Lch z ex R) := fun b o wr hb => by
 unfold nf at hb
 split at hb
 ·cases hb
 ·rename_i hf
  have := hl _ _ hb
  unfold Lch
  split
  ·exact ⟨wr, this⟩
  ·first | rw [if_neg hf, this] | rw [this]
   exact ⟨false, rfl⟩
theorem Lmn_inv (h : InvE z Rs) (hl : Le Rs R) (hx : ∀ b, ex b → Rs b = none) : InvE z (Lmn z ex R) := by
 have hn : ∀ b, Rs b ≠ none → ¬ ex b := fun b hb he => hb (hx b he)
 refine ⟨h.at_.dim fun b o wr hb => ?_, fun b x h1 h2 => ?_, fun b o wr hb => ?_⟩
 ·unfold nf at hb ⊢
  split at hb
  ·cases hb
  ·rename_i hf
   rw [if_neg hf]
   unfold Lmn
   rw [if_neg (hn b (by rw [hb]; simp)), if_neg hf, hl _ _ hb]
   exact ⟨false, rfl⟩
 ·have h3 := h.keep b x h1 h2
  unfold Lmn
  rw [if_neg (hn b (by rw [h3]; simp)), if_pos ⟨h1, by rw [h2]; simp⟩]
  exact hl _ _ h3
 ·obtain ⟨w1, h1⟩ := h.dom b o wr hb
  unfold Lmn
  rw [if_neg (hn b (by rw [h1]; simp)), if_neg (by
   rintro ⟨e, _⟩
   rw [e] at hb; cases hb), hl _ _ h1]
  exact ⟨false, rfl⟩
end
noncomputable abbrev poolA (z : AD) : Pool := allPool z (ML z)
noncomputable def Yr (z : AD) : Nat → Logic Tryz.prog
 | 0 => LWay Tryz.prog true (WgLive 153 z.W) (MGoK (poolA z))
 | r + 1 => LWay Tryz.prog true (WgLive 153 z.W) (MKd (poolA z) (2 ^ z.s.wants.length - (r + 1)) (MSp (poolA z) r))
theorem Yr_go (z : AD) (r : Nat) : (Yr z r).Go = MSp (poolA z) r := by cases r <;> rfl
def eL (z : AD) (k : Nat) : Env := [(1, .v (pt z.bs)), (3, .v (.int .i64 ((2 ^ z.s.wants.length : Nat) : Int))), (4, .v (pt z.bf)), (5, .v (pt z.W)), (16, .v (.int .i64 ((2 ^ z.s.wants.length : Nat) : Int))), (17, .v (.int .i64 k))]
theorem all_main {z : AD} (hz : ZOk z) : ∀ (r k : Nat), k + r = 2 ^ z.s.wants.length → ∀ R, InvE z R → W (⟨Yr z r, 102, z.kd, none, z.c :: z.cs, R, R⟩ : Cx Tryz.prog) 39 [] (.code alC0 :: .inLoop alC0 :: alK0) (eL z k) [] R := by
 have hkd : z.kd ≠ .early := by rcases hz.kd with e | e <;> rw [e] <;> decide
 have h32 := pow5 hz.ok
 have hpos : 0 < 2 ^ z.s.wants.length := Nat.pow_pos (by decide)
 intro r
 induction r with
 | zero =>
  intro k hk R hR
  unfold eL
  refine W.go 99 rfl ?_
  refine W.split rfl rfl rfl (fun e => absurd (Int.ofNat_lt.1 (of_decide_eq_true e)) (by omega)) (fun e => ?_)
  refine W.go 99 rfl ?_
  refine W.weak (E' := [(3, .v (.int .i64 ((2 ^ z.s.wants.length : Nat) : Int))), (4, .v (pt z.bf)), (23, .f (.func 132) [] [.v (pt z.W), .v (pt z.bf)])]) (B' := []) (by exact ⟨rfl, rfl, rfl, trivial⟩) (by exact trivial) ?_
  refine W.spawnO (mn := true) (Φ := WgLive 153 z.W) (S1 := MGoK (poolA z)) rfl rfl hkd rfl rfl rfl rfl rfl fun R2 g0 g' hrun hsp hle cont => ?_
  refine ⟨hrun, g', _, Lmn z (fun _ => False) R2, Lch z (fun _ => False) R2, fun w _ => hsp w, fun b o wr h => Lmn_sub h, fun b o wr h => Lch_sub h, fun b o h => Lex1 h, fun b o h => Lex2 h, ?_, ?_⟩
  ·exact closer_way ((Lch_dim (z := z) (ex := fun _ => False) hle).cell hR.at_.f)
  ·refine cont (LWay Tryz.prog true (WgLive 153 z.W) (ML z fun _ => False)) _ ?_
   have hL := Lmn_inv hR hle (ex := fun _ => False) (fun b h => h.elim)
   refine W.go 99 rfl ?_
   refine W.eff rfl rfl rfl (Ef.makeSliceK (n := 2 ^ z.s.wants.length) (k := 7) rfl (by omega) (by omega) (by decide) Tryz.underlying120 size101 bytes101 zero101 (by decide)) ?_
   rintro _ _ _ ⟨bn, rfl, rfl, hbn, rfl⟩
   refine W.go 99 rfl ?_
   refine W.loopI (W.again (sel_reach (Rk := fun _ => False) (bn := bn) rfl rfl rfl rfl rfl ⟨hL.le (le_less (Le.put hbn _) (fun b hb => by rw [List.mem_singleton.1 hb]; exact hbn)), ?_⟩) ⟨rfl, rfl, trivial⟩ (by exact trivial))
   have hz0 := fineC_zero (s := z.s) (n := 2 ^ z.s.wants.length) (z := .agg (encC zC).toArray) rfl
   exact (congrArg (fun c => some (Obj.cells c 101 (0, 0), true)) hz0) ▸ put_same _ _ _
 | succ r ih =>
  intro k hk R hR
  have hk' : 2 ^ z.s.wants.length - (r + 1) = k := by omega
  have hY : Yr z (r + 1) = LWay Tryz.prog true (WgLive 153 z.W) (MKd (poolA z) k (MSp (poolA z) r)) := by rw [← hk']; rfl
  rw [hY]
  unfold eL
  refine W.go 99 rfl ?_
  refine W.split rfl rfl rfl (fun e => ?_) (fun e => absurd (Int.ofNat_lt.2 (show k < 2 ^ z.s.wants.length by omega)) (of_decide_eq_false e))
  refine W.go 99 rfl ?_
  refine W.pub 6 (.inl ⟨_, rfl⟩) rfl rfl ?_
  intro bi hbi _
  have hle1 := Le.put hbi (.cells #[.int .i64 k] 3)
  have k1 := put_same R bi (.cells #[.int .i64 k] 3)
  change W _ _ _ _ _ _ (R.put bi (.cells #[.int .i64 k] 3))
  generalize R.put bi (.cells #[.int .i64 k] 3) = L1 at k1 hle1 ⊢
  refine W.callX rfl rfl rfl rfl (add_sp (addS_of (z := z) (ML := ML z) k (MSp (poolA z) r)) L1) ?_
  rintro Y v _ ⟨rfl, rfl, rfl⟩
  refine W.go 99 rfl ?_
  refine W.weak (E' := eL z k ++ [(21, .f (.func 130) [] [.v (pt z.W), .v (pt z.bf), .v (pt z.bs), .v (pt bi)])]) (B' := []) (by exact ⟨rfl, rfl, rfl, rfl, rfl, rfl, rfl, trivial⟩) (by exact trivial) ?_
  unfold eL
  refine W.spawnO (mn := true) (Φ := WgLive 153 z.W) (S1 := MGo (poolA z) k (MSp (poolA z) r)) rfl rfl hkd rfl rfl rfl rfl rfl fun R2 g0 g' hrun hsp hle cont => ?_
  have hle2 := hle1.trans hle
  have hdim := Lch_dim (z := z) (ex := fun b => b = bi) hle2
  have hci : Lch z (fun b => b = bi) R2 bi = R2 bi := if_pos rfl
  refine ⟨hrun, g', _, Lmn z (fun b => b = bi) R2, Lch z (fun b => b = bi) R2, fun w _ => hsp w, fun b o wr h => Lmn_sub h, fun b o wr h => Lch_sub h, fun b o h => Lex1 h, fun b o h => Lex2 h, ?_, ?_⟩
  ·exact worker_way ⟨hdim.cell hR.at_.f, hdim.cells hR.at_.bs, hdim.sw hR.at_.sw, hci.trans (hle _ _ k1), hz.ok⟩ (by omega)
  ·have hL := Lmn_inv hR hle2 (ex := fun b => b = bi) (fun b h => by rw [h]; exact hbi)
   rw [← Yr_go]
   refine cont (Yr z r) _ ?_
   refine W.go 99 rfl ?_
   refine W.inLoopI (W.again (ih (k + 1) (by omega) _ hL) ?_ (by exact trivial))
   exact ⟨rfl, rfl, rfl, rfl, rfl, congrArg some (inc64 (by omega)), trivial⟩
end Go.Mz


set_option maxRecDepth 100000
namespace Go.Mz
open Go.Conc Go.ConcN Go.Proofs
open Go.ConcR (KK wgBlock WgAt smA rd wr mk)
theorem MSp_base (p : Pool) (b : Nat) : ∀ r, MSp { p with base := b } r = MSp p r
 | 0 => rfl
 | r + 1 => by
  show Way _ _ _ (MKd { p with base := b } (p.n - (r + 1)) (MSp { p with base := b } r)) = _
  rw [MSp_base p b r]; rfl
noncomputable abbrev outs (s : Sw) : List CrV := (List.range (2 ^ s.wants.length)).map (found s)
def AllQ (s : Sw) (L : LH) (v : Value) (L' : LH) : Prop :=
 ∃ bn : Nat, v = .slice (some ⟨bn, 0, none⟩) (2 ^ s.wants.length) (2 ^ s.wants.length) ∧ SlAt L' (some ⟨bn, 0, none⟩) 7 encC (outs s) ∧ Dim L L'
theorem cl_true (s : Sw) (n : Nat) : cl s n (fun _ => True) = (List.range n).map (found s) := by
 unfold cl
 refine List.map_congr_left fun i _ => ?_
 rw [if_pos trivial]
theorem shl_eq {n : Nat} (h : n ≤ 5) : IntKind.i64.wrap (1 * 2 ^ min n IntKind.i64.bits) = ((2 ^ n : Nat) : Int) := by
 have : n = 0 ∨ n = 1 ∨ n = 2 ∨ n = 3 ∨ n = 4 ∨ n = 5 := by omega
 rcases this with e | e | e | e | e | e <;> rw [e] <;> decide
theorem all_sp {Post : Value → World → Prop} {W0 : World} (s : Sw) (p : Wp) (L : LH) (hs : SwAt L s p) (hok : SOk s) : Sp (LFGo Tryz.prog Post W0) 102 [swA s p] L (AllQ s L) := by
 have hw5 := hok.w5
 have hsh := shl_eq hw5
 refine Sp.enter (n := 39) Tryz.func102 rfl rfl rfl rfl fun C hX _ hL0 r => ?_
 refine W.goP [2] 99 rfl ?_
 refine W.pub 1 (.inl ⟨_, rfl⟩) rfl rfl ?_
 intro bs hbs _
 refine W.go 99 rfl ?_
 refine W.vf rfl rfl rfl rfl (Vf.load rfl rfl rfl (cell_of (put_same _ _ _) rfl)) ?_
 refine W.go 99 rfl ?_
 rw [hsh]
 have f0 := Le.put hbs (.cells (encSw s p).toArray 83)
 have k0 := put_same L bs (.cells (encSw s p).toArray 83)
 change W _ _ _ _ _ _ (L.put bs (.cells (encSw s p).toArray 83))
 generalize hL1 : L.put bs (.cells (encSw s p).toArray 83) = L1 at f0 k0 ⊢
 refine W.eff rfl rfl rfl (Ef.makeChan rfl Tryz.underlying144 bytes101) ?_
 rintro _ _ _ ⟨cc, rfl, rfl, hcc, rfl⟩
 refine W.goP [16] 99 rfl ?_
 refine W.pub 4 (.inl ⟨_, rfl⟩) rfl rfl ?_
 intro bf hbf _
 refine W.pub 5 (.inl ⟨_, rfl⟩) rfl rfl ?_
 intro bw hbw _
 have f1 := Le.put hcc (.chan 0 #[] false 0 0 false)
 have f2 := Le.put hbf (.cells #[.chan (some cc)] 144)
 have f3 := Le.put hbw (.cells #[.int .u64 0, .int .u32 0] 153)
 have k1 := f3 _ _ (f2 _ _ (put_same L1 cc (.chan 0 #[] false 0 0 false)))
 have k2 := f3 _ _ (put_same (L1.put cc (.chan 0 #[] false 0 0 false)) bf (.cells #[.chan (some cc)] 144))
 have k3 := put_same ((L1.put cc (.chan 0 #[] false 0 0 false)).put bf (.cells #[.chan (some cc)] 144)) bw (.cells #[.int .u64 0, .int .u32 0] 153)
 have f123 := f1.trans (f2.trans f3)
 have k0' := f123 _ _ k0
 have hcL := none_of_le f0 hcc
 have hwL := none_of_le f0 (none_of_le f1 (none_of_le f2 hbw))
 clear f1 f2 f3
 change W _ _ _ _ _ _ (((L1.put cc (.chan 0 #[] false 0 0 false)).put bf (.cells #[.chan (some cc)] 144)).put bw (.cells #[.int .u64 0, .int .u32 0] 153))
 generalize ((L1.put cc (.chan 0 #[] false 0 0 false)).put bf (.cells #[.chan (some cc)] 144)).put bw (.cells #[.int .u64 0, .int .u32 0] 153) = L5 at k0' k1 k2 k3 f123 ⊢
 have hL5 := f0.trans f123
 refine W.go 99 rfl ?_
 refine W.weak (E' := [(1, .v (pt bs)), (3, .v (.int .i64 ((2 ^ s.wants.length : Nat) : Int))), (4, .v (pt bf)), (5, .v (pt bw)), (16, .v (.int .i64 ((2 ^ s.wants.length : Nat) : Int))), (17, .v (.int .i64 0))]) (B' := []) (by exact ⟨rfl, rfl, rfl, rfl, rfl, rfl, trivial⟩) (by exact trivial) ?_
 intro T R β hT hE hH
 have nw : ∀ {b : Nat}, L5 b ≠ none → L b = none → C.R0 b = none := fun h h' => (hH.fresh _ h).resolve_left (fun h2 => h2 (by rw [hL0]; exact h'))
 have hwc : bw ≠ cc := fun e => by subst e; rw [k3] at k1; cases k1
 have hfc : bf ≠ cc := fun e => by subst e; rw [k2] at k1; cases k1
 have hsc : bs ≠ cc := fun e => by subst e; rw [k0'] at k1; cases k1
 have hsw : bs ≠ bw := fun e => by subst e; rw [k0'] at k3; exact absurd k3 (by simp)
 have hfw : bf ≠ bw := fun e => by subst e; rw [k2] at k3; exact absurd k3 (by simp)
 have hf102 : C.f = 102 := by assumption
 obtain ⟨hf, hro, hkd, cf, cs, hcs, hret, -⟩ := r
 rw [hX] at hret
 let z : AD := { s := s, p := p, W := bw, C := cc, bs := bs, bf := bf, L0 := C.L0, R0 := C.R0, kd := C.kd, c := cf, cs := cs, Post := Post, W0 := W0 }
 have hnF : ∀ b, L5 b ≠ none → ¬ Fr0 z b := fun b hb => by
  rintro ⟨h1, h2⟩
  exact (hH.fresh b hb).elim (fun h => h h1) h2
 have hkey : Le (L5.less [bw, cc]) (nf z (R.without bw cc cc)) := fun b y hy => by
  have hni : b ∉ [bw, cc] := fun h => by rw [less_none h] at hy; cases hy
  have hnw : b ≠ bw := fun e => by subst e; exact hni (by simp)
  have hnc : b ≠ cc := fun e => by subst e; exact hni (by simp)
  have hy5 := less_le _ _ _ _ hy
  unfold nf
  rw [if_neg (hnF b (by rw [hy5]; simp))]
  unfold LH.without
  rw [if_neg (by simp [hnw, hnc])]
  exact hH.le _ _ hy5
 have hLk : Le L (L5.less [bw, cc]) := le_less hL5 fun b hb => by
  simp only [List.mem_cons, List.not_mem_nil, or_false] at hb
  rcases hb with rfl | rfl
  ·exact hwL
  ·exact hcL
 have hzat : AllAt z (nf z (R.without bw cc cc)) := by
  refine ⟨?_, ?_, hs.le (hLk.trans hkey)⟩
  ·exact cellsAt_n (vs := encSw s p) (hkey _ _ ((less_get (show bs ∉ [bw, cc] by simp [hsw, hsc])).trans k0')) rfl
  ·exact hkey.cell (cell_of ((less_get (show bf ∉ [bw, cc] by simp [hfw, hfc])).trans k2) rfl)
 have hInv : InvE z (R.without bw cc cc) := by
  refine ⟨hzat, fun b y h1 h2 => ?_, fun b o wr hb => ?_⟩
  ·have h3 := hH.keep b y h1 h2
   have hno : ∀ b', L5 b' ≠ none → b ≠ b' := fun b' h' h4 => by
    subst h4
    rcases hH.fresh b h' with h | h
    ·exact h h1
    ·exact absurd (h2.symm.trans h) (by simp)
   unfold LH.without
   rw [if_neg (by simp [hno bw (by rw [k3]; simp), hno cc (by rw [k1]; simp)])]
   exact h3
  ·have hb' : L b = some (o, wr) := by rw [← hL0]; exact hb
   have hno : ∀ b', L b' = none → b ≠ b' := fun b' h' h4 => by subst h4; rw [h'] at hb'; cases hb'
   refine ⟨wr, ?_⟩
   unfold LH.without
   rw [if_neg (by simp [hno bw hwL, hno cc hcL])]
   exact hH.le _ _ (hL5 _ _ hb')
 have hz : ZOk z := by
  refine ⟨hok, hkd, fun bn R' hbn hE' => ?_⟩
  have hn0 : C.L0 bn = none := by
   cases e : C.L0 bn with
   | none => rfl
   | some y =>
    obtain ⟨o, wr⟩ := y
    obtain ⟨w1, h1⟩ := hE'.dom bn o wr e
    rw [less_none (List.mem_singleton.2 rfl)] at h1; cases h1
  have hn1 : C.R0 bn = none := by
   cases e : C.R0 bn with
   | none => rfl
   | some y =>
    have h1 := hE'.keep bn y hn0 e
    rw [less_none (List.mem_singleton.2 rfl)] at h1; cases h1
  have hne : ∀ b, (C.L0 b ≠ none ∨ C.R0 b ≠ none) → b ∉ [bn] := fun b h e => by
   rw [List.mem_singleton.1 e] at h
   exact h.elim (fun h => h hn0) fun h => h hn1
  let Lz : LH := fun b => open Classical in if C.L0 b ≠ none ∨ C.R0 b = none then R' b else none
  have hzL : Le Lz R' := fun b y hy => by
   have : (open Classical in if C.L0 b ≠ none ∨ C.R0 b = none then R' b else none) = some y := hy
   split at this
   ·exact this
   ·cases this
  have hzd : ∀ b o wr, L b = some (o, wr) → ∃ wr', Lz b = some (o, wr') := fun b o wr hb => by
   have hb0 : C.L0 b = some (o, wr) := by rw [hL0]; exact hb
   obtain ⟨w1, h1⟩ := hE'.dom b o wr hb0
   refine ⟨w1, ?_⟩
   show (open Classical in if C.L0 b ≠ none ∨ C.R0 b = none then R' b else none) = _
   rw [if_pos (.inl (by rw [hb0]; simp))]
   rw [less_get (hne b (.inl (by rw [hb0]; simp)))] at h1
   exact h1
  have hzb : Lz bn = some (.cells ((outs s).flatMap encC).toArray 101 (0, 0), true) := by
   show (open Classical in if C.L0 bn ≠ none ∨ C.R0 bn = none then R' bn else none) = _
   rw [if_pos (.inr hn1), hbn]
   unfold fineC
   rw [cl_true]
  refine hret _ R' Lz ⟨bn, rfl, sl_block (e := 101) encC_len hzb, hzd⟩ ⟨hzL, fun b x h1 h2 => ?_, fun b hb => ?_, fun b hb => ?_⟩
  ·have h3 := hE'.keep b x h1 h2
   rwa [less_get (hne b (.inr (by rw [h2]; simp)))] at h3
  ·by_cases h1 : C.L0 b ≠ none ∨ C.R0 b = none
   ·exact h1
   ·exact absurd (show (open Classical in if C.L0 b ≠ none ∨ C.R0 b = none then R' b else none) = none from if_neg h1) hb
  ·rw [hL0] at hb
   cases hx : L b with
   | none => exact absurd hx hb
   | some y =>
    obtain ⟨w1, h1⟩ := hzd b y.1 y.2 hx
    rw [h1]; simp
 have h32 := pow5 hok
 rw [hX, hro, hcs, hf102]
 refine FGo.pool (allPool z (ML z)) (show 2 ^ s.wants.length < 2147483647 by omega) ⟨hwc, hwc⟩ (hH.le _ _ k3) (hH.le _ _ k1) (hH.le _ _ k1) (fun b => takes_of hz b) (fun b => anch_way b) (fun _ _ h => h) fun b => ?_
 show MSp { poolA z with base := b } (2 ^ s.wants.length) _ _
 rw [MSp_base, ← Yr_go]
 exact W.loopI (all_main hz (2 ^ s.wants.length) 0 (by show 0 + 2 ^ s.wants.length = 2 ^ s.wants.length; omega) _ hInv) T _ nm0 hT (hE.sub0 (by exact ⟨rfl, rfl, rfl, rfl, rfl, rfl, trivial⟩) rfl) (HeapOk.all _)
end Go.Mz


set_option maxRecDepth 100000
namespace Go.Mz
open Go.Conc Go.Proofs
variable {X : Logic Tryz.prog}
end Go.Mz


set_option maxRecDepth 100000
namespace Go.Mz
open Go.Conc Go.Proofs
variable {X : Logic Tryz.prog}
end Go.Mz


set_option maxRecDepth 100000
namespace Go.Mz
open Go.Conc Go.Proofs
section
variable {P : Program} [S : Seat P] {C : Cx P} {n : Nat} {ds : List Deferred} {ops : Array Oper} {k : List Item} {E : Env} {B : List (Option Bx)} {L : LH}
theorem W.drawn0 {id : Nat} (hok : okQ ops n = true) (Lf : LH) (hle : Le Lf L) (h : DD C S.τ n ds ops k 0 Lf [] [] E B L) : W C n ds (.code (.region id ops true) :: k) E B L := by
 intro T R β hT hE hH
 obtain ⟨⟨_, h1⟩, ⟨_, h2⟩, ⟨_, h3⟩, hdd, hz⟩ := okQ_ok hok
 refine C.X.regionDraw fun t => ?_
 refine h.run S.ok hdd hz _ [] T R β (fun _ => none) (lin_schedule h1 h2 h3 t) ⟨hT, (fun i hi => by cases hi), (fun i hi => by cases hi), (fun s x hx _ => hE s x hx), (fun j hj => by cases hj), (fun s x hx => by cases hx), (fun j hj => by cases hj), hH, hle, Nat.zero_le _, (fun _ _ _ h => by cases h), (fun _ _ h => by cases h), (fun i hi => by cases hi)⟩
end
variable {X : Logic Tryz.prog}
theorem find_range {f : Nat → Bool} {N i : Nat} (hi : i < N) (hf : f i = true) (hno : ∀ j, j < i → f j = false) : (List.range N).find? f = some i := by
 rw [List.find?_eq_some_iff_getElem]
 refine ⟨hf, i, by simpa using hi, by simp, fun j hj => ?_⟩
 simp [hno j hj]
theorem find_range_none {f : Nat → Bool} {N : Nat} (hno : ∀ j, j < N → f j = false) : (List.range N).find? f = none := by
 rw [List.find?_eq_none]
 intro j hj
 simp [hno j (List.mem_range.1 hj)]
theorem openW_0 {s : Sw} {ks ns : List Int} (h : openW s ks ns = 0) : sawE s = 0 ∧ (∀ k ∈ ks, 0 ≤ k ∧ k < s.loaves.length) ∧ (∀ k ∈ ns, 0 ≤ k ∧ k < s.wants.length) := by
 unfold openW at h
 split at h
 ·rename_i h1; exact absurd h h1
 ·rename_i h1
  split at h
  ·rename_i h2
   rw [Bool.and_eq_true, List.all_eq_true, List.all_eq_true] at h2
   refine ⟨by simpa using h1, fun k hk => ?_, fun k hk => ?_⟩
   ·have := h2.1 k hk; simp [inB] at this; omega
   ·have := h2.2 k hk; simp [inB] at this; omega
  ·cases h
theorem ints1 {L : LH} {b : Nat} {x : Int} {t : TypeId} (h : L b = some (.cells #[.int .i64 x] t (0, 0), true)) : IntsAt L (some ⟨b, 0, none⟩) [x] := sl_block (l := [x]) (e := t) encI_len h
theorem Slices_sp (s : Sw) (p : Wp) (k q : Int) (L : LH) (h : SwAt L s p) (hn : Sm s) : Sp X 26 [swA s p, .int .i64 k, .int .i64 q] L (fun v L' => v = .tuple #[.int .i64 (SlicesE s k q).1, .int .i64 (SlicesE s k q).2] ∧ Le L L') := by
 refine Sp.enter (n := 45) Tryz.func26 rfl rfl rfl rfl fun C hX _ hL0 r => ?_
 refine W.go 99 rfl ?_
 refine W.goP [16] 99 rfl ?_
 refine W.pub 15 (.inr ⟨_, _, _, rfl⟩) rfl rfl ?_
 intro b15 hb15 _
 have f1 := Le.put hb15 (.cells #[.int .i64 k] 3)
 have g1 := put_same L b15 (.cells #[.int .i64 k] 3)
 change W _ _ _ _ _ _ (L.put b15 (.cells #[.int .i64 k] 3))
 generalize L.put b15 (.cells #[.int .i64 k] 3) = L1 at f1 g1 ⊢
 refine W.eff rfl rfl rfl (Ef.call rfl (open_sp s p (some ⟨b15, 0, none⟩) none 1 0 [k] [] L1 (h.le f1) hn (ints1 g1) SlAt.empty (by simp) (by simp))) ?_
 rintro _ _ _ ⟨v0, rfl, rfl, hle, hq⟩
 rename_i L2
 have hl2 := f1.trans hle
 rcases hq with ⟨he, rfl⟩ | ⟨he, rfl⟩
 ·refine W.go 99 rfl ?_
  refine W.split rfl rfl rfl (fun e1 => W.go 99 rfl ?_) (fun e1 => W.go 99 rfl ?_)
  ·refine W.ret r rfl rfl ?_
   have : SlicesE s k q = (0, openW s [k] []) := by unfold SlicesE; rw [if_pos he]
   rw [this]
   exact ⟨rfl, hl2⟩
  ·simp at e1; exact absurd e1 he
 ·have hSE : SlicesE s k q = match slicesW (loafAt s k) q with | some n => ((n : Int), 0) | none => (0, 11) := by unfold SlicesE; rw [if_neg (by simp [he])]; rfl
  obtain ⟨h0, hk, _⟩ := openW_0 he
  have hok := sawE_0 h0
  have hk := hk k (by simp)
  have hki : k.toNat < s.loaves.length := by omega
  have h2 := h.le hl2
  have hl : s.loaves[k.toNat]? = some s.loaves[k.toNat] := List.getElem?_eq_getElem hki
  obtain ⟨la, hla⟩ := h2.lo.addr hki
  have hlo := h2.lo
  rw [hla] at hlo
  obtain ⟨a, c, hc, hsl, hcp⟩ := hlo.row hl
  have hgd := loafAt0 hl
  have hat : loafAt s k = s.loaves[k.toNat] := hgd
  have hlf := hok.lf _ (List.mem_of_getElem? hl)
  have hl4 := hlf.l4
  rw [hat] at hSE
  obtain ⟨lf, hlfe⟩ : ∃ lf, s.loaves[k.toNat] = lf := ⟨_, rfl⟩
  rw [hlfe] at hSE hc hsl hcp hlf hl4
  obtain ⟨qa, qb, qc, qd, qe, qf⟩ := p
  obtain rfl : qa = some la := hla
  refine W.go 99 rfl ?_
  refine W.split rfl rfl rfl (fun e1 => W.go 99 rfl ?_) (fun e1 => W.go 99 rfl ?_)
  ·simp at e1
  refine W.vf rfl rfl rfl rfl (Vf.idx1 rfl rfl rfl rfl rfl rfl (show k = ((k.toNat : Nat) : Int) by omega) hki) ?_
  refine W.go 99 rfl ?_
  refine W.vf rfl rfl rfl rfl (Vf.load rfl rfl rfl (hc)) ?_
  refine W.go 99 rfl ?_
  have hw1 : IntKind.i64.wrap ((lf.length : Int) + 1) = ((lf.length + 1 : Nat) : Int) := by rw [wrap64_in _ (by omega) (by omega)]; omega
  rw [hw1]
  refine W.loop (fun m E B L' => ∃ (i : Nat), m = lf.length + 1 - i ∧ i ≤ lf.length + 1 ∧ (∀ n, n < i → decide (q ≤ sumL (lf.drop (lf.length - n))) = false) ∧ L2 = L' ∧
    E = [(2, .v (.int .i64 q)), (10, .v (.slice a lf.length c)), (30, .v (.int .i64 ((lf.length + 1 : Nat) : Int))), (31, .v (.int .i64 i))] ∧ B = [])
   ⟨0, rfl, by omega, fun n h => by omega, rfl, rfl, rfl⟩ (by exact ⟨rfl, rfl, rfl, rfl, trivial⟩) trivial ?_
  rintro _ _ _ _ ⟨i, rfl, h1, hno, rfl, rfl, rfl⟩ again
  refine W.go 99 rfl ?_
  refine W.split rfl rfl rfl (fun e2 => W.go 99 rfl ?_) (fun e2 => W.go 99 rfl ?_)
  ·have hi : i ≤ lf.length := by simp at e2; omega
   have hw2 : IntKind.i64.wrap ((lf.length : Int) - (i : Int)) = ((lf.length - i : Nat) : Int) := by rw [wrap64_in _ (by omega) (by omega)]; omega
   rw [hw2]
   have hsum := sum_sp (X := C.X) (fromA a c (lf.length - i) 1) (c - (lf.length - i)) (lf.drop (lf.length - i)) _ (hsl.drop hcp) (by rw [List.length_drop]; omega) fun y hy => by have := hlf.r y (List.mem_of_mem_drop hy); omega
   rw [List.length_drop] at hsum
   refine W.vf rfl rfl rfl rfl (Vf.sliceF rfl rfl Tryz.underlying23 size3 (show lf.length - i ≤ lf.length by omega)) ?_
   refine W.go 99 rfl ?_
   refine W.eff rfl rfl rfl (Ef.call rfl (hsum)) ?_
   rintro _ _ _ ⟨_, rfl, rfl, rfl, rfl⟩
   refine W.go 99 rfl ?_
   refine W.split rfl rfl rfl (fun e3 => W.go 99 rfl ?_) (fun e3 => W.go 99 rfl ?_)
   ·refine W.ret r rfl rfl ?_
    have hs : slicesW lf q = some i := find_range (by omega) (by simpa using e3) hno
    rw [hs] at hSE
    rw [hSE]
    exact ⟨rfl, hl2⟩
   ·refine W.again (again _ _ _ _ (by omega) ⟨i + 1, rfl, by omega, fun n hn => ?_, rfl, rfl, rfl⟩) ⟨rfl, rfl, rfl, congrArg some (inc64 (by omega)), trivial⟩ trivial
    by_cases e : n = i
    ·subst e; simpa using e3
    ·exact hno n (by omega)
  ·refine W.ret r rfl rfl ?_
   have hs : slicesW lf q = none := find_range_none fun j hj => hno j (by simp at e2; omega)
   rw [hs] at hSE
   rw [hSE]
   exact ⟨rfl, hl2⟩
end Go.Mz


set_option maxRecDepth 100000
namespace Go.Mz
open Go.Conc Go.Proofs
variable {X : Logic Tryz.prog}
end Go.Mz


set_option maxRecDepth 100000
namespace Go.Mz
open Go.Conc Go.Proofs
variable {X : Logic Tryz.prog}
def off (ob : Option Nat) (L : LH) : LH := fun b => if ob = some b then none else L b
section
variable {L0 L L' D : LH} {b : Nat} {ad : Option Addr} {cap : Nat} {l : List Int} {n m : Nat} {ls : List (List Int)} {st : List Int} {vl vs : Value} {rs : List (Rw Int)} {ol os : Option Nat}
end
end Go.Mz


set_option maxRecDepth 100000
namespace Go.Mz
open Go.Conc Go.Proofs
variable {X : Logic Tryz.prog}
def encSP (x : Sw × Wp) : List Value := encSw x.1 x.2
theorem encSP_len (x : Sw × Wp) : (encSP x).length = 4 := rfl
end Go.Mz

