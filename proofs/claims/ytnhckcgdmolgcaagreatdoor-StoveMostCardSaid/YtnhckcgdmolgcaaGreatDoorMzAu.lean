/- Lemmas on which the claim leans. -/
import Derived.Test.YtnhckcgdmolgcaaGreatDoorMzAt
import Derived.Conc.TokenWalk
set_option maxRecDepth 100000
namespace Go.Mz
open Go.Conc Go.ConcN Go.Proofs
open Go.ConcR (KK wgBlock WgAt smA rd wr mk)
structure FD where
 s : St
 p : Pt
 ls : List (List Int)
 rf : List (Option Addr × Nat × Nat)
 al : Option Addr × Nat × Nat
 W : Nat
 C : Nat
 D : Nat
 bs : Nat
 bf : Nat
 bd : Nat
 ba : Nat
 dd : Nat
 L0 : LH
 R0 : LH
 kd : CallKind
 c : Frame
 cs : List Frame
 Post : Value → World → Prop
 W0 : World
noncomputable def pool0 (D : Nat) : Pool := { P := Tryz.prog, ty := 180, W := 0, C := 0, D := D, n := 0, base := 0, out := fun _ _ _ => False, mute := fun _ => False, ML := fun _ _ _ => False, Anch := fun _ _ => False, Fin := fun _ _ => False }
noncomputable def firePool (z : FD) (ML : (Nat → Prop) → Goroutine → LH → Prop) : Pool := { P := Tryz.prog, ty := 180, W := z.W, C := z.C, D := z.D, n := z.ls.length, base := 0, out := fun k v Gv => v = .int .i64 k ∧ Gv = LH.nil ∧ canS z.s (z.ls.getD k []) = true, mute := fun k => canS z.s (z.ls.getD k []) = false, ML := ML, Anch := AnW z.W (KClose (pool0 z.D)), Fin := FGo Tryz.prog z.Post z.W0 }
variable {z : FD} {ML : (Nat → Prop) → Goroutine → LH → Prop}
theorem addS_of (k : Nat) (Nx : Goroutine → LH → Prop) : AddS z.W (MKd (firePool z ML) k Nx) (MAdd (firePool z ML) k Nx) (MSaid (firePool z ML) k Nx) (MEn (firePool z ML) k Nx) (MGo (firePool z ML) k Nx) where
 h1 := fun g g' L h1 h2 h3 => ⟨h1, g', h2, h3⟩
 h2 := fun g L h1 h2 => ⟨h1, h2⟩
 h3 := fun g g' L h1 h2 h3 => ⟨h1, g', h2, h3⟩
 h4 := fun g g' L h1 h2 h3 => ⟨h1, g', h2, h3⟩
theorem waitS_of : WaitS z.W (KDis (firePool z ML)) (KLd (firePool z ML)) (KCas (firePool z ML)) (KSaid (firePool z ML)) (KSem (firePool z ML)) (KL4 (firePool z ML)) (KEnb (firePool z ML)) (KAcq (firePool z ML)) (KClose (firePool z ML)) (AnW z.W (KClose (firePool z ML))) where
 h1 := fun g g' L h1 h2 h3 => ⟨h1, g', h2, h3⟩
 h2 := fun g L h1 h2 h3 => ⟨h1, h2, h3⟩
 h3 := fun vs g L h1 h2 h3 => ⟨h1, h2, h3⟩
 h4 := fun g g' L h1 h2 h3 => ⟨h1, g', h2, h3⟩
 h5 := fun g L h1 h2 h3 h4 => ⟨h1, h2, h3, h4⟩
 h6 := fun g L h1 h2 => ⟨h1, h2⟩
 h7 := fun g g' L h1 h2 h3 => ⟨h1, g', h2, h3⟩
 h8 := fun g g' L h1 h2 h3 => ⟨h1, g', h2, h3⟩
theorem anch_way (b : Nat) : ∀ g L, (firePool z ML).Anch g L → Way (firePool z ML).P false (firePool z ML).Φ (KLd { firePool z ML with base := b }) g L :=
 anW_way (waitS_of (z := z) (ML := ML))
noncomputable def botF : Frame := { (default : Frame) with fn := Tryz.prog.funcs.size, defers := [], mode := .panicking [goexitEntry] }
theorem quitsTail (f : FuncId) (T : Array Value) (k : List Item) {fn : Func} (hf : Tryz.prog.funcs[f]? = some fn) (hr : fn.results = #[]) : QuitsD Tryz.prog 2 0 (G (Fr f T k [] .returning .deferred none) [botF]) := by
 refine QuitsD.ctl (g' := G botF []) rfl (fun w => ?_) ?_
 ·simp [G, stepG, unwind, doReturn, results, Fr, botF, hf, hr, seen, GStep.after, goexitEntry]
 refine QuitsD.ctl (g' := { G botF [] with status := .finished }) rfl (fun w => ?_) ⟨rfl, rfl⟩
 simp [G, stepG, unwind, botF, goexitEntry, Frame.catches]
 rfl
theorem atDn_of {T : Array Value} {k : List Item} {cc : Nat} {v : Value} {c : Array Value} {e : TypeId} {fz : Nat × Nat} {R : LH} (h1 : R cc = some (.cells c e fz, true)) (h2 : c[0]? = some v) :
  AtDn (firePool z ML) (G (Fr 126 T k [dcall 127 #[pt z.W]] .returning .deferred none) [botF]) R := by
 refine ⟨rfl, 24, cc, v, c, e, fz, h1, h2, fun w hw hh => ?_⟩
 have hK := And.intro hw hh
 refine Goes.step rfl fun w₁ h₁ => ?_
 replace hK := Go.ConcN.Gen.kn_rely hK h₁
 have hA := @Go.ConcN.Gen.doneN pay0 lnk Tryz.prog wgLib Own0 Own0 z.W cc 1 0 1 v (Fr 126 T k [] .returning .deferred none) [botF] 2 rfl (quitsTail 126 T k Tryz.func126 rfl) w₁ hK
 have hs := stepG_unwind_enter (P := Tryz.prog) (main := false) (b := baseD 126) (a := ⟨T, [dcall 127 #[pt z.W]]⟩) (ds := []) (todo := k) (cs := [botF]) (w := w₁) rfl Tryz.func127 (by kernel_rfl) rfl
 have hs' : stepG Tryz.prog false (G (Fr 126 T k [dcall 127 #[pt z.W]] .returning .deferred none) [botF]) w₁ = _ := hs
 show (stepG Tryz.prog false _ w₁).goes _
 rw [hs']
 simp only [goes_go]
 refine ⟨?_, hA⟩
 u_nil
theorem born_enter {g : FuncId} {fn : Func} {f1 f2 : Array Value} {bd : Code} (hf : Tryz.prog.funcs[g]? = some fn) (hn : (fn.name == "runtime.NumGoroutine") = false) (hb : fn.body = some bd) (w : World) :
  stepG Tryz.prog false (born Tryz.prog ⟨.fn (.func g) f2, f1⟩) w = .go (G (Frame.enter Tryz.prog g (f1 ++ f2) .deferred) [botF]) w := by
 have h4 : ¬ fn.name = "runtime.NumGoroutine" := by simpa using hn
 simp [born, G, stepG, unwind, callDeferred, invoke, callFunc, hf, h4, hb, GStep.after, seen_none, botF, goexitEntry]
theorem closer_way {R : LH} (hd : R.cell? ⟨z.bd, 0, none⟩ = some (.chan (some z.D))) : Way Tryz.prog false (WgLive 180 z.W) (KDis (firePool z ML)) (born Tryz.prog ⟨.fn (.func 128) #[pt z.W, pt z.bd], #[]⟩) R := by
 refine (LW z.W (KDis (firePool z ML))).quiet rfl (born_enter Tryz.func128 (by kernel_rfl) rfl) ?_
 refine W.start (n := 4) (args := [pt z.W, pt z.bd]) Tryz.func128 rfl rfl rfl ?_
 refine W.go 99 rfl ?_
 refine W.callX rfl rfl rfl rfl (wait_sp (waitS_of (z := z) (ML := ML)) R) ?_
 rintro Y v _ ⟨rfl, rfl, rfl⟩
 refine W.go 99 rfl ?_
 refine W.vf rfl rfl rfl rfl (Vf.load rfl rfl rfl (hd)) ?_
 refine W.go 99 rfl ?_
 refine W.stop rfl fun T R β hT hE hH => ?_
 have e3 : (⟨T, []⟩ : Act).eval (.tmp 3) = .chan (some z.D) := (congrFun (act_ev T []) _).trans (Option.some.inj (hE 3 _ rfl)).symm
 refine ⟨rfl, _, 4, rfl, rfl, fun w s r h => stepG_close (b := bF 128 .deferred) (a := ⟨T, []⟩) (kk := []) rfl rfl (by decide) rfl e3 h (by kernel_rfl), ?_⟩
 exact QuitsD.ctl (g' := G (Fr 128 T [] [] .run .deferred none) [botF]) rfl (fun w => by simp [G, Fr, bF, Frame.at, Act.put, stepG, stepG.exec])
  (QuitsD.ctl (g' := G (Fr 128 T [] [] .returning .deferred none) [botF]) rfl (fun w => by simp [G, Fr, stepG, stepG.exec]) (quitsTail 128 T [] Tryz.func128 rfl))
structure WkAt (z : FD) (k bl bi : Nat) (R : LH) : Prop where
 s : R.cell? ⟨z.bf, 0, none⟩ = some (.chan (some z.C))
 bs : cellsAt R ⟨z.bs, 0, none⟩ 6 [.slice z.p.sa z.s.shelves.length z.p.c1, .slice z.p.ca z.s.cones.length z.p.c2, .int .i64 z.s.days, .int .i64 z.s.now, .int .i64 z.s.rise, .int .i64 z.s.top]
 st : StAt R z.s z.p
 gl : GlOk R
 l : ∃ ad cap, R.cell? ⟨bl, 0, none⟩ = some (.slice ad (z.ls.getD k []).length cap) ∧ IntsAt R ad (z.ls.getD k [])
 i : R bi = some (.cells #[.int .i64 k] 3 (0, 0), true)
 ok : Ok z.s
 hok : HOk z.s (z.ls.getD k [])
theorem worker_way {k bl bi : Nat} {R : LH} (h : WkAt z k bl bi R) : Way Tryz.prog false (WgLive 180 z.W) (WStop (firePool z ML) k) (born Tryz.prog ⟨.fn (.func 126) #[pt z.W, pt z.bs, pt bl, pt z.bf, pt bi], #[]⟩) R := by
 refine (LW z.W (WStop (firePool z ML) k)).quiet rfl (born_enter Tryz.func126 (by kernel_rfl) rfl) ?_
 refine W.start (n := 15) (args := [pt z.W, pt z.bs, pt bl, pt z.bf, pt bi]) Tryz.func126 rfl rfl rfl ?_
 obtain ⟨ad, cap, hl, hi⟩ := h.l
 refine W.go 99 rfl ?_
 refine W.deferF rfl rfl rfl rfl ?_
 refine W.go 99 rfl ?_
 refine W.vf rfl rfl rfl rfl (Vf.loadN rfl rfl rfl (h.bs)) ?_
 refine W.go 99 rfl ?_
 refine W.vf rfl rfl rfl rfl (Vf.load rfl rfl rfl (hl)) ?_
 refine W.go 99 rfl ?_
 have hns := newStove_sp (X := LW z.W (WStop (firePool z ML) k)) z.s z.p ad cap (z.ls.getD k []) R h.st hi h.ok h.hok h.gl
 refine W.eff rfl rfl rfl (Ef.call rfl (hns)) ?_
 rintro _ _ _ ⟨_, rfl, rfl, z2, mr, F, rfl, hz2, hz3, hmv, hLF, hFL, hFm, hsv, hmr⟩
 refine W.go 99 rfl ?_
 rename_i L'
 have hv := hsv.le hFL
 have hle2 : Le R L' := hLF.trans hFL
 refine W.eff rfl rfl rfl (Ef.call rfl (full_sp z2 L' hv)) ?_
 rintro _ _ _ ⟨_, rfl, rfl, rfl, rfl⟩
 refine W.go 99 rfl ?_
 refine W.eff rfl rfl rfl (Ef.call rfl (dries_sp z2 (fullC z2.s.cones.length) L' hv)) ?_
 rintro _ _ _ ⟨_, rfl, rfl, rfl, hle3⟩
 refine W.go 99 rfl ?_
 rename_i L3
 have hle := hle2.trans hle3
 have hcan : driesS z2.s z2.hs (fullC z2.s.cones.length) = canS z.s (z.ls.getD k []) := by
  unfold driesS canS
  rw [plans_full, hz2, hz3]
 refine W.split rfl rfl rfl (fun e3 => W.go 99 rfl ?_) (fun e3 => W.go 99 rfl ?_)
 ·refine W.vf rfl rfl rfl rfl (Vf.load rfl rfl rfl (hle.cell h.s)) ?_
  refine W.go 99 rfl ?_
  refine W.vf rfl rfl rfl rfl (Vf.load rfl rfl rfl (cell_of (hle _ _ h.i) rfl)) ?_
  refine W.commO rfl rfl rfl rfl rfl rfl fun T R' g hev hwt ho' hg hrun hof hle4 cont => .inl ?_
  have e13 : (⟨T, [dcall 127 #[pt z.W]]⟩ : Act).eval (.tmp 13) = .chan (some z.C) := hev _ _ _ rfl rfl
  have e14 : (⟨T, [dcall 127 #[pt z.W]]⟩ : Act).eval (.tmp 14) = .int .i64 k := hev _ _ _ rfl rfl
  refine ⟨hrun, .int .i64 k, .tuple #[], g, R', LH.nil, fun w hw => ?_, fun _ _ h => h, (fun _ _ h => by cases h), fun b => .inr rfl, ⟨rfl, rfl, by rw [← hcan]; exact e3⟩, ?_⟩
  ·rw [hg]
   refine (stepG_comm (w' := w) (cases := #[scase z.C (.int .i64 k) (.tuple #[])]) (blocking := true) (shape := .send) ho' hwt (show CallKind.deferred ≠ CallKind.early by decide) (by simp [execOp, e13, e14, scase])).trans ?_
   simp [listed, execOp, seen]
   rfl
  ·refine cont (LW z.W (AtDn (firePool z ML))) undef ?_
   refine W.go 99 rfl ?_
   intro T R' β hT hE hH
   have hbi : R' bi = some (.cells #[.int .i64 k] 3 (0, 0), true) := hH.le _ _ (hle _ _ h.i)
   exact (LW z.W (AtDn (firePool z ML))).quiet (g' := G (Fr 126 T [] [dcall 127 #[pt z.W]] .returning .deferred none) [botF]) rfl (fun w => by simp [G, Fr, stepG, stepG.exec]) (Way.stop (atDn_of hbi rfl))
 ·intro T R' β hT hE hH
  have hbi : R' bi = some (.cells #[.int .i64 k] 3 (0, 0), true) := hH.le _ _ (hle _ _ h.i)
  exact (LW z.W (WStop (firePool z ML) k)).quiet (g' := G (Fr 126 T [] [dcall 127 #[pt z.W]] .returning .deferred none) [botF]) rfl (fun w => by simp [G, Fr, stepG, stepG.exec])
   (Way.stop (.inr ⟨by show canS z.s (z.ls.getD k []) = false; rw [← hcan]; exact e3, atDn_of hbi rfl⟩))
end Go.Mz


set_option maxRecDepth 100000
namespace Go.Mz
open Go.Conc Go.ConcN Go.Proofs
def findB (m : Nat) : Code → List Code → Option (Code × List Code)
 | .block l b, k => if Nat.beq l m then some (b, k) else none
 | .seq a b, k => match findB m a (b :: k) with
  | some r => some r
  | none => findB m b k
 | _, _ => none
def findR (m : Nat) : Code → List Code → Option (Array Oper × List Code)
 | .region l ops _, k => if Nat.beq l m then some (ops, k) else none
 | .seq a b, k => match findR m a (b :: k) with
  | some r => some r
  | none => findR m b k
 | _, _ => none
noncomputable def fiB2 : Code × List Code := ((Tryz.f93.body.bind (findB 2 · [])).getD (.skip, []))
noncomputable def fiC2 : Code := match fiB2.1 with | .loop c => c | _ => .skip
noncomputable def fiK2 : List Item := .inBlock 2 :: fiB2.2.map .code
noncomputable def fiB4 : Code × List Code := ((Tryz.f93.body.bind (findB 4 · [])).getD (.skip, []))
noncomputable def fiC4 : Code := match fiB4.1 with | .loop c => c | _ => .skip
noncomputable def fiK4 : List Item := .inBlock 4 :: fiB4.2.map .code
noncomputable def fiB5 : Code := ((findB 5 fiC4 []).getD (.skip, [])).1
noncomputable def fiR19 : Array Oper × List Code := (findR 19 fiB5 []).getD (#[], [])
noncomputable def fiS : List Item := .inRegion fiR19.1 [0, 1, 2, 3] :: (fiR19.2.map .code ++ (.inBlock 5 :: .inLoop fiC4 :: fiK4))
structure FireAt (z : FD) (L : LH) : Prop where
 bs : cellsAt L ⟨z.bs, 0, none⟩ 6 (bxS z.s z.p)
 all : L.cell? ⟨z.ba, 0, none⟩ = some (.slice z.al.1 z.rf.length z.al.2.2)
 sl : SlAt L z.al.1 1 encR z.rf
 rel : RelA L z.rf z.ls
 f : L.cell? ⟨z.bf, 0, none⟩ = some (.chan (some z.C))
 d : L.cell? ⟨z.bd, 0, none⟩ = some (.chan (some z.D))
 st : StAt L z.s z.p
 gl : GlOk L
def Dim (L L' : LH) : Prop := ∀ b o wr, L b = some (o, wr) → ∃ wr', L' b = some (o, wr')
theorem Dim.of_le {L L' : LH} (h : Le L L') : Dim L L' := fun b o wr hb => ⟨wr, h _ _ hb⟩
theorem Dim.trans {L L' L2 : LH} (h : Dim L L') (h2 : Dim L' L2) : Dim L L2 := fun b o wr hb => let ⟨w1, h1⟩ := h b o wr hb; h2 b o w1 h1
theorem Dim.cell {L L' : LH} (h : Dim L L') {a : Addr} {v : Value} (hc : L.cell? a = some v) : L'.cell? a = some v := by
 unfold LH.cell? at hc ⊢
 cases hb : L a.block with
 | none => rw [hb] at hc; cases hc
 | some x =>
  obtain ⟨o, wr⟩ := x
  obtain ⟨wr', h'⟩ := h _ _ _ hb
  rw [hb] at hc
  rw [h']
  cases o <;> first | exact hc | cases hc
theorem Dim.cells {L L' : LH} (h : Dim L L') {a : Addr} {n : Nat} {vs : List Value} (hc : cellsAt L a n vs) : cellsAt L' a n vs := ⟨hc.1, fun i v hv => h.cell (hc.2 i v hv)⟩
theorem Dim.sl {α : Type} {L L' : LH} (h : Dim L L') {ad : Option Addr} {k : Nat} {enc : α → List Value} {l : List α} (hs : SlAt L ad k enc l) : SlAt L' ad k enc l := fun i x hx => let ⟨a, h1, h2⟩ := hs i x hx; ⟨a, h1, fun j v hv => h.cell (h2 j v hv)⟩
theorem Dim.st {L L' : LH} (h : Dim L L') {s : St} {p : Pt} (hs : StAt L s p) : StAt L' s p := ⟨h.sl hs.sh, h.sl hs.co, hs.l1, hs.l2⟩
theorem Dim.rel {L L' : LH} (h : Dim L L') {rf : List Rf} {ls : List (List Int)} (hs : RelA L rf ls) : RelA L' rf ls := ⟨hs.1, fun k v l h1 h2 => let ⟨ad, cap, h3, h4⟩ := hs.2 k v l h1 h2; ⟨ad, cap, h3, h.sl h4⟩⟩
theorem FireAt.dim {z : FD} {L L' : LH} (h : FireAt z L) (hd : Dim L L') : FireAt z L' := ⟨hd.cells h.bs, hd.cell h.all, hd.sl h.sl, hd.rel h.rel, hd.cell h.f, hd.cell h.d, hd.st h.st, hd.cell h.gl⟩
def sumI (ls : List (List Int)) (i : Nat) : Int := sumL (ls.getD i [])
def bestI (fine : Nat → Bool) (ls : List (List Int)) (j : Nat) : Option Nat := firstMin (sumI ls) ((List.range j).filter fine)
def outV (rf : List Rf) (ls : List (List Int)) : Option Nat → List Value
 | none => [.slice none 0 0, .int .i64 0, .bool false]
 | some i => [slV (rf.getD i (none, 0, 0)), .int .i64 (sumI ls i), .bool true]
theorem bestI_succ (fine : Nat → Bool) (ls : List (List Int)) (j : Nat) : bestI fine ls (j + 1) = if fine j then takeLess (sumI ls) (bestI fine ls j) j else bestI fine ls j := by
 unfold bestI
 rw [range_filter]
 split
 ·rw [firstMin_add]
 ·rw [List.append_nil]
variable {X : Logic Tryz.prog}
theorem takeI_sp (b : Nat) (rf : List Rf) (ls : List (List Int)) (o : Option Nat) (i : Nat) (L : LH) (h : L b = some (.cells (outV rf ls o).toArray 184 (0, 0), true)) :
  Sp X 130 [pt b, slV (rf.getD i (none, 0, 0)), .int .i64 (sumI ls i)] L (fun v L' => v = .tuple #[] ∧ (∀ b', b' ≠ b → L' b' = L b') ∧ L' b = some (.cells (outV rf ls (takeLess (sumI ls) o i)).toArray 184, true)) := by
 cases o with
 | none =>
  refine (takeI_raw (X := X) b none (rf.getD i (none, 0, 0)).1 0 0 (rf.getD i (none, 0, 0)).2.1 (rf.getD i (none, 0, 0)).2.2 0 (sumI ls i) false L h).mono ?_ (fun _ _ h => h)
  rintro v L' ⟨h1, h2, h3⟩
  exact ⟨h1, h2, h3⟩
 | some y =>
  refine (takeI_raw (X := X) b (rf.getD y (none, 0, 0)).1 (rf.getD i (none, 0, 0)).1 (rf.getD y (none, 0, 0)).2.1 (rf.getD y (none, 0, 0)).2.2 (rf.getD i (none, 0, 0)).2.1 (rf.getD i (none, 0, 0)).2.2 (sumI ls y) (sumI ls i) true L h).mono ?_ (fun _ _ h => h)
  rintro v L' ⟨h1, h2, h3⟩
  refine ⟨h1, h2, h3.trans ?_⟩
  by_cases hlt : sumI ls i < sumI ls y
  ·rw [if_pos (by simpa using hlt), show takeLess (sumI ls) (some y) i = some i from if_pos hlt]; rfl
  ·rw [if_neg (by simpa using hlt), show takeLess (sumI ls) (some y) i = some y from if_neg hlt]; rfl
theorem fire_end {C : Cx Tryz.prog} {z : FD} {dd bn : Nat} {L : LH} {fine : Nat → Bool} (hat : FireAt z L) (hf : ∀ i, i < z.ls.length → L.cell? ⟨bn, i, none⟩ = some (.bool (fine i))) (hd : L dd = some (.deferred (some []), true)) (hok : Ok z.s) (hh : ∀ l ∈ z.ls, HOk z.s l) (hn : z.ls.length ≤ 1296)
  (hL : C.L0 = L) (r : Rt C Tryz.f93 fun v L' => v = .tuple (outV z.rf z.ls (bestI fine z.ls z.ls.length)).toArray ∧ ∀ b x, b ≠ dd → L b = some x → L' b = some x) :
  W C 86 [⟨.collected dd, #[]⟩] (fiB4.2.map .code) [(5, .v (pt z.ba)), (12, .v (.slice (some ⟨bn, 0, none⟩) z.ls.length z.ls.length))] [] L := by
 refine W.goP [55] 99 rfl ?_
 refine W.pub 15 (.inl ⟨_, rfl⟩) rfl rfl ?_
 intro bb hbb _
 have hlb := Le.put hbb (.cells #[.slice none 0 0, .int .i64 0, .bool false] 184)
 have hpb := put_same L bb (.cells #[.slice none 0 0, .int .i64 0, .bool false] 184)
 have hrl := hat.rel.1
 refine W.vf rfl rfl rfl rfl (Vf.load rfl rfl rfl (hlb.cell hat.all)) ?_
 refine W.go 99 rfl ?_
 refine W.loop (fun m E B L' => ∃ (j : Nat) (qa : Option Addr), z.al.1 = qa ∧ j ≤ z.ls.length ∧ m = z.ls.length - j ∧ Le L L' ∧ L' bb = some (.cells (outV z.rf z.ls (bestI fine z.ls j)).toArray 184 (0, 0), true) ∧
   E = [(12, .v (.slice (some ⟨bn, 0, none⟩) z.ls.length z.ls.length)), (15, .v (pt bb)), (55, .v (.slice qa z.rf.length z.al.2.2)), (56, .v (.int .i64 z.rf.length)), (57, .v (.int .i64 j))] ∧ B = [])
  ⟨0, _, rfl, by omega, rfl, hlb, hpb, rfl, rfl⟩ (by exact ⟨rfl, rfl, rfl, rfl, rfl, trivial⟩) (by exact trivial) ?_
 rintro _ _ _ L2 ⟨j, qa, hqa, hj, rfl, hle, hbo, rfl, rfl⟩ again
 refine W.go 99 rfl ?_
 refine W.split rfl rfl rfl (fun e1 => ?_) (fun e1 => ?_)
 ·have hjl : j < z.rf.length := by simpa using e1
  have hat2 := hat.dim (Dim.of_le hle)
  obtain ⟨aa, haa⟩ := hat2.sl.addr hjl
  have hr : z.rf[j]? = some z.rf[j] := List.getElem?_eq_getElem hjl
  have hl : z.ls[j]? = some (z.ls[j]'(by omega)) := List.getElem?_eq_getElem _
  obtain ⟨ad, cap, hrj, hints⟩ := hat2.rel.2 j _ _ hr hl
  have hcell := hat2.sl
  rw [hqa] at haa
  subst haa
  rw [hqa] at hcell
  generalize hlj : z.ls[j]'(by omega) = lj at hl hrj hints
  have hljm : lj ∈ z.ls := List.mem_of_getElem? hl
  have hgd : z.ls.getD j [] = lj := by rw [List.getD_eq_getElem?_getD, hl]; rfl
  have hgr : z.rf.getD j (none, 0, 0) = (ad, lj.length, cap) := by rw [List.getD_eq_getElem?_getD, hr, hrj]; rfl
  have hhk := hh lj hljm
  have hlen := hhk.len
  have hd4 := hok.d4
  have ht5 := hok.t5
  refine W.go 99 rfl ?_
  refine W.vf rfl rfl rfl rfl (Vf.idx1 rfl rfl rfl rfl rfl rfl rfl (hjl)) ?_
  have hc1 : L2.cell? (aa.add j) = some (.slice ad lj.length cap) := by
   have := hcell.get hr (j := 0) (v := slV z.rf[j]) rfl
   rw [hrj] at this
   simpa using this
  refine W.vf rfl rfl rfl rfl (Vf.load rfl rfl rfl (hc1)) ?_
  refine W.go 99 rfl ?_
  refine W.loop (fun m E B L' => ∃ k : Nat, k ≤ lj.length ∧ m = lj.length - k ∧ L2 = L' ∧
    E = [(12, .v (.slice (some ⟨bn, 0, none⟩) z.ls.length z.ls.length)), (15, .v (pt bb)), (55, .v (.slice (some aa) z.rf.length z.al.2.2)), (56, .v (.int .i64 z.rf.length)), (57, .v (.int .i64 j)), (16, .v (.int .i64 j)), (17, .v (.slice ad lj.length cap)), (18, .v (.int .i64 (sumL (lj.take k)))), (62, .v (.slice ad lj.length cap)), (63, .v (.int .i64 lj.length)), (64, .v (.int .i64 k))] ∧ B = [])
   ⟨0, by omega, rfl, rfl, rfl, rfl⟩ (by exact ⟨rfl, rfl, rfl, rfl, rfl, rfl, rfl, rfl, rfl, rfl, rfl, trivial⟩) (by exact trivial) ?_
  rintro _ _ _ _ ⟨k, hk, rfl, rfl, rfl, rfl⟩ again2
  refine W.go 99 rfl ?_
  refine W.split rfl rfl rfl (fun e2 => ?_) (fun e2 => ?_)
  ·have hkl : k < lj.length := by simpa using e2
   obtain ⟨la, rfl⟩ := hints.addr hkl
   have htk : lj.take (k + 1) = lj.take k ++ [lj[k]] := List.take_succ_eq_append_getElem hkl
   have hb : ∀ x ∈ lj, 0 ≤ x ∧ x ≤ 100 := fun x hx => by have := hhk.r x hx; omega
   have hs := sumL_bd _ (lj.take (k + 1)) rfl fun x hx => hb x (List.mem_of_mem_take hx)
   rw [List.length_take, htk, sumL_add] at hs
   refine W.go 99 rfl ?_
   refine W.vf rfl rfl rfl rfl (Vf.idx1 rfl rfl rfl rfl rfl rfl rfl (hkl)) ?_
   refine W.vf rfl rfl rfl rfl (Vf.load rfl rfl rfl (hints.int (List.getElem?_eq_getElem hkl))) ?_
   refine W.go 99 rfl ?_
   exact W.again (again2 _ _ _ _ (by omega) ⟨k + 1, by omega, rfl, rfl, rfl, rfl⟩) ⟨rfl, rfl, rfl, rfl, rfl, rfl, rfl, congrArg some (w64 (by rw [htk, sumL_add]) (by rw [htk, sumL_add]; omega) (by rw [htk, sumL_add]; omega)), rfl, rfl, congrArg some (inc64 (by omega)), trivial⟩ (by exact trivial)
  ·have hke : k = lj.length := by simp at e2; omega
   subst hke
   rw [List.take_length]
   have hsum : sumI z.ls j = sumL lj := by unfold sumI; rw [hgd]
   refine W.go 99 rfl ?_
   refine W.vf rfl rfl rfl rfl (Vf.idx1 rfl rfl rfl rfl rfl rfl rfl ((show j < z.ls.length by omega))) ?_
   have hcf : L2.cell? ((⟨bn, 0, none⟩ : Addr).add j) = some (.bool (fine j)) := by rw [add_of, Nat.zero_add]; exact hle.cell (hf j (by omega))
   refine W.vf rfl rfl rfl rfl (Vf.load rfl rfl rfl (hcf)) ?_
   refine W.go 99 rfl ?_
   refine W.split rfl rfl rfl (fun e3 => ?_) (fun e3 => ?_)
   ·have htk := takeI_sp (X := C.X) bb z.rf z.ls (bestI fine z.ls j) j L2 hbo
    rw [hgr, hsum] at htk
    refine W.go 99 rfl ?_
    refine W.eff rfl rfl rfl (Ef.call rfl (htk)) ?_
    rintro _ _ _ ⟨_, rfl, rfl, rfl, hk5, hbo5⟩
    refine W.go 99 rfl ?_
    exact W.again (again _ _ _ _ (by omega) ⟨j + 1, _, hqa, by omega, rfl, fun b x hx => by
      by_cases e : b = bb
      ·subst e; rw [hbb] at hx; cases hx
      ·rw [hk5 b e]; exact hle b x hx, by rw [bestI_succ, e3]; exact hbo5, rfl, rfl⟩) ⟨rfl, rfl, rfl, rfl, congrArg some (inc64 (by omega)), trivial⟩ (by exact trivial)
   ·refine W.go 99 rfl ?_
    exact W.again (again _ _ _ _ (by omega) ⟨j + 1, _, hqa, by omega, rfl, hle, by rw [bestI_succ, e3]; exact hbo, rfl, rfl⟩) ⟨rfl, rfl, rfl, rfl, congrArg some (inc64 (by omega)), trivial⟩ (by exact trivial)
 ·have hje : j = z.ls.length := by simp at e1; omega
  subst hje
  obtain ⟨x0, x1, x2, hx⟩ : ∃ x0 x1 x2, outV z.rf z.ls (bestI fine z.ls z.ls.length) = [x0, x1, x2] := by
   cases bestI fine z.ls z.ls.length with
   | none => exact ⟨_, _, _, rfl⟩
   | some i => exact ⟨_, _, _, rfl⟩
  rw [hx] at hbo r
  refine W.go 99 rfl ?_
  refine W.drawn (by kernel_rfl) L2 (Le.refl _) ?_
  refine DD.run' [0, 2, 4] rfl ?_
  refine DD.vf 1 rfl rfl rfl rfl rfl (Vf.load rfl rfl rfl (cell_of hbo rfl)) ?_
  refine DD.vf 3 rfl rfl rfl rfl rfl (Vf.load rfl rfl rfl (cell_of hbo rfl)) ?_
  refine DD.vf 5 rfl rfl rfl rfl rfl (Vf.load rfl rfl rfl (cell_of hbo rfl)) ?_
  refine DD.run' [6, 7, 8] rfl ?_
  refine .fin rfl ?_
  refine W.go 99 rfl ?_
  refine W.out (by rw [r.ro]) (.inr .ret) (WM.collected rfl (hle _ _ hd) (WM.ret r rfl rfl ⟨rfl, fun b x hb hx => ?_⟩))
  rw [put_ne _ _ hb]
  exact hle b x hx
end Go.Mz


set_option maxRecDepth 100000
namespace Go.Mz
open Go.Conc Go.ConcN Go.Proofs
open Go.ConcR (KK wgBlock WgAt smA rd wr mk)
def Fr0 (z : FD) (b : Nat) : Prop := (z.L0 b = none ∧ z.R0 b ≠ none) ∨ b = z.dd
open Classical in
noncomputable def nf (z : FD) (R : LH) : LH := fun b => if Fr0 z b then none else R b
theorem nf_le (z : FD) (R : LH) : Le (nf z R) R := fun b x hx => by
 unfold nf at hx
 split at hx
 ·cases hx
 ·exact hx
theorem nf_mono {z : FD} {R R' : LH} (h : Le R R') : Le (nf z R) (nf z R') := fun b x hx => by
 unfold nf at hx ⊢
 split at hx
 ·cases hx
 ·rename_i hf; rw [if_neg hf]; exact h b x hx
structure InvE (z : FD) (R : LH) : Prop where
 at_ : FireAt z (nf z R)
 keep : ∀ b x, z.L0 b = none → z.R0 b = some x → R b = some x
 dom : ∀ b o wr, z.L0 b = some (o, wr) → ∃ wr', R b = some (o, wr')
structure InvM (z : FD) (R : LH) : Prop where
 e : InvE z R
 dd : R z.dd = some (.deferred (some []), true)
theorem InvM.le {z : FD} {R R' : LH} (h : InvM z R) (hl : Le R R') : InvM z R' :=
 ⟨⟨h.e.at_.dim (Dim.of_le (nf_mono hl)), fun b x h1 h2 => hl _ _ (h.e.keep b x h1 h2), fun b o wr hb => let ⟨w1, h1⟩ := h.e.dom b o wr hb; ⟨w1, hl _ _ h1⟩⟩, hl _ _ h.dd⟩
theorem InvE.but {z : FD} {R R' : LH} (h : InvE z R) (h1 : z.L0 z.dd = none) (h2 : z.R0 z.dd = none) (hl : ∀ b x, b ≠ z.dd → R b = some x → R' b = some x) : InvE z R' :=
 ⟨h.at_.dim fun b o wr hb => by
  unfold nf at hb ⊢
  split at hb
  ·cases hb
  ·rename_i hf
   rw [if_neg hf]
   exact ⟨wr, hl b _ (fun e => hf (.inr e)) hb⟩, fun b x g1 g2 => hl b x (fun e => by subst e; rw [h2] at g2; cases g2) (h.keep b x g1 g2), fun b o wr hb => let ⟨w1, g1⟩ := h.dom b o wr hb; ⟨w1, hl b _ (fun e => by subst e; rw [h1] at hb; cases hb) g1⟩⟩
structure ZOk (z : FD) : Prop where
 ok : Ok z.s
 hok : ∀ l ∈ z.ls, HOk z.s l
 n : z.ls.length ≤ 1296
 cd : z.C ≠ z.D
 kd : z.kd = .normal ∨ z.kd = .wrapped
 al : z.al = (z.al.1, z.rf.length, z.al.2.2)
 dd : z.L0 z.dd = none ∧ z.R0 z.dd = none
 ret : ∀ v R', v = .tuple (outV z.rf z.ls (bestI (fun i => canS z.s (z.ls.getD i [])) z.ls z.ls.length)).toArray → InvE z R' → FGo Tryz.prog z.Post z.W0 (G (z.c.finish v) z.cs) R'
open Classical in
noncomputable def fineA (n : Nat) (Rk : Nat → Prop) : Array Value := ((List.range n).map fun i => Value.bool (decide (Rk i))).toArray
theorem fineA_get {n : Nat} {Rk : Nat → Prop} {i : Nat} (h : i < n) : (fineA n Rk)[i]? = some (.bool (open Classical in decide (Rk i))) := by
 unfold fineA
 rw [List.getElem?_toArray, List.getElem?_map, List.getElem?_range h]; rfl
theorem fineA_set {n : Nat} {Rk : Nat → Prop} {k : Nat} : putRow (fineA n Rk) k [.bool true] = fineA n (fun i => Rk i ∨ i = k) := by
 have hsz : ∀ Rk, (fineA n Rk).size = n := fun Rk => by simp [fineA]
 refine Array.ext_getElem? fun j => ?_
 rw [putRow_get]
 by_cases hj : j < n
 ·rw [fineA_get hj, fineA_get hj]
  by_cases e : j = k
  ·subst e
   rw [if_neg (by omega), dif_pos ⟨by simp, by rw [hsz]; exact hj⟩]
   simp
  ·have : ((Rk j ∨ j = k) ↔ Rk j) := ⟨fun h => h.resolve_right e, .inl⟩
   have e2 : ∀ (i1 : Decidable (Rk j ∨ j = k)) (i2 : Decidable (Rk j)), @decide _ i1 = @decide _ i2 := fun i1 i2 => by
    by_cases hr : Rk j
    ·simp [hr]
    ·simp [hr, e]
   rw [e2 _ (Classical.propDecidable _)]
   split
   ·rfl
   ·rw [dif_neg (by simp; omega)]
 ·have h1 : ∀ Rk, (fineA n Rk)[j]? = none := fun Rk => Array.getElem?_eq_none (by rw [hsz]; omega)
  rw [h1, h1]
  split
  ·rfl
  ·rw [dif_neg (by rw [hsz]; omega)]
def eS (z : FD) (bn : Nat) : Env := [(1, .v (pt z.bs)), (5, .v (pt z.ba)), (7, .v (pt z.bf)), (8, .v (pt z.bd)), (12, .v (.slice (some ⟨bn, 0, none⟩) z.ls.length z.ls.length)), (13, .lit true), (45, .v (.chan (some z.C))), (46, .v (.chan (some z.D)))]
abbrev dsF (z : FD) : List Deferred := [⟨.collected z.dd, #[]⟩]
structure SelK (z : FD) (Rk : Nat → Prop) (bn : Nat) (R : LH) : Prop where
 inv : InvM z (R.less [bn])
 blk : R bn = some (.cells (fineA z.ls.length Rk) 4 (0, 0), true)
 can : ∀ k, Rk k → canS z.s (z.ls.getD k []) = true
theorem SelK.le {z : FD} {Rk : Nat → Prop} {bn : Nat} {R R' : LH} (h : SelK z Rk bn R) (hl : Le R R') : SelK z Rk bn R' :=
 ⟨h.inv.le fun b x hx => by
  have hb : b ∉ [bn] := fun e => by rw [less_none e] at hx; cases hx
  rw [less_get hb] at hx ⊢
  exact hl b x hx, hl _ _ h.blk, h.can⟩
theorem SelK.all {z : FD} {Rk : Nat → Prop} {bn : Nat} {R : LH} (h : SelK z Rk bn R) : InvM z R := h.inv.le (less_le _ _)
theorem SelK.fire {z : FD} {Rk : Nat → Prop} {bn : Nat} {R : LH} (h : SelK z Rk bn R) : FireAt z R := h.all.e.at_.dim (Dim.of_le (nf_le _ _))
def ML (z : FD) (Rk : Nat → Prop) (g : Goroutine) (R : LH) : Prop :=
 ∃ (T : Array Value) (bn : Nat), T.size = 86 ∧ EnvOk nm0 (get (eS z bn)) T ∧ g = G (Fr 93 T fiS (dsF z) .run z.kd none) (z.c :: z.cs) ∧ SelK z Rk bn R
theorem sel_reach {z : FD} {Rk : Nat → Prop} {bn : Nat} {C : Cx Tryz.prog} {L : LH} (hX : C.X = LWay Tryz.prog true (WgLive 180 z.W) (ML z Rk)) (hf : C.f = 93) (hk : C.kd = z.kd) (hro : C.ro = none) (hcs : C.cs = z.c :: z.cs) (h : SelK z Rk bn L) :
  W C 86 (dsF z) (.code fiC4 :: .inLoop fiC4 :: fiK4) [(1, .v (pt z.bs)), (5, .v (pt z.ba)), (7, .v (pt z.bf)), (8, .v (pt z.bd)), (12, .v (.slice (some ⟨bn, 0, none⟩) z.ls.length z.ls.length)), (13, .lit true)] [] L := by
 refine W.go 99 rfl ?_
 refine W.vf rfl rfl rfl rfl (Vf.load rfl rfl rfl (h.fire.f)) ?_
 refine W.go 99 rfl ?_
 refine W.vf rfl rfl rfl rfl (Vf.load rfl rfl rfl (h.fire.d)) ?_
 refine W.go 99 rfl ?_
 refine W.stop hX fun T R β hT hE hH => ?_
 refine ⟨T, bn, hT, hE.sub0 ⟨rfl, rfl, rfl, rfl, rfl, rfl, rfl, rfl, trivial⟩ rfl, ?_, h.le hH.le⟩
 rw [hf, hk, hro, hcs]
 rfl
theorem sel_step {z : FD} {bn : Nat} {T : Array Value} (hk : z.kd = .normal ∨ z.kd = .wrapped) (hE : EnvOk nm0 (get (eS z bn)) T) (w : World) :
  stepG Tryz.prog true (G (Fr 93 T fiS (dsF z) .run z.kd none) (z.c :: z.cs)) w = .comm (G (Fr 93 T fiS (dsF z) .run z.kd none) (z.c :: z.cs)) #[rcase z.C (.int .i64 0), rcase z.D (.agg #[])] true .select w #[] := by
 have e45 : (⟨T, dsF z⟩ : Act).eval (.tmp 45) = .chan (some z.C) := (congrFun (act_ev T _) _).trans (Option.some.inj (hE 45 _ rfl)).symm
 have e46 : (⟨T, dsF z⟩ : Act).eval (.tmp 46) = .chan (some z.D) := (congrFun (act_ev T _) _).trans (Option.some.inj (hE 46 _ rfl)).symm
 have hkd : z.kd ≠ .early := by rcases hk with e | e <;> rw [e] <;> decide
 have ho : fiR19.1[0]? = some (fiR19.1[0]?.getD default) := rfl
 have hr : (execOp (⟨T, dsF z⟩ : Act).eval (fiR19.1[0]?.getD default)).run Tryz.prog w = .ok (.comm #[rcase z.C (.int .i64 0), rcase z.D (.agg #[])] true .select) w ∧ (execOp (⟨T, dsF z⟩ : Act).eval (fiR19.1[0]?.getD default)).events Tryz.prog w #[] = #[] := by
  show (execOp (⟨T, dsF z⟩ : Act).eval ⟨some 47, .select #[⟨.tmp 45, none, 3⟩, ⟨.tmp 46, none, 172⟩] true, _, _, _, none⟩).run Tryz.prog w = _ ∧ (execOp (⟨T, dsF z⟩ : Act).eval ⟨some 47, .select #[⟨.tmp 45, none, 3⟩, ⟨.tmp 46, none, 172⟩] true, _, _, _, none⟩).events Tryz.prog w #[] = _
  have z3 := Tryz.zeroValue3
  have z172 := Tryz.zeroValue172
  constructor
  ·simp [execOp, e45, e46, z3, z172, rcase]
  ·simp [execOp, e45, e46, z3, z172]
 refine (stepG_comm (P := Tryz.prog) (main := true) (b := bF 93 z.kd) (a := ⟨T, dsF z⟩) (w' := w) ho (by rfl) hkd hr.1).trans ?_
 unfold listed
 rw [hr.2]
 rfl
theorem join_nil (L : LH) : L.join LH.nil = L := by
 funext b
 unfold LH.join LH.nil
 cases L b <;> rfl
theorem bestI_congr {f g : Nat → Bool} {ls : List (List Int)} {n : Nat} (h : ∀ i, i < n → f i = g i) : bestI f ls n = bestI g ls n := by
 unfold bestI
 rw [List.filter_congr fun i hi => h i (List.mem_range.1 hi)]
theorem cR0 (C D : Nat) (v : Value) : commResult #[rcase C (.int .i64 0), rcase D (.agg #[])] .select ((0 : Nat) : Int) v true = .tuple #[.int .i64 0, .bool true, v, .agg #[]] := by
 simp [commResult, rcase, goInt]
theorem cR1 (C D : Nat) (v : Value) : commResult #[rcase C (.int .i64 0), rcase D (.agg #[])] .select ((1 : Nat) : Int) v false = .tuple #[.int .i64 1, .bool false, .int .i64 0, v] := by
 simp [commResult, rcase, goInt]
theorem takes_of {z : FD} (hz : ZOk z) (b : Nat) : Takes { firePool z (ML z) with base := b } := by
 rintro Rk _ R ⟨T, bn, hT, hE, rfl, h⟩
 refine ⟨rfl, _, _, .select, 0, 1, .int .i64 0, .agg #[], ⟨rfl, fun w _ => sel_step hz.kd hE w, fun w _ => sel_step hz.kd hE w, rfl, rfl, ?_, ?_, ?_, ?_⟩⟩
 ·intro m c hm
  match m, hm with
  | 0, _ => exact .inl rfl
  | 1, _ => exact .inr rfl
  | m + 2, hm => simp at hm
 ·exact ⟨fun e => absurd e hz.cd, fun e => by cases e⟩
 ·rintro k v Gv hk hR ⟨rfl, rfl, hcan⟩ _
  rw [join_nil]
  have w : W (⟨LWay Tryz.prog true (WgLive 180 z.W) (ML z fun i => Rk i ∨ i = k), 93, z.kd, none, z.c :: z.cs, R, R⟩ : Cx Tryz.prog) 86 (dsF z) (.inRegion fiR19.1 [1, 2, 3] :: (fiR19.2.map .code ++ (.inBlock 5 :: .inLoop fiC4 :: fiK4))) ((47, .v (.tuple #[.int .i64 0, .bool true, .int .i64 k, .agg #[]])) :: eS z bn) [] R := by
   unfold eS
   refine W.go 99 rfl ?_
   refine W.split rfl rfl rfl (fun c => ?_) (fun c => absurd c (by decide))
   refine W.go 99 rfl ?_
   refine W.vf rfl rfl rfl rfl (Vf.idx1 rfl rfl rfl rfl rfl rfl rfl (hk)) ?_
   have hx13 : (Addr.add ⟨bn, 0, none⟩ k) = ⟨bn, k, none⟩ := by rw [add_of, Nat.zero_add]
   refine W.eff0 rfl rfl (Ef.stoF (congrArg (fun a => some (SV.v (.pointer (some a)))) hx13) ⟨_, rfl, rfl⟩ rfl h.blk rfl (by simp [fineA]; exact hk) (singles rfl)) ?_
   rintro _ _ _ ⟨rfl, rfl, rfl⟩
   refine W.go 99 rfl ?_
   refine W.inLoopI (W.again (sel_reach (Rk := fun i => Rk i ∨ i = k) (bn := bn) rfl rfl rfl rfl rfl ⟨?_, ?_, ?_⟩) ⟨rfl, rfl, rfl, rfl, rfl, rfl, trivial⟩ (by exact trivial))
   ·have e : (R.put bn (.cells (putRow (fineA z.ls.length Rk) k [.bool true]) 4)).less [bn] = R.less [bn] := by
     funext b'
     by_cases hb : b' ∈ [bn]
     ·rw [less_none hb, less_none hb]
     ·rw [less_get hb, less_get hb, put_ne _ _ (by simpa using hb)]
    exact e ▸ h.inv
   ·exact (congrArg (fun c => some (Obj.cells c 4 (0, 0), true)) fineA_set) ▸ put_same _ _ _
   ·rintro i (hi | rfl)
    ·exact h.can i hi
    ·exact hcan
  exact W.fin_some (o := fiR19.1[0]?.getD default) rfl rfl (by decide) hT hE (HeapOk.all R) (show den nm0 (.v (.tuple #[.int .i64 0, .bool true, .int .i64 k, .agg #[]])) = some _ from congrArg some (cR0 z.C z.D (.int .i64 k)).symm) w
 ·intro hall
  have w : W (⟨LFGo Tryz.prog z.Post z.W0, 93, z.kd, none, z.c :: z.cs, R, R⟩ : Cx Tryz.prog) 86 (dsF z) (.inRegion fiR19.1 [1, 2, 3] :: (fiR19.2.map .code ++ (.inBlock 5 :: .inLoop fiC4 :: fiK4))) ((47, .v (.tuple #[.int .i64 1, .bool false, .int .i64 0, .agg #[]])) :: eS z bn) [] R := by
   unfold eS
   refine W.go 99 rfl ?_
   refine W.split rfl rfl rfl (fun c => absurd c (by decide)) (fun c => ?_)
   refine W.go 99 rfl ?_
   refine W.split rfl rfl rfl (fun c => ?_) (fun c => absurd c (by decide))
   refine W.go 99 rfl ?_
   refine W.inLoopI ?_
   refine W.go 7 rfl ?_
   have hcan : ∀ i, i < z.ls.length → (open Classical in decide (Rk i)) = canS z.s (z.ls.getD i []) := fun i hi => by
    by_cases hr : Rk i
    ·rw [h.can i hr]; simp [hr]
    ·have := (hall i hi).resolve_left hr
     have h2 : canS z.s (z.ls.getD i []) = false := this
     rw [h2]; simp [hr]
   refine W.again (fire_end (z := z) (dd := z.dd) (bn := bn) (L := R) (fine := fun i => (open Classical in decide (Rk i))) h.fire (fun i hi => cell_of h.blk (fineA_get hi)) h.all.dd hz.ok hz.hok hz.n rfl ⟨Tryz.func93, rfl, hz.kd, z.c, z.cs, rfl, ?_, fun _ _ _ (h : False) _ => h.elim⟩) ⟨rfl, rfl, trivial⟩ (by exact trivial)
   rintro v R' L' ⟨hv, hq⟩ hp
   exact hz.ret v R' (by rw [hv, bestI_congr hcan]) (h.all.e.but hz.dd.1 hz.dd.2 fun b x hb hx => hp.le _ _ (hq b x hb hx))
  exact W.fin_some (o := fiR19.1[0]?.getD default) rfl rfl (by decide) hT hE (HeapOk.all R) (show den nm0 (.v (.tuple #[.int .i64 1, .bool false, .int .i64 0, .agg #[]])) = some _ from congrArg some (cR1 z.C z.D (.agg #[])).symm) w
end Go.Mz


set_option maxRecDepth 100000
namespace Go.Mz
open Go.Conc Go.ConcN Go.Proofs
open Go.ConcR (KK wgBlock WgAt smA rd wr mk)
open Classical in
noncomputable def Lmn (z : FD) (ex : Nat → Prop) (R : LH) : LH := fun b => if ex b then none else if Fr0 z b then R b else (R b).map fun x => (x.1, false)
open Classical in
noncomputable def Lch (z : FD) (ex : Nat → Prop) (R : LH) : LH := fun b => if ex b then R b else if Fr0 z b then none else (R b).map fun x => (x.1, false)
section
variable {z : FD} {ex : Nat → Prop} {R Rs : LH}
theorem mapF {x : Option (Obj × Bool)} {o : Obj} {wr : Bool} (h : (x.map fun x => (x.1, false)) = some (o, wr)) : wr = false ∧ ∃ wr', x = some (o, wr') := by
 cases x with
 | none => cases h
 | some y => obtain ⟨o', w'⟩ := y; cases h; exact ⟨rfl, _, rfl⟩
theorem Lmn_sub {b : Nat} {o : Obj} {wr : Bool} (h : Lmn z ex R b = some (o, wr)) : ∃ wr', R b = some (o, wr') ∧ (wr = true → wr' = true) := by
 unfold Lmn at h
 split at h
 ·cases h
 ·split at h
  ·exact ⟨wr, h, id⟩
  ·obtain ⟨rfl, w', h'⟩ := mapF h; exact ⟨w', h', fun e => by cases e⟩
theorem Lch_sub {b : Nat} {o : Obj} {wr : Bool} (h : Lch z ex R b = some (o, wr)) : ∃ wr', R b = some (o, wr') ∧ (wr = true → wr' = true) := by
 unfold Lch at h
 split at h
 ·exact ⟨wr, h, id⟩
 ·split at h
  ·cases h
  ·obtain ⟨rfl, w', h'⟩ := mapF h; exact ⟨w', h', fun e => by cases e⟩
theorem Lex1 {b : Nat} {o : Obj} (h : Lmn z ex R b = some (o, true)) : Lch z ex R b = none := by
 unfold Lmn at h
 unfold Lch
 split at h
 ·cases h
 ·rename_i h1
  split at h
  ·rename_i h2; rw [if_neg h1, if_pos h2]
  ·have := (mapF h).1; cases this
theorem Lex2 {b : Nat} {o : Obj} (h : Lch z ex R b = some (o, true)) : Lmn z ex R b = none := by
 unfold Lch at h
 unfold Lmn
 split at h
 ·rename_i h1; rw [if_pos h1]
 ·split at h
  ·cases h
  ·have := (mapF h).1; cases this
theorem Lch_dim (hl : Le Rs R) : Dim (nf z Rs) (Lch z ex R) := fun b o wr hb => by
 unfold nf at hb
 split at hb
 ·cases hb
 ·rename_i hf
  have := hl _ _ hb
  unfold Lch
  split
  ·exact ⟨wr, this⟩
  ·first | rw [if_neg hf, this] | rw [this]
   exact ⟨false, rfl⟩
theorem Lmn_inv (hdd : z.L0 z.dd = none) (h : InvM z Rs) (hl : Le Rs R) (hx : ∀ b, ex b → Rs b = none) : InvM z (Lmn z ex R) := by
 have hn : ∀ b, Rs b ≠ none → ¬ ex b := fun b hb he => hb (hx b he)
 refine ⟨⟨h.e.at_.dim fun b o wr hb => ?_, fun b x h1 h2 => ?_, fun b o wr hb => ?_⟩, ?_⟩
 ·unfold nf at hb ⊢
  split at hb
  ·cases hb
  ·rename_i hf
   rw [if_neg hf]
   unfold Lmn
   rw [if_neg (hn b (by rw [hb]; simp)), if_neg hf, hl _ _ hb]
   exact ⟨false, rfl⟩
 ·have h3 := h.e.keep b x h1 h2
  unfold Lmn
  rw [if_neg (hn b (by rw [h3]; simp)), if_pos (.inl ⟨h1, by rw [h2]; simp⟩)]
  exact hl _ _ h3
 ·obtain ⟨w1, h1⟩ := h.e.dom b o wr hb
  unfold Lmn
  rw [if_neg (hn b (by rw [h1]; simp)), if_neg (by
   rintro (⟨e, _⟩ | rfl)
   ·rw [e] at hb; cases hb
   ·rw [hdd] at hb; cases hb), hl _ _ h1]
  exact ⟨false, rfl⟩
 ·unfold Lmn
  rw [if_neg (hn _ (by rw [h.dd]; simp)), if_pos (.inr rfl)]
  exact hl _ _ h.dd
end
noncomputable abbrev poolF (z : FD) : Pool := firePool z (ML z)
noncomputable def Yr (z : FD) : Nat → Logic Tryz.prog
 | 0 => LWay Tryz.prog true (WgLive 180 z.W) (MGoK (poolF z))
 | r + 1 => LWay Tryz.prog true (WgLive 180 z.W) (MKd (poolF z) (z.ls.length - (r + 1)) (MSp (poolF z) r))
theorem Yr_go (z : FD) (r : Nat) : (Yr z r).Go = MSp (poolF z) r := by cases r <;> rfl
def eL (z : FD) (k : Nat) : Env := [(1, .v (pt z.bs)), (5, .v (pt z.ba)), (7, .v (pt z.bf)), (8, .v (pt z.bd)), (9, .v (pt z.W)), (30, .v (.slice z.al.1 z.rf.length z.al.2.2)), (31, .v (.int .i64 z.rf.length)), (32, .v (.int .i64 k))]
theorem fineA_zero (n : Nat) : Array.replicate n (Value.bool false) = fineA n fun _ => False := by
 refine Array.ext_getElem? fun j => ?_
 by_cases hj : j < n
 ·rw [fineA_get hj]
  simp [hj]
 ·rw [Array.getElem?_eq_none (by simp; omega), Array.getElem?_eq_none (by simp [fineA]; omega)]
theorem fire_main {z : FD} (hz : ZOk z) : ∀ (r k : Nat), k + r = z.ls.length → ∀ R, InvM z R → W (⟨Yr z r, 93, z.kd, none, z.c :: z.cs, R, R⟩ : Cx Tryz.prog) 86 (dsF z) (.code fiC2 :: .inLoop fiC2 :: fiK2) (eL z k) [] R := by
 have hkd : z.kd ≠ .early := by rcases hz.kd with e | e <;> rw [e] <;> decide
 intro r
 induction r with
 | zero =>
  intro k hk R hR
  have hrl := hR.e.at_.rel.1
  unfold eL
  refine W.go 99 rfl ?_
  refine W.split rfl rfl rfl (fun e => absurd e (by simp; omega)) (fun e => ?_)
  refine W.go 99 rfl ?_
  refine W.weak (E' := [(1, .v (pt z.bs)), (5, .v (pt z.ba)), (7, .v (pt z.bf)), (8, .v (pt z.bd)), (9, .v (pt z.W)), (40, .f (.func 128) [] [.v (pt z.W), .v (pt z.bd)])]) (B' := []) (by exact ⟨rfl, rfl, rfl, rfl, rfl, rfl, trivial⟩) (by exact trivial) ?_
  refine W.spawnO (mn := true) (Φ := WgLive 180 z.W) (S1 := MGoK (poolF z)) rfl rfl hkd rfl rfl rfl rfl rfl fun R2 g0 g' hrun hsp hle cont => ?_
  refine ⟨hrun, g', _, Lmn z (fun _ => False) R2, Lch z (fun _ => False) R2, fun w _ => hsp w, fun b o wr h => Lmn_sub h, fun b o wr h => Lch_sub h, fun b o h => Lex1 h, fun b o h => Lex2 h, ?_, ?_⟩
  ·exact closer_way ((Lch_dim (z := z) (ex := fun _ => False) hle).cell hR.e.at_.d)
  ·refine cont (LWay Tryz.prog true (WgLive 180 z.W) (ML z fun _ => False)) _ ?_
   have hL := Lmn_inv hz.dd.1 hR hle (ex := fun _ => False) (fun b h => h.elim)
   have hfa := hL.e.at_.dim (Dim.of_le (nf_le _ _))
   have hall := hfa.all
   rw [hrl] at hall
   have hn := hz.n
   refine W.go 99 rfl ?_
   refine W.vf rfl rfl rfl rfl (Vf.load rfl rfl rfl (hall)) ?_
   refine W.go 99 rfl ?_
   refine W.eff rfl rfl rfl (Ef.makeSlice (n := z.ls.length) rfl (by omega) Tryz.underlying182 size4 bytes4 zero4 (by decide) rfl) ?_
   rintro _ _ _ ⟨bn, rfl, rfl, hbn, rfl⟩
   refine W.go 99 rfl ?_
   refine W.loopI (W.again (sel_reach (Rk := fun _ => False) (bn := bn) rfl rfl rfl rfl rfl ⟨hL.le (le_less (Le.put hbn _) (fun b hb => by rw [List.mem_singleton.1 hb]; exact hbn)), ?_, fun _ h => h.elim⟩) ⟨rfl, rfl, rfl, rfl, rfl, rfl, trivial⟩ (by exact trivial))
   rw [← fineA_zero]
   exact put_same _ _ _
 | succ r ih =>
  intro k hk R hR
  have hrl := hR.e.at_.rel.1
  have hfa := hR.e.at_.dim (Dim.of_le (nf_le _ _))
  have hkr : k < z.rf.length := by omega
  have hr : z.rf[k]? = some z.rf[k] := List.getElem?_eq_getElem hkr
  obtain ⟨aa, haa⟩ := hfa.sl.addr hkr
  have hl : z.ls[k]? = some (z.ls[k]'(by omega)) := List.getElem?_eq_getElem _
  obtain ⟨ad, cap, hrj, hints⟩ := hR.e.at_.rel.2 k _ _ hr hl
  have hgd : z.ls.getD k [] = z.ls[k]'(by omega) := by rw [List.getD_eq_getElem?_getD, hl]; rfl
  have hc1 : R.cell? (aa.add k) = some (.slice ad (z.ls[k]'(by omega)).length cap) := by
   have h1 := hfa.sl
   rw [haa] at h1
   have := h1.get hr (j := 0) (v := slV z.rf[k]) rfl
   rw [hrj] at this
   simpa using this
  rw [← hgd] at hc1 hints
  have hk' : z.ls.length - (r + 1) = k := by omega
  have hn := hz.n
  have hY : Yr z (r + 1) = LWay Tryz.prog true (WgLive 180 z.W) (MKd (poolF z) k (MSp (poolF z) r)) := by rw [← hk']; rfl
  rw [hY]
  unfold eL
  rw [haa]
  refine W.go 99 rfl ?_
  refine W.split rfl rfl rfl (fun e => ?_) (fun e => absurd e (by simp; omega))
  refine W.go 99 rfl ?_
  refine W.vf rfl rfl rfl rfl (Vf.idx1 rfl rfl rfl rfl rfl rfl rfl (hkr)) ?_
  refine W.vf rfl rfl rfl rfl (Vf.load rfl rfl rfl (hc1)) ?_
  refine W.go 99 rfl ?_
  refine W.pub 10 (.inl ⟨_, rfl⟩) rfl rfl ?_
  intro bi hbi _
  refine W.pub 11 (.inl ⟨_, rfl⟩) rfl rfl ?_
  intro bl hbl _
  have hne : bl ≠ bi := fun e => by subst e; rw [put_same] at hbl; cases hbl
  have f1 := Le.put hbi (.cells #[.int .i64 k] 3)
  have f2 := Le.put hbl (.cells #[.slice ad (z.ls.getD k []).length cap] 28)
  have k1 := f2 _ _ (put_same R bi (.cells #[.int .i64 k] 3))
  have k2 := put_same (R.put bi (.cells #[.int .i64 k] 3)) bl (.cells #[.slice ad (z.ls.getD k []).length cap] 28)
  have hle1 := f1.trans f2
  have hbl0 : R bl = none := none_of_le f1 hbl
  clear f1 f2
  change W _ _ _ _ _ _ ((R.put bi (.cells #[.int .i64 k] 3)).put bl (.cells #[.slice ad (z.ls.getD k []).length cap] 28))
  generalize (R.put bi (.cells #[.int .i64 k] 3)).put bl (.cells #[.slice ad (z.ls.getD k []).length cap] 28) = L1 at k1 k2 hle1 ⊢
  refine W.callX rfl rfl rfl rfl (add_sp (addS_of (z := z) (ML := ML z) k (MSp (poolF z) r)) L1) ?_
  rintro Y v _ ⟨rfl, rfl, rfl⟩
  refine W.go 99 rfl ?_
  refine W.weak (E' := [(1, .v (pt z.bs)), (5, .v (pt z.ba)), (7, .v (pt z.bf)), (8, .v (pt z.bd)), (9, .v (pt z.W)), (30, .v (.slice (some aa) z.rf.length z.al.2.2)), (31, .v (.int .i64 z.rf.length)), (32, .v (.int .i64 k)), (38, .f (.func 126) [] [.v (pt z.W), .v (pt z.bs), .v (pt bl), .v (pt z.bf), .v (pt bi)])]) (B' := []) (by exact ⟨rfl, rfl, rfl, rfl, rfl, rfl, rfl, rfl, rfl, trivial⟩) (by exact trivial) ?_
  refine W.spawnO (mn := true) (Φ := WgLive 180 z.W) (S1 := MGo (poolF z) k (MSp (poolF z) r)) rfl rfl hkd rfl rfl rfl rfl rfl fun R2 g0 g' hrun hsp hle cont => ?_
  have hle2 := hle1.trans hle
  have hdim := Lch_dim (z := z) (ex := fun b => b = bi ∨ b = bl) hle2
  have hci : Lch z (fun b => b = bi ∨ b = bl) R2 bi = R2 bi := if_pos (.inl rfl)
  have hcl : Lch z (fun b => b = bi ∨ b = bl) R2 bl = R2 bl := if_pos (.inr rfl)
  refine ⟨hrun, g', _, Lmn z (fun b => b = bi ∨ b = bl) R2, Lch z (fun b => b = bi ∨ b = bl) R2, fun w _ => hsp w, fun b o wr h => Lmn_sub h, fun b o wr h => Lch_sub h, fun b o h => Lex1 h, fun b o h => Lex2 h, ?_, ?_⟩
  ·exact worker_way ⟨hdim.cell hR.e.at_.f, hdim.cells hR.e.at_.bs, hdim.st hR.e.at_.st, hdim.cell hR.e.at_.gl, ⟨ad, cap, cell_of (hcl.trans (hle _ _ k2)) rfl, hdim.sl hints⟩, hci.trans (hle _ _ k1), hz.ok, hz.hok _ (by rw [hgd]; exact List.getElem_mem _)⟩
  ·have hL := Lmn_inv hz.dd.1 hR hle2 (ex := fun b => b = bi ∨ b = bl) (fun b h => by
    rcases h with rfl | rfl
    ·exact hbi
    ·exact hbl0)
   rw [← Yr_go]
   refine cont (Yr z r) _ ?_
   refine W.go 99 rfl ?_
   refine W.inLoopI (W.again (ih (k + 1) (by omega) _ hL) ?_ (by exact trivial))
   exact ⟨rfl, rfl, rfl, rfl, rfl, congrArg (fun q => some (SV.v (.slice q z.rf.length z.al.2.2))) haa.symm, rfl, congrArg some (inc64 (by omega)), trivial⟩
end Go.Mz


set_option maxRecDepth 100000
namespace Go.Mz
open Go.Conc Go.ConcN Go.Proofs
open Go.ConcR (KK wgBlock WgAt smA rd wr mk)
theorem mem_heatsAll {top rise : Int} : ∀ {n : Nat} {b : Int} {l : List Int}, l ∈ heatsAll top rise n b → l.length = n ∧ ∀ h ∈ l, 0 ≤ h ∧ h ≤ top
 | 0, b, l, h => by simp [heatsAll] at h; subst h; exact ⟨rfl, fun _ h => by cases h⟩
 | n + 1, b, l, h => by
  simp only [heatsAll, List.mem_flatMap, List.mem_range, List.mem_map] at h
  obtain ⟨k, hk, t, ht, rfl⟩ := h
  have := mem_heatsAll ht
  refine ⟨by simp [this.1], fun x hx => ?_⟩
  rcases List.mem_cons.1 hx with rfl | hx
  ·omega
  ·exact this.2 x hx
theorem heats_hok {s : St} (h : Ok s) {l : List Int} (hl : l ∈ heatsS s) : HOk s l := by
 have := mem_heatsAll hl
 have h1 := h.d1
 exact ⟨by omega, this.2⟩
theorem foldl_takeLess {α β : Type} {f : β → Int} {g : α → β} : ∀ (l : List α) (o : Option α), (l.foldl (takeLess fun a => f (g a)) o).map g = (l.map g).foldl (takeLess f) (o.map g)
 | [], o => rfl
 | x :: l, o => by
  rw [List.foldl_cons, foldl_takeLess l, List.map_cons, List.foldl_cons]
  congr 1
  cases o with
  | none => rfl
  | some y =>
   simp only [takeLess, Option.map_some]
   split <;> rfl
theorem map_range_getD {α : Type} (ls : List α) (d : α) : (List.range ls.length).map (fun i => ls.getD i d) = ls := by
 refine List.ext_getElem (by simp) fun i h1 h2 => ?_
 simp [List.getElem?_eq_getElem h2]
theorem filter_map_range {α : Type} (ls : List α) (d : α) (p : α → Bool) : ((List.range ls.length).filter fun i => p (ls.getD i d)).map (fun i => ls.getD i d) = ls.filter p := by
 have := List.filter_map (f := fun i => ls.getD i d) (p := p) (l := List.range ls.length)
 rw [map_range_getD] at this
 exact this.symm
theorem bestI_best (p : List Int → Bool) (ls : List (List Int)) : (bestI (fun i => p (ls.getD i [])) ls ls.length).map (fun i => ls.getD i []) = firstMin sumL (ls.filter p) := by
 unfold bestI firstMin
 show Option.map _ (List.foldl (takeLess fun i => sumL (ls.getD i [])) none _) = _
 rw [foldl_takeLess, filter_map_range]; rfl
theorem foldLess_mem {α : Type} {f : α → Int} : ∀ (l : List α) (o : Option α) (x : α), l.foldl (takeLess f) o = some x → x ∈ l ∨ o = some x
 | [], o, x, h => .inr h
 | y :: l, o, x, h => by
  rw [List.foldl_cons] at h
  rcases foldLess_mem l _ x h with h | h
  ·exact .inl (List.mem_cons_of_mem _ h)
  ·cases o with
   | none => cases h; exact .inl List.mem_cons_self
   | some z =>
    unfold takeLess at h
    dsimp only at h
    split at h
    ·cases h; exact .inl List.mem_cons_self
    ·exact .inr h
theorem bestI_mem {fine : Nat → Bool} {ls : List (List Int)} {n i : Nat} (h : bestI fine ls n = some i) : i < n ∧ fine i = true := by
 rcases foldLess_mem _ _ _ h with h | h
 ·rw [List.mem_filter, List.mem_range] at h; exact h
 ·cases h
theorem MSp_base (p : Pool) (b : Nat) : ∀ r, MSp { p with base := b } r = MSp p r
 | 0 => rfl
 | r + 1 => by
  show Way _ _ _ (MKd { p with base := b } (p.n - (r + 1)) (MSp { p with base := b } r)) = _
  rw [MSp_base p b r]; rfl
end Go.Mz


set_option maxRecDepth 100000
namespace Go.Mz
open Go.Conc Go.ConcN Go.Proofs
open Go.ConcR (KK wgBlock WgAt smA rd wr mk)
def FireQ (s : St) (L : LH) (v : Value) (L' : LH) : Prop :=
 (match fireS s with | none => v = .tuple #[.slice none 0 0, .int .i64 0, .bool false] | some l => ∃ ad cap, v = .tuple #[.slice ad l.length cap, .int .i64 (sumL l), .bool true] ∧ IntsAt L' ad l) ∧ Dim L L'
theorem fireQ_of {s : St} {rf : List Rf} {L L' : LH} (hrel : RelA L' rf (heatsS s)) (hd : Dim L L') : FireQ s L (.tuple (outV rf (heatsS s) (bestI (fun i => canS s ((heatsS s).getD i [])) (heatsS s) (heatsS s).length)).toArray) L' := by
 have hb := bestI_best (canS s) (heatsS s)
 refine ⟨?_, hd⟩
 unfold fireS
 rw [← hb]
 cases e : bestI (fun i => canS s ((heatsS s).getD i [])) (heatsS s) (heatsS s).length with
 | none => rfl
 | some i =>
  have hi := (bestI_mem e).1
  have hr : rf[i]? = some (rf[i]'(by rw [hrel.1]; exact hi)) := List.getElem?_eq_getElem _
  have hl : (heatsS s)[i]? = some (heatsS s)[i] := List.getElem?_eq_getElem _
  obtain ⟨ad, cap, h1, h2⟩ := hrel.2 i _ _ hr hl
  have hgl : (heatsS s).getD i [] = (heatsS s)[i] := by rw [List.getD_eq_getElem?_getD, hl]; rfl
  have hgr : rf.getD i (none, 0, 0) = (ad, (heatsS s)[i].length, cap) := by rw [List.getD_eq_getElem?_getD, hr, h1]; rfl
  dsimp only [Option.map_some]
  refine ⟨ad, cap, ?_, by rw [hgl]; exact h2⟩
  unfold outV sumI
  dsimp only
  rw [hgr, hgl]
theorem fire_sp {Post : Value → World → Prop} {W0 : World} (s : St) (p : Pt) (L : LH) (hst : StAt L s p) (hok : Ok s) (hgl : GlOk L) : Sp (LFGo Tryz.prog Post W0) 93 [stA s p] L (FireQ s L) := by
 refine Sp.enter (n := 86) Tryz.func93 rfl rfl rfl rfl fun C hX _ hL0 r => ?_
 refine W.goP [2] 99 rfl ?_
 refine W.pub 1 (.inl ⟨_, rfl⟩) rfl rfl ?_
 intro bs hbs _
 refine W.goP [6] 99 rfl ?_
 refine W.pub 5 (.inl ⟨_, rfl⟩) rfl rfl ?_
 intro ba hba _
 have hne : ba ≠ bs := fun e => by subst e; rw [put_same] at hba; cases hba
 refine W.go 99 rfl ?_
 refine W.vf rfl rfl rfl rfl (Vf.loadN rfl rfl rfl (cellsAt_n (L := (L.put bs (.cells (bxS s p).toArray 25)).put ba (.cells #[.slice none 0 0] 36)) (vs := bxS s p) (by rw [put_ne _ _ (Ne.symm hne)]; exact put_same _ _ _) rfl)) ?_
 refine W.go 99 rfl ?_
 refine W.eff rfl rfl rfl (Ef.call rfl (heats_sp s p _)) ?_
 rintro _ _ _ ⟨_, rfl, rfl, b2, rfl, hb2, rfl⟩
 refine W.go 99 rfl ?_
 generalize hL3 : ((L.put bs (.cells (bxS s p).toArray 25)).put ba (.cells #[.slice none 0 0] 36)).put b2 (.cells (bxS s p).toArray 25) = L3
 have e3 : L3 = ((L.put bs (.cells (bxS s p).toArray 25)).put ba (.cells #[.slice none 0 0] 36)).put b2 (.cells (bxS s p).toArray 25) := hL3.symm
 change W C _ _ _ _ _ (((L.put bs (.cells (bxS s p).toArray 25)).put ba (.cells #[.slice none 0 0] 36)).put b2 (.cells (bxS s p).toArray 25))
 rw [hL3]
 have hne2 : b2 ≠ ba := fun e => by subst e; rw [put_same] at hb2; cases hb2
 have hba3 : L3 ba = some (.cells #[.slice none 0 0] 36 (0, 0), true) := by rw [e3, put_ne _ _ (Ne.symm hne2)]; exact put_same _ _ _
 have hb23 : L3 b2 = some (.cells (bxS s p).toArray 25 (0, 0), true) := by rw [e3]; exact put_same _ _ _
 clear hL3
 have hht : ∀ L', Le (L3.less [ba]) L' → HtK b2 s L' := fun L' hl => by
  have h2 : L' b2 = some (.cells (bxS s p).toArray 25 (0, 0), true) := hl _ _ (by rw [less_get (by simp [hne2])]; exact hb23)
  exact ⟨cell_of h2 rfl, cell_of h2 rfl, cell_of h2 rfl, cell_of h2 rfl⟩
 refine W.iterR (L3.less [ba]) (less_le _ _) (Gath (L3.less [ba]) ba) (fun _ _ => False) (heats1_it s hok b2) ⟨_, rfl, rfl, rfl⟩ (by rw [r.ro]) [(22, .v (.func (.func 147) #[] #[pt b2])), (5, .v (pt ba)), (1, .v (pt bs))] (by exact ⟨rfl, rfl, rfl, trivial⟩) rfl rfl rfl
  (fun _ _ _ hl h => h.le hl) (fun _ _ _ _ h => h.elim) (fun x vs L1 L2 hl ⟨ad, cap, h1, h2, h3⟩ => ⟨ad, cap, h1, h2.le hl, h3⟩) (fun _ L' hl _ => hht L' hl) ?_ rfl (fun x vs L' ⟨_, _, h, _⟩ => by rw [h]; rfl) ?_ ?_ (fun _ _ _ _ _ _ _ h _ => h.elim)
 ·exact ⟨[], .slice none 0 0, L3.calm, Grow.nil (Le.refl _), calm_cells hba3, ⟨rfl, fun k v l h => by simp at h⟩, fun b x hx => calm_mono (less_le _ _) _ _ hx⟩
 ·rintro d l pre x post _ L' L1 Lx q lb hx hl' hG hL1 ⟨ad, cap, rfl, hxl, hxc⟩ hLx hdj hnl hnd hne3 g1 g2 C' c1 c2 hbeg hcont hbrk
  refine W.go 99 rfl ?_
  refine hbeg _ _ _ fun L2 r1 r2 => ?_
  refine W.go 99 rfl ?_
  obtain ⟨rf, va, I, hg, hIa, hrel, hIc⟩ := hG
  obtain ⟨ad0, cap0, rfl, _⟩ := hg.slice
  obtain ⟨I2, hg2, hI12, hxI2, hI2⟩ := hg.rest (L2 := L2) (Lx := Lx.calm) (fun b y hy => by
   by_cases e : b = l
   ·subst e
    have := hL1 _ _ hy
    rw [g1] at this; cases this
    exact .inl ⟨_, rfl⟩
   ·exact .inr ((r2 b e).trans (hL1 _ _ hy))) (fun b y hy => by
   rw [r2 b (fun e => by subst e; have := hLx _ _ (calm_le _ _ _ hy); rw [g1] at this; cases this; exact calm_noloop hy)]
   exact hLx _ _ (calm_le _ _ _ hy)) (fun b hb => hdj b (fun e => hb (none_of_le (calm_le _) e)))
  have hIa1 := hI12 _ _ (calm_cells hIa)
  have hrel1 := hrel.calm.le hI12
  have hx2 : IntsAt I2 ad x := fun i u hu => let ⟨a, h1, h2⟩ := hxl i u hu; ⟨a, h1, fun j v hv => hxI2.cell (calm_cell (h2 j v hv))⟩
  have hba2 : L2 ba = some (.cells #[.slice ad0 rf.length cap0] 36 (0, 0), true) := hg2.1 _ _ hIa1
  refine W.vf rfl rfl rfl rfl (Vf.load rfl rfl rfl (cell_of hba2 rfl)) ?_
  refine W.go 99 rfl ?_
  have hlen := heats_len hok
  have hpl : rf.length < (heatsS s).length := by rw [hrel.1, hx]; simp
  refine W.eff rfl rfl rfl (Ef.grow rfl rfl rfl rfl rfl rfl rfl rfl rfl encR_len encR_sg hg2 (ls := [(ad, x.length, cap)]) (.own rfl rfl rfl rfl) (by simp; omega)) ?_
  rintro _ _ _ ⟨v', rfl, rfl, hg3, hdom⟩
  rename_i L4
  obtain ⟨ad', cap', rfl, _⟩ := hg3.slice
  have hba4 := hg3.1 _ _ hIa1
  refine W.go 99 rfl ?_
  refine W.eff0 rfl rfl (Ef.stoL rfl ⟨_, rfl, rfl⟩ rfl hba4 rfl rfl rfl rfl rfl) ?_
  rintro _ _ _ ⟨rfl, rfl, rfl⟩
  refine W.go 99 rfl ?_
  have hI2l : I2 l = some (.loop lb, true) := (hI2 _ _ r1).resolve_right (fun ⟨c, h, _⟩ => by cases h)
  have hI2d : I2 d = some (.deferred (some []), true) := (hI2 _ _ ((r2 d (Ne.symm hne3)).trans g2)).resolve_right (fun ⟨c, h, _⟩ => by cases h)
  have hlb : ba ≠ l := fun e => by subst e; rw [hI2l] at hIa1; cases hIa1
  have hdb : ba ≠ d := fun e => by subst e; rw [hI2d] at hIa1; cases hIa1
  refine hcont _ _ _ _ .nil ((put_ne _ _ (Ne.symm hlb)).trans (hg3.1 _ _ hI2l)) ((put_ne _ _ (Ne.symm hdb)).trans (hg3.1 _ _ hI2d)) ?_ ?_
  ·refine le_put_none (fun b y hy => ?_) (less_none (List.mem_singleton.2 rfl)) _
   have h2 : L2 b = some y := (r2 b (fun e => by subst e; rw [hnl] at hy; cases hy)).trans (hl' _ _ hy)
   rcases hI2 b y h2 with h | ⟨c, rfl, h⟩
   ·exact hg3.1 _ _ h
   ·rw [hIc _ _ (calm_cells hy)] at h; cases h
  ·have hn3 : I2 ba ≠ none := by rw [hIa1]; simp
   refine ⟨rf ++ [(ad, x.length, cap)], _, _, (hg3.setO hn3 _).calm, calm_cells (put_same _ _ _), ((hrel1.snoc hx2).putS (r := (ad0, rf.length, cap0)) hIa1).calm, fun b y hy => ?_⟩
   have hyn : b ≠ ba := fun e => by
    subst e
    have := calm_le _ _ _ hy
    rw [less_none (List.mem_singleton.2 rfl)] at this; cases this
   have hy1 := hIc _ _ hy
   have hy2 : I.calm b = some y := by
    have := calm_mono (fun b x h => hIc b x h) b y (by rw [calm_calm]; exact hy)
    exact this
   rw [← calm_calm] at hy
   have h4 := hI12 _ _ hy2
   have : ((I2.put ba (.cells (putV [Value.slice ad0 rf.length cap0] 0 [Value.slice ad' (rf ++ [(ad, x.length, cap)]).length cap']).toArray 36)).calm) b = some y := by
    unfold LH.calm
    rw [put_ne _ _ hyn]
    show I2.calm b = some y
    have h5 := calm_mono hI12 b y (by rw [calm_calm]; exact hy2)
    exact h5
   exact this
 ·intro d l L' hl' hnl hnd hG hd
  refine W.go 99 rfl ?_
  refine W.weak (E' := [(5, .v (pt ba)), (1, .v (pt bs))]) (B' := []) (by exact ⟨rfl, rfl, trivial⟩) (by exact trivial) ?_
  refine W.cutI (fun E B L2 => ∃ c e : Nat, c ≠ e ∧ L' c = none ∧ L' e = none ∧ L2 c = some (.chan 0 #[] false 0 0 false, true) ∧ L2 e = some (.chan 0 #[] false 0 0 false, true) ∧ (∀ b, b ≠ c → b ≠ e → L2 b = L' b) ∧
   SubE E [(5, .v (pt ba)), (1, .v (pt bs)), (7, .p 0 0), (8, .p 1 0)] ∧ PreB B [some ⟨[.v (.chan (some c))], 170⟩, some ⟨[.v (.chan (some e))], 171⟩]) ?_ ?_
  ·rintro E B L2 ⟨c, e, hce, hc0, he0, hc, he, hrest, hE, hB⟩
   refine W.weak hE hB ?_
   obtain ⟨rf, va, I, hg, hIa, hrel, hIc⟩ := hG
   obtain ⟨ad0, cap0, rfl, hcap0⟩ := hg.slice
   have hle0 : Le L' L2 := fun b y hy => by rw [hrest b (fun e => by subst e; rw [hc0] at hy; cases hy) (fun e => by subst e; rw [he0] at hy; cases hy)]; exact hy
   refine W.pub 7 (.inl ⟨_, rfl⟩) rfl rfl ?_
   intro bf hbf hbf0
   refine W.pub 8 (.inl ⟨_, rfl⟩) rfl rfl ?_
   intro bd hbd hbd0
   refine W.goP [30] 99 rfl ?_
   refine W.pub 9 (.inl ⟨_, rfl⟩) rfl rfl ?_
   intro bw hbw hbw0
   have f1 := Le.put hbf (.cells #[.chan (some c)] 170)
   have f2 := Le.put hbd (.cells #[.chan (some e)] 171)
   have f3 := Le.put hbw (.cells #[.int .u64 0, .int .u32 0] 180)
   have k1 := f3 _ _ (f2 _ _ (put_same L2 bf (.cells #[.chan (some c)] 170)))
   have k2 := f3 _ _ (put_same (L2.put bf (.cells #[.chan (some c)] 170)) bd (.cells #[.chan (some e)] 171))
   have k3 := put_same ((L2.put bf (.cells #[.chan (some c)] 170)).put bd (.cells #[.chan (some e)] 171)) bw (.cells #[.int .u64 0, .int .u32 0] 180)
   have f23 := f1.trans (f2.trans f3)
   have k4 := f23 _ _ hc
   have k5 := f23 _ _ he
   have hle1 := hle0.trans f23
   clear f1 f2 f3
   change W C _ _ _ _ _ (((L2.put bf (.cells #[.chan (some c)] 170)).put bd (.cells #[.chan (some e)] 171)).put bw (.cells #[.int .u64 0, .int .u32 0] 180))
   generalize ((L2.put bf (.cells #[.chan (some c)] 170)).put bd (.cells #[.chan (some e)] 171)).put bw (.cells #[.int .u64 0, .int .u32 0] 180) = L5 at k1 k2 k3 k4 k5 f23 hle1 ⊢
   refine W.vf rfl rfl rfl rfl (Vf.load rfl rfl rfl (hle1.cell (cell_of (hg.1 _ _ hIa) rfl))) ?_
   refine W.go 99 rfl ?_
   refine W.weak (E' := [(1, .v (pt bs)), (5, .v (pt ba)), (7, .v (pt bf)), (8, .v (pt bd)), (9, .v (pt bw)), (30, .v (.slice ad0 rf.length cap0)), (31, .v (.int .i64 rf.length)), (32, .v (.int .i64 0))]) (B' := []) (by exact ⟨rfl, rfl, rfl, rfl, rfl, rfl, rfl, rfl, trivial⟩) (by exact trivial) ?_
   intro T R β hT hE hH
   have hc5 : ∀ {b : Nat} {cs : Array Value} {t : TypeId} {fz : Nat × Nat} {wr : Bool}, L5 b = some (.cells cs t fz, wr) → b ≠ c ∧ b ≠ e ∧ b ≠ d := fun h => ⟨(fun h' => by subst h'; rw [k4] at h; cases h), (fun h' => by subst h'; rw [k5] at h; cases h), (fun h' => by subst h'; rw [hle1 _ _ hd] at h; cases h)⟩
   have nw : ∀ {b : Nat}, L5 b ≠ none → L b = none → C.R0 b = none := fun h h' => (hH.fresh _ h).resolve_left (fun h2 => h2 (by rw [hL0]; exact h'))
   have hL3 : Le L (L3.less [ba]) := fun b y hy => by
    have n1 : b ≠ bs := fun e => by subst e; rw [hbs] at hy; cases hy
    have hyb := (Le.put hbs (.cells (bxS s p).toArray 25)) _ _ hy
    have n2 : b ≠ ba := fun e => by subst e; exact absurd (hyb.symm.trans hba) (by simp)
    have hyc := (Le.put hba (.cells #[.slice none 0 0] 36)) _ _ hyb
    have n3 : b ≠ b2 := fun e => by subst e; exact absurd (hyc.symm.trans hb2) (by simp)
    rw [less_get (by simp [n2]), e3, put_ne _ _ n3]
    exact hyc
   have hLL' := hL3.trans hl'
   have hL5 := hLL'.trans hle1
   have hLn : ∀ {b : Nat}, L' b = none → L b = none := fun h => none_of_le hLL' h
   have hbw' : L' bw = none := none_of_le hle0 (none_of_le (Le.put hbf _) (none_of_le (Le.put hbd _) hbw))
   have hbaL := hg.1 _ _ hIa
   have hdL : L d = none := none_of_le hL3 hnd
   obtain ⟨hf, hro, hkd, cc, cs, hcs, hret, -⟩ := r
   rw [hX] at hret
   have hd5 := hle1 _ _ hd
   have hwc := hc5 k3
   have hdc : d ≠ c := fun e => by subst e; rw [hd5] at k4; cases k4
   have hde : d ≠ e := fun e => by subst e; rw [hd5] at k5; cases k5
   have hwbf : bw ≠ bf := fun e => by
    subst e
    exact absurd ((Le.put hbd (.cells #[.chan (some e)] 171) _ _ (put_same L2 bw (.cells #[.chan (some c)] 170))).symm.trans hbw) (by simp)
   have hwbd : bw ≠ bd := fun e => by subst e; exact absurd ((put_same _ _ _).symm.trans hbw) (by simp)
   have hrl := hrel.1
   have hIL' : Le I L' := hg.1
   let z : FD := { s := s, p := p, ls := heatsS s, rf := rf, al := (ad0, rf.length, cap0), W := bw, C := c, D := e, bs := bs, bf := bf, bd := bd, ba := ba, dd := d, L0 := C.L0, R0 := C.R0, kd := C.kd, c := cc, cs := cs, Post := Post, W0 := W0 }
   have hnF : ∀ b, L5 b ≠ none → b ≠ d → ¬ Fr0 z b := fun b hb hbd => by
    rintro (⟨h1, h2⟩ | h2)
    ·exact (hH.fresh b hb).elim (fun h => h h1) h2
    ·exact hbd h2
   have hkey : Le (L5.calm.less [bw, c, e]) (nf z (R.without bw c e)) := fun b y hy => by
    have hy1 := less_le _ _ _ _ hy
    have hni : b ∉ [bw, c, e] := fun h => by rw [less_none h] at hy; cases hy
    have hnw : b ≠ bw := fun e => by subst e; exact hni (by simp)
    have hy5 := calm_le _ _ _ hy1
    have hnd : b ≠ d := fun e => by
     subst e
     unfold LH.calm at hy1
     rw [hd5] at hy1; cases hy1
    have hnc : b ≠ c := fun e => by subst e; exact hni (by simp)
    have hne : b ≠ e := fun e => by subst e; exact hni (by simp)
    unfold nf
    rw [if_neg (hnF b (by rw [hy5]; simp) hnd)]
    unfold LH.without
    rw [if_neg (by simp [hnw, hnc, hne])]
    exact hH.le _ _ hy5
   have hA : Le L'.calm (L5.calm.less [bw, c, e]) := fun b y hy => by
    have hnw : b ≠ bw := fun e => by subst e; rw [none_of_le (calm_le _) hbw'] at hy; cases hy
    have hnc : b ≠ c := fun e => by subst e; rw [none_of_le (calm_le _) hc0] at hy; cases hy
    have hne : b ≠ e := fun e => by subst e; rw [none_of_le (calm_le _) he0] at hy; cases hy
    rw [less_get (by simp [hnw, hnc, hne])]
    exact calm_mono hle1 _ _ hy
   have hAn := hA.trans hkey
   have hLc : Le L.calm L'.calm := calm_mono hLL'
   have hbsL : L' bs = some (.cells (bxS s p).toArray 25 (0, 0), true) := hl' _ _ (by rw [less_get (by simp [Ne.symm hne]), e3, put_ne _ _ (fun e => by subst e; exact absurd ((Le.put hba (.cells #[.slice none 0 0] 36) _ _ (put_same L bs (.cells (bxS s p).toArray 25))).symm.trans hb2) (by simp)), put_ne _ _ (Ne.symm hne)]; exact put_same _ _ _)
   have hzat : FireAt z (nf z (R.without bw c e)) := by
    refine ⟨?_, ?_, ?_, ?_, ?_, ?_, ?_, ?_⟩
    ·exact cellsAt_n (hAn _ _ (calm_cells hbsL)) rfl
    ·exact hAn.cell (cell_of (calm_cells (hIL' _ _ hIa)) rfl)
    ·exact (calm_sl (hg.at encR_len).2).le hAn
    ·exact (hrel.le hIL').calm.le hAn
    ·exact hkey.cell (cell_of (by rw [less_get (by simp only [List.mem_cons, List.not_mem_nil, or_false, not_or]; exact ⟨Ne.symm hwbf, (hc5 k1).1, (hc5 k1).2.1⟩)]; exact calm_cells k1) rfl)
    ·exact hkey.cell (cell_of (by rw [less_get (by simp only [List.mem_cons, List.not_mem_nil, or_false, not_or]; exact ⟨Ne.symm hwbd, (hc5 k2).1, (hc5 k2).2.1⟩)]; exact calm_cells k2) rfl)
    ·exact StAt.le ⟨calm_sl hst.sh, calm_sl hst.co, hst.l1, hst.l2⟩ (hLc.trans hAn)
    ·exact (hLc.trans hAn).cell (calm_cell hgl)
   have hInv : InvM z (R.without bw c e) := by
    refine ⟨⟨hzat, fun b y h1 h2 => ?_, fun b o wr hb => ?_⟩, ?_⟩
    ·have h3 := hH.keep b y h1 h2
     have hno : ∀ b', L5 b' ≠ none → b ≠ b' := fun b' h' h4 => by
      subst h4
      rcases hH.fresh b h' with h | h
      ·exact h h1
      ·exact absurd (h2.symm.trans h) (by simp)
     unfold LH.without
     rw [if_neg (by simp [hno bw (by rw [k3]; simp), hno c (by rw [k4]; simp), hno e (by rw [k5]; simp)])]
     exact h3
    ·have hb' : L b = some (o, wr) := by rw [← hL0]; exact hb
     have hb2' := hLL' _ _ hb'
     have hno : ∀ b', L' b' = none → b ≠ b' := fun b' h' h4 => by subst h4; rw [h'] at hb2'; cases hb2'
     refine ⟨wr, ?_⟩
     unfold LH.without
     rw [if_neg (by simp [hno bw hbw', hno c hc0, hno e he0])]
     exact hH.le _ _ (hL5 _ _ hb')
    ·show R.without bw c e d = _
     unfold LH.without
     rw [if_neg (by simp [Ne.symm hwc.2.2, hdc, hde])]
     exact hH.le _ _ hd5
   have hz : ZOk z := by
    refine ⟨hok, fun l hl => heats_hok hok hl, heats_len hok, hce, hkd, rfl, ⟨by show C.L0 d = none; rw [hL0]; exact hdL, nw (by rw [hd5]; simp) hdL⟩, fun v R' hv hE' => ?_⟩
    let Lz : LH := fun b => open Classical in if C.L0 b ≠ none ∨ C.R0 b = none then R' b else none
    have hlz : Le (nf z R') Lz := fun b y hy => by
     unfold nf at hy
     split at hy
     ·cases hy
     ·rename_i hf
      show (open Classical in if C.L0 b ≠ none ∨ C.R0 b = none then R' b else none) = _
      rw [if_pos]
      ·exact hy
      ·by_cases h1 : C.L0 b = none
       ·by_cases h2 : C.R0 b = none
        ·exact .inr h2
        ·exact absurd (.inl ⟨h1, h2⟩) hf
       ·exact .inl h1
    have hzL : Le Lz R' := fun b y hy => by
     have : (open Classical in if C.L0 b ≠ none ∨ C.R0 b = none then R' b else none) = some y := hy
     split at this
     ·exact this
     ·cases this
    have hzd : ∀ b o wr, L b = some (o, wr) → ∃ wr', Lz b = some (o, wr') := fun b o wr hb => by
     have hb0 : C.L0 b = some (o, wr) := by rw [hL0]; exact hb
     obtain ⟨w1, h1⟩ := hE'.dom b o wr hb0
     refine ⟨w1, ?_⟩
     show (open Classical in if C.L0 b ≠ none ∨ C.R0 b = none then R' b else none) = _
     rw [if_pos (.inl (by rw [hb0]; simp))]
     exact h1
    refine hret v R' Lz ?_ ⟨hzL, hE'.keep, fun b hb => ?_, fun b hb => ?_⟩
    ·rw [hv]
     exact fireQ_of (hE'.at_.rel.le hlz) hzd
    ·by_cases h1 : C.L0 b ≠ none ∨ C.R0 b = none
     ·exact h1
     ·exact absurd (show (open Classical in if C.L0 b ≠ none ∨ C.R0 b = none then R' b else none) = none from if_neg h1) hb
    ·rw [hL0] at hb
     cases hx : L b with
     | none => exact absurd hx hb
     | some y =>
      obtain ⟨w1, h1⟩ := hzd b y.1 y.2 hx
      rw [h1]; simp
   have hf93 : C.f = 93 := by assumption
   rw [hX, hro, hcs, hf93]
   have hlen := heats_len hok
   refine FGo.pool (firePool z (ML z)) (show (heatsS s).length < 2147483647 by omega) ⟨hwc.1, hwc.2.1⟩ (hH.le _ _ k3) (hH.le _ _ k4) (hH.le _ _ k5) (fun b => takes_of hz b) (fun b => anch_way b) (fun _ _ h => h) fun b => ?_
   show MSp { poolF z with base := b } (heatsS s).length _ _
   rw [MSp_base, ← Yr_go]
   exact W.loopI (fire_main hz (heatsS s).length 0 (by show 0 + (heatsS s).length = (heatsS s).length; omega) _ hInv) T _ nm0 hT (hE.sub0 (by exact ⟨rfl, rfl, rfl, rfl, rfl, rfl, rfl, rfl, trivial⟩) rfl) (HeapOk.all _)
  intro hJ
  refine W.drawn (by kernel_rfl) noL (noL_le _) ?_
  refine DD.run' [2, 3] rfl ?_
  refine DD.act2 0 1 rfl rfl rfl rfl rfl rfl rfl rfl (Ef.makeChan rfl Tryz.underlying170 bytes3) (Ef.makeChan rfl Tryz.underlying171 (bts := 0) (by kernel_rfl)) (by rintro _ _ _ ⟨_, rfl, rfl, _, rfl⟩; exact ⟨noL_le _, rfl, .inl rfl⟩) (by rintro _ _ _ ⟨_, rfl, rfl, _, rfl⟩; exact ⟨noL_le _, rfl, .inl rfl⟩) ?_ ?_
  ·rintro _ _ _ ⟨c, rfl, rfl, hc, rfl⟩
   refine DD.act2 1 4 rfl rfl rfl rfl rfl rfl rfl rfl (Ef.makeChan rfl Tryz.underlying171 (bts := 0) (by kernel_rfl)) (Ef.sto rfl) (by rintro _ _ _ ⟨_, rfl, rfl, _, rfl⟩; exact ⟨noL_le _, rfl, .inl rfl⟩) (by rintro _ _ _ ⟨rfl, rfl, rfl⟩; exact ⟨noL_le _, rfl, .inl rfl⟩) ?_ ?_
   ·rintro _ _ _ ⟨e, rfl, rfl, he, rfl⟩
    refine DD.act2 4 5 rfl rfl rfl rfl rfl rfl rfl rfl (Ef.sto rfl) (Ef.sto rfl) (by rintro _ _ _ ⟨rfl, rfl, rfl⟩; exact ⟨noL_le _, rfl, .inl rfl⟩) (by rintro _ _ _ ⟨rfl, rfl, rfl⟩; exact ⟨noL_le _, rfl, .inl rfl⟩) ?_ ?_
    ·rintro _ _ _ ⟨rfl, rfl, rfl⟩
     refine DD.act 5 rfl rfl rfl rfl rfl (Ef.sto rfl) (by rintro _ _ _ ⟨rfl, rfl, rfl⟩; exact ⟨noL_le _, rfl, .inl rfl⟩) ?_
     rintro _ _ _ ⟨rfl, rfl, rfl⟩
     refine .fin rfl ?_
     exact hJ _ _ _ ⟨c, e, (fun h => by subst h; rw [put_same] at he; cases he), hc, none_of_le (Le.put hc _) he, (by rw [put_ne _ _ (fun h => by subst h; rw [put_same] at he; cases he)]; exact put_same _ _ _), put_same _ _ _, (fun b h1 h2 => by rw [put_ne _ _ h2, put_ne _ _ h1]), ⟨rfl, rfl, rfl, rfl, trivial⟩, ⟨rfl, rfl, trivial⟩⟩
    ·rintro _ _ _ ⟨rfl, rfl, rfl⟩
     refine DD.act 4 rfl rfl rfl rfl rfl (Ef.sto rfl) (by rintro _ _ _ ⟨rfl, rfl, rfl⟩; exact ⟨noL_le _, rfl, .inl rfl⟩) ?_
     rintro _ _ _ ⟨rfl, rfl, rfl⟩
     refine .fin rfl ?_
     exact hJ _ _ _ ⟨c, e, (fun h => by subst h; rw [put_same] at he; cases he), hc, none_of_le (Le.put hc _) he, (by rw [put_ne _ _ (fun h => by subst h; rw [put_same] at he; cases he)]; exact put_same _ _ _), put_same _ _ _, (fun b h1 h2 => by rw [put_ne _ _ h2, put_ne _ _ h1]), ⟨rfl, rfl, rfl, rfl, trivial⟩, ⟨rfl, rfl, trivial⟩⟩
   ·rintro _ _ _ ⟨rfl, rfl, rfl⟩
    refine DD.act 1 rfl rfl rfl rfl rfl (Ef.makeChan rfl Tryz.underlying171 (bts := 0) (by kernel_rfl)) (by rintro _ _ _ ⟨_, rfl, rfl, _, rfl⟩; exact ⟨noL_le _, rfl, .inl rfl⟩) ?_
    rintro _ _ _ ⟨e, rfl, rfl, he, rfl⟩
    refine DD.act 5 rfl rfl rfl rfl rfl (Ef.sto rfl) (by rintro _ _ _ ⟨rfl, rfl, rfl⟩; exact ⟨noL_le _, rfl, .inl rfl⟩) ?_
    rintro _ _ _ ⟨rfl, rfl, rfl⟩
    refine .fin rfl ?_
    exact hJ _ _ _ ⟨c, e, (fun h => by subst h; rw [put_same] at he; cases he), hc, none_of_le (Le.put hc _) he, (by rw [put_ne _ _ (fun h => by subst h; rw [put_same] at he; cases he)]; exact put_same _ _ _), put_same _ _ _, (fun b h1 h2 => by rw [put_ne _ _ h2, put_ne _ _ h1]), ⟨rfl, rfl, rfl, rfl, trivial⟩, ⟨rfl, rfl, trivial⟩⟩
  ·rintro _ _ _ ⟨e, rfl, rfl, he, rfl⟩
   refine DD.act2 0 5 rfl rfl rfl rfl rfl rfl rfl rfl (Ef.makeChan rfl Tryz.underlying170 bytes3) (Ef.sto rfl) (by rintro _ _ _ ⟨_, rfl, rfl, _, rfl⟩; exact ⟨noL_le _, rfl, .inl rfl⟩) (by rintro _ _ _ ⟨rfl, rfl, rfl⟩; exact ⟨noL_le _, rfl, .inl rfl⟩) ?_ ?_
   ·rintro _ _ _ ⟨c, rfl, rfl, hc, rfl⟩
    refine DD.act2 4 5 rfl rfl rfl rfl rfl rfl rfl rfl (Ef.sto rfl) (Ef.sto rfl) (by rintro _ _ _ ⟨rfl, rfl, rfl⟩; exact ⟨noL_le _, rfl, .inl rfl⟩) (by rintro _ _ _ ⟨rfl, rfl, rfl⟩; exact ⟨noL_le _, rfl, .inl rfl⟩) ?_ ?_
    ·rintro _ _ _ ⟨rfl, rfl, rfl⟩
     refine DD.act 5 rfl rfl rfl rfl rfl (Ef.sto rfl) (by rintro _ _ _ ⟨rfl, rfl, rfl⟩; exact ⟨noL_le _, rfl, .inl rfl⟩) ?_
     rintro _ _ _ ⟨rfl, rfl, rfl⟩
     refine .fin rfl ?_
     exact hJ _ _ _ ⟨c, e, (fun h => by subst h; rw [put_same] at hc; cases hc), none_of_le (Le.put he _) hc, he, put_same _ _ _, (by rw [put_ne _ _ (fun h => by subst h; rw [put_same] at hc; cases hc)]; exact put_same _ _ _), (fun b h1 h2 => by rw [put_ne _ _ h1, put_ne _ _ h2]), ⟨rfl, rfl, rfl, rfl, trivial⟩, ⟨rfl, rfl, trivial⟩⟩
    ·rintro _ _ _ ⟨rfl, rfl, rfl⟩
     refine DD.act 4 rfl rfl rfl rfl rfl (Ef.sto rfl) (by rintro _ _ _ ⟨rfl, rfl, rfl⟩; exact ⟨noL_le _, rfl, .inl rfl⟩) ?_
     rintro _ _ _ ⟨rfl, rfl, rfl⟩
     refine .fin rfl ?_
     exact hJ _ _ _ ⟨c, e, (fun h => by subst h; rw [put_same] at hc; cases hc), none_of_le (Le.put he _) hc, he, put_same _ _ _, (by rw [put_ne _ _ (fun h => by subst h; rw [put_same] at hc; cases hc)]; exact put_same _ _ _), (fun b h1 h2 => by rw [put_ne _ _ h1, put_ne _ _ h2]), ⟨rfl, rfl, rfl, rfl, trivial⟩, ⟨rfl, rfl, trivial⟩⟩
   ·rintro _ _ _ ⟨rfl, rfl, rfl⟩
    refine DD.act 0 rfl rfl rfl rfl rfl (Ef.makeChan rfl Tryz.underlying170 bytes3) (by rintro _ _ _ ⟨_, rfl, rfl, _, rfl⟩; exact ⟨noL_le _, rfl, .inl rfl⟩) ?_
    rintro _ _ _ ⟨c, rfl, rfl, hc, rfl⟩
    refine DD.act 4 rfl rfl rfl rfl rfl (Ef.sto rfl) (by rintro _ _ _ ⟨rfl, rfl, rfl⟩; exact ⟨noL_le _, rfl, .inl rfl⟩) ?_
    rintro _ _ _ ⟨rfl, rfl, rfl⟩
    refine .fin rfl ?_
    exact hJ _ _ _ ⟨c, e, (fun h => by subst h; rw [put_same] at hc; cases hc), none_of_le (Le.put he _) hc, he, put_same _ _ _, (by rw [put_ne _ _ (fun h => by subst h; rw [put_same] at hc; cases hc)]; exact put_same _ _ _), (fun b h1 h2 => by rw [put_ne _ _ h1, put_ne _ _ h2]), ⟨rfl, rfl, rfl, rfl, trivial⟩, ⟨rfl, rfl, trivial⟩⟩
end Go.Mz


set_option maxRecDepth 100000
namespace Go.Mz
open Go.Conc Go.Proofs
variable {Post : Value → World → Prop} {W0 : World}
theorem Dim.refl (L : LH) : Dim L L := fun _ _ wr h => ⟨wr, h⟩
theorem Dim.ints {L L' : LH} (h : Dim L L') {ad : Option Addr} {l : List Int} (hi : IntsAt L ad l) : IntsAt L' ad l := h.sl hi
def FireE (s : St) : List Int × Int × Int := if checkE s ≠ 0 then ([], 0, checkE s) else match fireS s with
 | none => ([], 0, 11)
 | some l => (l, sumL l, 0)
theorem Fire_sp (s : St) (p : Pt) (L : LH) (hst : StAt L s p) (hgl : GlOk L) : Sp (LFGo Tryz.prog Post W0) 34 [stA s p] L (fun v L' => ∃ ad cap, v = .tuple #[.slice ad (FireE s).1.length cap, .int .i64 (FireE s).2.1, .int .i64 (FireE s).2.2] ∧ IntsAt L' ad (FireE s).1 ∧ Dim L L') := by
 refine Sp.enter (n := 24) Tryz.func34 rfl rfl rfl rfl fun C hX _ hL0 r => ?_
 refine W.go 99 rfl ?_
 refine W.eff rfl rfl rfl (Ef.call rfl (Check_sp s p L hst)) ?_
 rintro _ _ _ ⟨_, rfl, rfl, rfl, rfl⟩
 refine W.go 99 rfl ?_
 refine W.split rfl rfl rfl (fun e1 => W.go 99 rfl ?_) (fun e1 => W.go 99 rfl ?_)
 ·refine W.ret r rfl rfl ?_
  have h0 : checkE s ≠ 0 := by simpa using e1
  unfold FireE
  rw [if_pos h0]
  exact ⟨none, 0, rfl, ints0, Dim.refl _⟩
 ·have h0 : checkE s = 0 := by simpa using e1
  have hok := ok_iff.1 h0
  have hf := fire_sp (Post := Post) (W0 := W0) s p L hst hok hgl
  rw [← hX] at hf
  unfold FireQ at hf
  unfold FireE at r
  rw [if_neg (by simpa using h0)] at r
  cases hs : fireS s with
  | none =>
   rw [hs] at hf r
   refine W.eff rfl rfl rfl (Ef.call rfl (hf)) ?_
   rintro _ _ _ ⟨_, rfl, rfl, rfl, hd⟩
   refine W.go 99 rfl ?_
   refine W.split rfl rfl rfl (fun c => ?_) (fun c => absurd c (by decide))
   refine W.go 99 rfl ?_
   refine W.ret r rfl rfl ?_
   exact ⟨none, 0, rfl, ints0, hd⟩
  | some l =>
   rw [hs] at hf r
   refine W.eff rfl rfl rfl (Ef.call rfl (hf)) ?_
   rintro _ _ _ ⟨_, rfl, rfl, ⟨ad, cap, rfl, hi⟩, hd⟩
   refine W.go 99 rfl ?_
   refine W.split rfl rfl rfl (fun c => absurd c (by decide)) (fun c => ?_)
   refine W.go 99 rfl ?_
   refine W.ret r rfl rfl ?_
   exact ⟨ad, cap, rfl, hi, hd⟩
theorem ok_days {s : St} (h : Ok s) {n : Int} (h1 : 1 ≤ n) (h2 : n ≤ s.days) : Ok { s with days := n } := { h with d1 := h1, d4 := by have := h.d4; show n ≤ 4; omega }
def DaysE (s : St) : Int × Int := if checkE s ≠ 0 then (0, checkE s) else match daysS s with
 | none => (0, 11)
 | some n => (n, 0)
theorem days_some {s : St} {k : Nat} (hk : k < s.days.toNat) (h : ∀ n : Nat, n < k → fireS { s with days := ((n + 1 : Nat) : Int) } = none) {l : List Int} (h2 : fireS { s with days := ((k + 1 : Nat) : Int) } = some l) : daysS s = some (k + 1) := by
 unfold daysS
 rw [List.find?_eq_some_iff_getElem]
 refine ⟨by rw [h2]; rfl, k, by simpa using hk, by simp, fun j hj => ?_⟩
 simp only [List.getElem_map, List.getElem_range]
 rw [h j hj]; rfl
theorem days_none {s : St} (h : ∀ n : Nat, n < s.days.toNat → fireS { s with days := ((n + 1 : Nat) : Int) } = none) : daysS s = none := by
 unfold daysS
 rw [List.find?_eq_none]
 intro x hx
 simp only [List.mem_map, List.mem_range] at hx
 obtain ⟨n, hn, rfl⟩ := hx
 rw [h n hn]; simp
theorem Days_sp (s : St) (p : Pt) (L : LH) (hst : StAt L s p) (hgl : GlOk L) : Sp (LFGo Tryz.prog Post W0) 36 [stA s p] L (fun v L' => v = .tuple #[.int .i64 (DaysE s).1, .int .i64 (DaysE s).2] ∧ Dim L L') := by
  refine Sp.enter (n := 34) Tryz.func36 rfl rfl rfl rfl fun C hX _ hL0 r => ?_
  refine W.go 99 rfl ?_
  refine W.eff rfl rfl rfl (Ef.call rfl (Check_sp s p L hst)) ?_
  rintro _ _ _ ⟨_, rfl, rfl, rfl, rfl⟩
  refine W.go 99 rfl ?_
  refine W.split rfl rfl rfl (fun e1 => W.go 99 rfl ?_) (fun e1 => W.go 99 rfl ?_)
  · refine W.ret r rfl rfl ?_
    have h0 : checkE s ≠ 0 := by simpa using e1
    unfold DaysE
    rw [if_pos h0]
    exact ⟨rfl, Dim.refl _⟩
  · have h0 : checkE s = 0 := by simpa using e1
    have hok := ok_iff.1 h0
    have d1 := hok.d1
    have d4 := hok.d4
    refine W.loop (fun m E B L' => ∃ k : Nat, m = s.days.toNat - k ∧ k ≤ s.days.toNat ∧ (∀ n : Nat, n < k → fireS { s with days := ((n + 1 : Nat) : Int) } = none) ∧ E = [(1, .p 0 0), (16, .v (.int .i64 s.days)), (17, .v (.int .i64 k))] ∧ B = [some ⟨cellsS (.v (stA s p)), 25⟩] ∧ Dim L L')
      ⟨0, rfl, by omega, fun n h => absurd h (by omega), rfl, rfl, Dim.refl _⟩ ⟨rfl, rfl, rfl, trivial⟩ ⟨rfl, trivial⟩ ?_
    rintro _ _ _ L2 ⟨k, rfl, hk, hno, rfl, rfl, hdim⟩ again
    refine W.go 99 rfl ?_
    refine W.split rfl rfl rfl (fun e1 => ?_) (fun e1 => ?_)
    · have hkd : k < s.days.toNat := by have : (k : Int) < s.days := by simpa using e1
                                        omega
      have hw : IntKind.i64.wrap ((k : Int) + 1) = ((k + 1 : Nat) : Int) := nat1 (by omega)
      have hok1 := ok_days hok (n := ((k + 1 : Nat) : Int)) (by omega) (by omega)
      have hf := fire_sp (Post := Post) (W0 := W0) { s with days := ((k + 1 : Nat) : Int) } p L2 (let h := hdim.st hst; ⟨h.sh, h.co, h.l1, h.l2⟩) hok1 (hdim.cell hgl)
      rw [← hX] at hf
      unfold FireQ at hf
      refine W.go 99 rfl ?_
      rw [hw]
      cases hs : fireS { s with days := ((k + 1 : Nat) : Int) } with
      | none =>
        rw [hs] at hf
        refine W.eff rfl rfl rfl (Ef.call rfl (hf)) ?_
        rintro _ _ _ ⟨_, rfl, rfl, rfl, hd⟩
        refine W.go 99 rfl ?_
        refine W.split rfl rfl rfl (fun c => absurd c (by decide)) (fun c => ?_)
        refine W.go 99 rfl ?_
        exact W.again (again _ _ _ _ (by omega) ⟨k + 1, rfl, by omega, fun n hn => (Nat.lt_succ_iff_lt_or_eq.1 hn).elim (hno n) (fun e => by subst e; exact hs), rfl, rfl, hdim.trans hd⟩) (by exact ⟨rfl, rfl, congrArg some (inc64 (by omega)), trivial⟩) (by exact ⟨rfl, trivial⟩)
      | some l =>
        rw [hs] at hf
        refine W.eff rfl rfl rfl (Ef.call rfl (hf)) ?_
        rintro _ _ _ ⟨_, rfl, rfl, ⟨ad, cap, rfl, hi⟩, hd⟩
        refine W.go 99 rfl ?_
        refine W.split rfl rfl rfl (fun c => ?_) (fun c => absurd c (by decide))
        refine W.go 99 rfl ?_
        refine W.ret r rfl rfl ?_
        unfold DaysE
        rw [if_neg (by simpa using h0), days_some hkd hno hs, hw]
        exact ⟨rfl, hdim.trans hd⟩
    · have hkd : ¬ (k : Int) < s.days := by simpa using e1
      refine W.go 99 rfl ?_
      refine W.ret r rfl rfl ?_
      unfold DaysE
      rw [if_neg (by simpa using h0), days_none fun n hn => hno n (by omega)]
      exact ⟨rfl, hdim⟩
end Go.Mz


set_option maxRecDepth 100000
namespace Go.Mz
open Go.Conc Go.Proofs
variable {X : Logic Tryz.prog}
def askE (s : St) (hs : List Int) : Int := if checkE s ≠ 0 then checkE s else heatsE s hs
end Go.Mz


set_option maxRecDepth 100000
namespace Go.Mz
open Go.Conc Go.Proofs
variable {X : Logic Tryz.prog}
theorem ask_first (s : St) (hs : List Int) : firstE [checkE s, heatsE s hs] = askE s hs := by
 unfold firstE askE
 split
 ·rfl
 ·unfold firstE
  split
  ·rfl
  ·rename_i h; unfold firstE; simp at h; exact h.symm
theorem open_ask (s : St) (hs is ds : List Int) : openE s hs is ds = if askE s hs ≠ 0 then askE s hs else if (is.all fun i => inB i 0 ((s.cones.length : Int) - 1)) && ds.all fun d => inB d 0 (s.days - 1) then 0 else 3 := by
 unfold openE; rw [ask_first]
end Go.Mz


set_option maxRecDepth 100000
namespace Go.Mz
open Go.Conc Go.Proofs
variable {X : Logic Tryz.prog}
def PlanV (s : St) (l : List Stand) : Prop := l.length ≤ s.cones.length ∧ ∀ a ∈ l, a.shelf = -1 ∨ isStand s a = true
theorem stand_nat {s : St} {hs : List Int} (hhk : HOk s hs) {a : Stand} (h : isStand s a = true) : ∃ k d : Nat, a = ⟨k, d⟩ ∧ k < s.shelves.length ∧ d < hs.length := by
 have hlen := hhk.len
 obtain ⟨a1, a2⟩ := a
 unfold isStand inB at h
 simp at h
 obtain ⟨k, rfl⟩ := Int.eq_ofNat_of_zero_le (show 0 ≤ a1 by omega)
 obtain ⟨d, rfl⟩ := Int.eq_ofNat_of_zero_le (show 0 ≤ a2 by omega)
 simp at h
 exact ⟨k, d, rfl, by omega, by omega⟩
def fitB (s : St) (hs : List Int) (l : List Stand) (k d : Nat) : Bool := decide (((onS s hs l k d).length : Int) ≤ roomOf s k)
end Go.Mz


set_option maxRecDepth 100000
namespace Go.Mz
open Go.Conc Go.Proofs
variable {X : Logic Tryz.prog}
def RightE (s : St) (hs : List Int) (l : List Stand) : Int := if askE s hs ≠ 0 then askE s hs else planE s hs l
end Go.Mz


set_option maxRecDepth 100000
namespace Go.Mz
open Go.Conc Go.Proofs
variable {X : Logic Tryz.prog}
end Go.Mz


set_option maxRecDepth 100000
namespace Go.Mz
open Go.Conc Go.Proofs
variable {X : Logic Tryz.prog}
theorem same_end {α : Type} [DecidableEq α] {a b : List α} {i : Nat} (h : a.take i = b.take i) (hi : i = a.length ∨ i = b.length) (h1 : i ≤ a.length) (h2 : i ≤ b.length) : ((a.length : Int) == (b.length : Int)) = decide (a = b) := by
 rw [Bool.eq_iff_iff, beq_iff_eq, decide_eq_true_eq]
 constructor
 ·intro e
  rw [List.take_of_length_le (by omega), List.take_of_length_le (by omega)] at h
  exact h
 ·rintro rfl; rfl
theorem take_next {α : Type} {a b : List α} {i : Nat} (h : a.take i = b.take i) (h1 : i < a.length) (h2 : i < b.length) (he : a[i] = b[i]) : a.take (i + 1) = b.take (i + 1) := by
 rw [List.take_succ_eq_append_getElem h1, List.take_succ_eq_append_getElem h2, h, he]
theorem EqInts_sp (pa pb : Option Addr) (ca cb : Nat) (a b : List Int) (L : LH) (ha : IntsAt L pa a) (hb : IntsAt L pb b) (na : a.length ≤ 1000000) (nb : b.length ≤ 1000000) :
  Sp X 33 [.slice pa a.length ca, .slice pb b.length cb] L (fun v L' => v = .bool (decide (a = b)) ∧ L = L') := by
 refine Sp.enter (n := 32) Tryz.func33 rfl rfl rfl rfl fun C hX _ hL0 r => ?_
 refine W.go 99 rfl ?_
 refine W.loop (fun m E B L' => ∃ (i : Nat), m = a.length - i ∧ i ≤ a.length ∧ i ≤ b.length ∧ a.take i = b.take i ∧ L = L' ∧
   E = [(0, .v (.slice pa a.length ca)), (1, .v (.slice pb b.length cb)), (5, .v (.int .i64 i))] ∧ B = [])
  ⟨0, rfl, by omega, by omega, rfl, rfl, rfl, rfl⟩ (by exact ⟨rfl, rfl, rfl, trivial⟩) trivial ?_
 rintro _ _ _ _ ⟨i, rfl, h1, h2, ht, rfl, rfl, rfl⟩ again
 refine W.go 99 rfl ?_
 refine W.split rfl rfl rfl (fun e1 => W.go 99 rfl ?_) (fun e1 => W.go 99 rfl ?_)
 ·have hia : i < a.length := by simpa using e1
  refine W.split rfl rfl rfl (fun e2 => W.go 99 rfl ?_) (fun e2 => W.go 99 rfl ?_)
  ·have hib : i < b.length := by simpa using e2
   obtain ⟨aa, rfl⟩ := ha.addr hia
   obtain ⟨ab, rfl⟩ := hb.addr hib
   refine W.drawn (by kernel_rfl) _ (Le.refl _) ?_
   refine DD.run' [0, 1, 4, 5] rfl ?_
   refine DD.vf 2 rfl rfl rfl rfl rfl (Vf.idx1 rfl rfl rfl rfl rfl rfl rfl (hia)) ?_
   refine DD.vf 3 rfl rfl rfl rfl rfl (Vf.load rfl rfl rfl (ha.int (List.getElem?_eq_getElem hia))) ?_
   refine DD.vf 6 rfl rfl rfl rfl rfl (Vf.idx1 rfl rfl rfl rfl rfl rfl rfl (hib)) ?_
   refine DD.vf 7 rfl rfl rfl rfl rfl (Vf.load rfl rfl rfl (hb.int (List.getElem?_eq_getElem hib))) ?_
   refine DD.run' [8] rfl ?_
   refine .fin rfl ?_
   refine W.go 99 rfl ?_
   refine W.split rfl rfl rfl (fun e3 => W.go 99 rfl ?_) (fun e3 => W.go 99 rfl ?_)
   ·refine W.ret r rfl rfl ?_
    have hne : a ≠ b := fun e => by subst e; simp at e3
    rw [decide_eq_false hne]
    exact ⟨rfl, rfl⟩
   ·exact W.again (again _ _ _ _ (by omega) ⟨i + 1, rfl, by omega, by omega, take_next ht hia hib (by simpa using e3), rfl, rfl, rfl⟩) ⟨rfl, rfl, congrArg some (inc64 (by omega)), trivial⟩ trivial
  ·refine W.ret r rfl rfl ?_
   have hib : i = b.length := by simp at e2; omega
   rw [← same_end ht (.inr hib) h1 h2]
   exact ⟨rfl, rfl⟩
 ·refine W.ret r rfl rfl ?_
  have hia : i = a.length := by simp at e1; omega
  rw [← same_end ht (.inl hia) h1 h2]
  exact ⟨rfl, rfl⟩
theorem EqStands_sp (pa pb : Option Addr) (ca cb : Nat) (a b : List Stand) (L : LH) (ha : SlAt L pa 2 encSt a) (hb : SlAt L pb 2 encSt b) (na : a.length ≤ 1000000) (nb : b.length ≤ 1000000) :
  Sp X 47 [.slice pa a.length ca, .slice pb b.length cb] L (fun v L' => v = .bool (decide (a = b)) ∧ L = L') := by
 refine Sp.enter (n := 32) Tryz.func47 rfl rfl rfl rfl fun C hX _ hL0 r => ?_
 refine W.go 99 rfl ?_
 refine W.loop (fun m E B L' => ∃ (i : Nat), m = a.length - i ∧ i ≤ a.length ∧ i ≤ b.length ∧ a.take i = b.take i ∧ L = L' ∧
   E = [(0, .v (.slice pa a.length ca)), (1, .v (.slice pb b.length cb)), (5, .v (.int .i64 i))] ∧ B = [])
  ⟨0, rfl, by omega, by omega, rfl, rfl, rfl, rfl⟩ (by exact ⟨rfl, rfl, rfl, trivial⟩) trivial ?_
 rintro _ _ _ _ ⟨i, rfl, h1, h2, ht, rfl, rfl, rfl⟩ again
 refine W.go 99 rfl ?_
 refine W.split rfl rfl rfl (fun e1 => W.go 99 rfl ?_) (fun e1 => W.go 99 rfl ?_)
 ·have hia : i < a.length := by simpa using e1
  refine W.split rfl rfl rfl (fun e2 => W.go 99 rfl ?_) (fun e2 => W.go 99 rfl ?_)
  ·have hib : i < b.length := by simpa using e2
   obtain ⟨aa, rfl⟩ := ha.addr hia
   obtain ⟨ab, rfl⟩ := hb.addr hib
   have hdec : (a[i].shelf == b[i].shelf && a[i].day == b[i].day) = decide (a[i] = b[i]) := by
    generalize a[i] = x
    generalize b[i] = y
    obtain ⟨x1, x2⟩ := x; obtain ⟨y1, y2⟩ := y
    rw [Bool.eq_iff_iff]; simp
   refine W.drawn (by kernel_rfl) _ (Le.refl _) ?_
   refine DD.run' [0, 1, 4, 5] rfl ?_
   refine DD.vf 2 rfl rfl rfl rfl rfl (Vf.idx rfl rfl rfl rfl rfl rfl (hia)) ?_
   refine DD.vf 3 rfl rfl rfl rfl rfl (Vf.loadN rfl rfl rfl (ha.whole (List.getElem?_eq_getElem hia) rfl)) ?_
   refine DD.vf 6 rfl rfl rfl rfl rfl (Vf.idx rfl rfl rfl rfl rfl rfl (hib)) ?_
   refine DD.vf 7 rfl rfl rfl rfl rfl (Vf.loadN rfl rfl rfl (hb.whole (List.getElem?_eq_getElem hib) rfl)) ?_
   refine DD.vf 8 rfl rfl rfl rfl rfl (Vf.eqS (xs := [a[i].shelf, a[i].day]) (ys := [b[i].shelf, b[i].day]) (.inr rfl) rfl rfl rfl rfl (by kernel_rfl) (fun n Q H R => eq30 (n := n + 1))) ?_
   refine .fin rfl ?_
   refine W.go 99 rfl ?_
   refine W.split rfl rfl rfl (fun e3 => W.go 99 rfl ?_) (fun e3 => W.go 99 rfl ?_)
   ·refine W.ret r rfl rfl ?_
    have hne : a ≠ b := fun e => by subst e; simp [eqC] at e3
    rw [decide_eq_false hne]
    exact ⟨rfl, rfl⟩
   ·exact W.again (again _ _ _ _ (by omega) ⟨i + 1, rfl, by omega, by omega, take_next ht hia hib (by rw [hdec] at e3; simpa [eqC] using e3), rfl, rfl, rfl⟩) ⟨rfl, rfl, congrArg some (inc64 (by omega)), trivial⟩ trivial
  ·refine W.ret r rfl rfl ?_
   have hib : i = b.length := by simp at e2; omega
   rw [← same_end ht (.inr hib) h1 h2]
   exact ⟨rfl, rfl⟩
 ·refine W.ret r rfl rfl ?_
  have hia : i = a.length := by simp at e1; omega
  rw [← same_end ht (.inl hia) h1 h2]
  exact ⟨rfl, rfl⟩
def findI (l : List Int) (x : Int) : Int := match l.findIdx? (· == x) with | some i => (i : Int) | none => -1
end Go.Mz


set_option maxRecDepth 100000
namespace Go.Mz
open Go.Conc Go.Proofs
variable {X : Logic Tryz.prog}
theorem W.cut1 {P : Program} {C : Cx P} {n : Nat} {ds : List Deferred} {a : Item} {k : List Item} {E : Env} {B : List (Option Bx)} {L : LH} (J : Env → List (Option Bx) → LH → Prop) (hJ : ∀ E B L, J E B L → W C n ds k E B L) (h : (∀ E' B' L', J E' B' L' → W C n ds k E' B' L') → W C n ds (a :: k) E B L) : W C n ds (a :: k) E B L := h hJ
structure HatAt (L : LH) (b : Nat) (ad : Option Addr) (cap : Nat) (l : List Int) (n : Nat) : Prop where
 blk : ∃ seed : Int, L b = some (.cells [Value.slice ad l.length cap, .int .i64 n, .int .u64 seed].toArray 98 (0, 0), true)
 ints : IntsAt (L.but b) ad l
theorem HatAt.next {L L' : LH} {b : Nat} {ad : Option Addr} {cap : Nat} {l : List Int} {n : Nat} (h : HatAt L b ad cap l n) (hk : ∀ b', b' ≠ b → L' b' = L b') (hs : ∃ seed : Int, L' b = some (.cells [Value.slice ad l.length cap, .int .i64 ((n + 1 : Nat) : Int), .int .u64 seed].toArray 98 (0, 0), true)) : HatAt L' b ad cap l (n + 1) := by
 refine ⟨hs, ?_⟩
 have e : L'.but b = L.but b := by
  funext b'
  unfold LH.but
  split
  ·rfl
  ·rename_i hb; exact hk b' hb
 rw [e]; exact h.ints
theorem u64_nn (y : Int) : 0 ≤ IntKind.u64.wrap y := by
 unfold IntKind.wrap
 exact Int.emod_nonneg _ (by decide)
theorem u64_in (y : Int) (h1 : 0 ≤ y) (h2 : y < 18446744073709551616) : IntKind.u64.wrap y = y := by
 unfold IntKind.wrap
 exact Int.emod_eq_of_lt h1 h2
theorem nat2 {n : Nat} (h : n ≤ 1000000) : IntKind.i64.wrap ((n : Int) + 1) = ((n + 1 : Nat) : Int) := by rw [wrap64_in _ (by omega) (by omega)]; rfl
theorem stir_sp (b : Nat) (ad : Option Addr) (cap : Nat) (l : List Int) (n : Nat) (L : LH) (h : HatAt L b ad cap l n) (hn : n ≤ 1000000) (hl : l.length ≤ 140737488355328) :
  Sp X 80 [pt b] L (fun v L' => (∃ x : Int, v = .int .u64 x ∧ 0 ≤ x) ∧ (∀ b', b' ≠ b → L' b' = L b') ∧ ∃ seed : Int, L' b = some (.cells [Value.slice ad l.length cap, .int .i64 ((n + 1 : Nat) : Int), .int .u64 seed].toArray 98 (0, 0), true)) := by
 obtain ⟨⟨seed, hb⟩, hi⟩ := h
 have hi := hi.le (but_le _ _)
 refine Sp.enter (n := 75) Tryz.func80 rfl rfl rfl rfl fun C hX _ hL0 r => ?_
 refine W.go 99 rfl ?_
 refine W.vf rfl rfl rfl rfl (Vf.load rfl rfl rfl (cell_of hb rfl)) ?_
 refine W.go 99 rfl ?_
 refine W.drawn (by kernel_rfl) _ (Le.refl _) ?_
 refine DD.run' [0, 1, 2, 4, 5, 6] rfl ?_
 refine DD.vf 3 rfl rfl rfl rfl rfl (Vf.load rfl rfl rfl (cell_of hb rfl)) ?_
 refine DD.vf 7 rfl rfl rfl rfl rfl (Vf.load rfl rfl rfl (cell_of hb rfl)) ?_
 refine DD.run' [8, 9] rfl ?_
 refine .fin rfl ?_
 refine W.cut1 (fun E B L' => L = L' ∧ ∃ y : Int, SubE E [(0, .v (pt b)), (3, .v (.int .u64 y))]) ?_ ?_
 ·rintro E B _ ⟨rfl, y, hE⟩
  refine W.weak (B' := []) hE (by cases B <;> exact trivial) ?_
  refine W.go 99 rfl ?_
  refine W.vf rfl rfl rfl rfl (Vf.load rfl rfl rfl (cell_of hb rfl)) ?_
  refine W.go 99 rfl ?_
  rw [nat2 hn]
  refine W.eff0 rfl rfl (Ef.stoL rfl ⟨_, rfl, rfl⟩ rfl hb rfl rfl rfl rfl rfl) ?_
  rintro _ _ _ ⟨rfl, rfl, rfl⟩
  refine W.go 99 rfl ?_
  refine W.vf rfl rfl rfl rfl (Vf.load rfl rfl rfl (cell_of (put_same _ _ _) rfl)) ?_
  refine W.go 99 rfl ?_
  refine W.eff0 rfl rfl (Ef.stoL rfl ⟨_, rfl, rfl⟩ rfl (put_same _ _ _) rfl rfl rfl rfl rfl) ?_
  rintro _ _ _ ⟨rfl, rfl, rfl⟩
  refine W.go 99 rfl ?_
  generalize hL1 : LH.put (LH.put L b _) b _ = L1
  have hk1 : ∀ b', b' ≠ b → L1 b' = L b' := fun b' hb' => by rw [← hL1, put_ne _ _ hb', put_ne _ _ hb']
  obtain ⟨sd1, hb1⟩ : ∃ sd1 : Int, L1 b = some (.cells [Value.slice ad l.length cap, .int .i64 ((n + 1 : Nat) : Int), .int .u64 sd1].toArray 98 (0, 0), true) := ⟨_, by rw [← hL1]; exact put_same _ _ _⟩
  clear hL1
  refine W.drawn (by kernel_rfl) noL (noL_le _) ?_
  refine DD.run' [0, 1, 2, 3, 5, 6, 7] rfl ?_
  refine DD.act2 4 8 rfl rfl rfl rfl rfl rfl rfl rfl (Ef.val rfl (Vf.load rfl rfl rfl (by exact cell_of hb1 rfl))) (Ef.val rfl (Vf.load rfl rfl rfl (by exact cell_of hb1 rfl))) (by rintro _ _ _ ⟨rfl, rfl, rfl⟩; exact ⟨noL_le _, rfl, .inl rfl⟩) (by rintro _ _ _ ⟨rfl, rfl, rfl⟩; exact ⟨noL_le _, rfl, .inl rfl⟩) ?_ ?_
  ·rintro _ _ _ ⟨rfl, rfl, hq⟩
   obtain rfl := hq.symm
   refine DD.act 8 rfl rfl rfl rfl rfl (Ef.val rfl (Vf.load rfl rfl rfl (cell_of hb1 rfl))) (by rintro _ _ _ ⟨rfl, rfl, rfl⟩; exact ⟨noL_le _, rfl, .inl rfl⟩) ?_
   rintro _ _ _ ⟨rfl, rfl, rfl⟩
   refine DD.run' [9, 10, 11, 12] rfl ?_
   refine DD.act 13 rfl rfl rfl rfl rfl (Ef.stoL rfl ⟨_, rfl, rfl⟩ rfl hb1 rfl rfl rfl rfl rfl) ((by rintro _ _ _ ⟨rfl, rfl, rfl⟩; exact ⟨noL_le _, rfl, .inl rfl⟩)) ?_
   rintro _ _ _ ⟨rfl, rfl, rfl⟩
   refine .fin rfl ?_
   refine W.go 99 rfl ?_
   refine W.vf rfl rfl rfl rfl (Vf.load rfl rfl rfl (cell_of (put_same _ _ _) rfl)) ?_
   refine W.go 99 rfl ?_
   refine W.ret r rfl rfl ?_
   exact ⟨⟨_, rfl, Int.fdiv_nonneg (u64_nn _) (by decide)⟩, fun b' hb' => by rw [put_ne _ _ hb']; exact hk1 b' hb', _, put_same _ _ _⟩
  ·rintro _ _ _ ⟨rfl, rfl, hq⟩
   obtain rfl := hq.symm
   refine DD.run' [9] rfl ?_
   refine DD.act 4 rfl rfl rfl rfl rfl (Ef.val rfl (Vf.load rfl rfl rfl (cell_of hb1 rfl))) (by rintro _ _ _ ⟨rfl, rfl, rfl⟩; exact ⟨noL_le _, rfl, .inl rfl⟩) ?_
   rintro _ _ _ ⟨rfl, rfl, rfl⟩
   refine DD.run' [10, 11, 12] rfl ?_
   refine DD.act 13 rfl rfl rfl rfl rfl (Ef.stoL rfl ⟨_, rfl, rfl⟩ rfl hb1 rfl rfl rfl rfl rfl) ((by rintro _ _ _ ⟨rfl, rfl, rfl⟩; exact ⟨noL_le _, rfl, .inl rfl⟩)) ?_
   rintro _ _ _ ⟨rfl, rfl, rfl⟩
   refine .fin rfl ?_
   refine W.go 99 rfl ?_
   refine W.vf rfl rfl rfl rfl (Vf.load rfl rfl rfl (cell_of (put_same _ _ _) rfl)) ?_
   refine W.go 99 rfl ?_
   refine W.ret r rfl rfl ?_
   exact ⟨⟨_, rfl, Int.fdiv_nonneg (u64_nn _) (by decide)⟩, fun b' hb' => by rw [put_ne _ _ hb']; exact hk1 b' hb', _, put_same _ _ _⟩
 ·intro rest
  refine W.split rfl rfl rfl (fun e1 => ?_) (fun e1 => ?_)
  ·have hnl : n < l.length := by simpa using e1
   obtain ⟨la, rfl⟩ := hi.addr hnl
   refine W.go 99 rfl ?_
   refine W.drawn (by kernel_rfl) _ (Le.refl _) ?_
   refine DD.run' [0, 1, 2, 3, 5, 6, 7] rfl ?_
   refine DD.vf 4 rfl rfl rfl rfl rfl (Vf.load rfl rfl rfl (cell_of hb rfl)) ?_
   refine DD.vf 8 rfl rfl rfl rfl rfl (Vf.load rfl rfl rfl (cell_of hb rfl)) ?_
   refine DD.vf 9 rfl rfl rfl rfl rfl (Vf.idx1 rfl rfl rfl rfl rfl rfl rfl (hnl)) ?_
   refine DD.vf 10 rfl rfl rfl rfl rfl (Vf.load rfl rfl rfl (hi.int (List.getElem?_eq_getElem hnl))) ?_
   refine DD.run' [11, 12, 13, 14] rfl ?_
   refine .fin rfl ?_
   exact rest _ _ _ ⟨rfl, _, rfl, rfl, trivial⟩
  ·refine W.go 2 rfl ?_
   exact rest _ _ _ ⟨rfl, _, rfl, rfl, trivial⟩
theorem To_sp (b : Nat) (ad : Option Addr) (cap : Nat) (l : List Int) (n m : Nat) (L : LH) (h : HatAt L b ad cap l n) (hn : n ≤ 1000000) (hl : l.length ≤ 140737488355328) (hm : m ≤ 1000000) :
  Sp X 24 [pt b, .int .i64 m] L (fun v L' => (∃ y : Nat, v = .int .i64 y ∧ y ≤ m) ∧ (∀ b', b' ≠ b → L' b' = L b') ∧ ∃ seed : Int, L' b = some (.cells [Value.slice ad l.length cap, .int .i64 ((n + 1 : Nat) : Int), .int .u64 seed].toArray 98 (0, 0), true)) := by
 refine Sp.enter (n := 16) Tryz.func24 rfl rfl rfl rfl fun C hX _ hL0 r => ?_
 refine W.go 99 rfl ?_
 refine W.eff rfl rfl rfl (Ef.call rfl (stir_sp b ad cap l n L h hn hl)) ?_
 rintro _ _ _ ⟨_, rfl, rfl, ⟨x, rfl, hx⟩, hk, hs⟩
 refine W.go 99 rfl ?_
 refine W.split rfl rfl rfl (fun e1 => W.go 99 rfl ?_) (fun e1 => W.go 99 rfl ?_)
 ·refine W.ret r rfl rfl ?_
  exact ⟨⟨0, rfl, by omega⟩, hk, hs⟩
 ·have hm1 : 1 ≤ m := by simp at e1; omega
  rw [u64_in (m : Int) (by omega) (by omega), u64_in ((m : Int) + 1) (by omega) (by omega)]
  have hr1 : 0 ≤ x.tmod ((m : Int) + 1) := Int.tmod_nonneg _ hx
  have hr2 : x.tmod ((m : Int) + 1) < (m : Int) + 1 := Int.tmod_lt_of_pos _ (by omega)
  have hrem : intRes .rem .u64 x ((m : Int) + 1) = some (.int .u64 (x.tmod ((m : Int) + 1))) := by
   have h0 : ¬ ((m : Int) + 1 = 0) := by omega
   simp [intRes, h0]
  refine W.vf rfl rfl rfl rfl (Vf.bin (v := .int .u64 (x.tmod ((m : Int) + 1))) rfl rfl hrem) ?_
  refine W.go 99 rfl ?_
  refine W.ret r rfl rfl ?_
  refine ⟨⟨(x.tmod ((m : Int) + 1)).toNat, ?_, by omega⟩, hk, hs⟩
  rw [show (((x.tmod ((m : Int) + 1)).toNat : Nat) : Int) = x.tmod ((m : Int) + 1) by omega]
  show Value.int .i64 (IntKind.i64.wrap (x.tmod ((m : Int) + 1))) = _
  rw [wrap64_in _ (by omega) (by omega)]
theorem From_sp (b : Nat) (ad : Option Addr) (cap : Nat) (l : List Int) (n : Nat) (lo : Int) (m : Nat) (L : LH) (h : HatAt L b ad cap l n) (hn : n ≤ 1000000) (hl : l.length ≤ 140737488355328) (hm : m ≤ 1000000) (h1 : -1000000 ≤ lo) (h2 : lo ≤ 1000000) :
  Sp X 42 [pt b, .int .i64 lo, .int .i64 (lo + m)] L (fun v L' => (∃ y : Int, v = .int .i64 y ∧ lo ≤ y ∧ y ≤ lo + m) ∧ (∀ b', b' ≠ b → L' b' = L b') ∧ ∃ seed : Int, L' b = some (.cells [Value.slice ad l.length cap, .int .i64 ((n + 1 : Nat) : Int), .int .u64 seed].toArray 98 (0, 0), true)) := by
 refine Sp.enter (n := 14) Tryz.func42 rfl rfl rfl rfl fun C hX _ hL0 r => ?_
 refine W.go 99 rfl ?_
 rw [wrap64_in _ (by omega) (by omega), show lo + (m : Int) - lo = (m : Int) by omega]
 refine W.eff rfl rfl rfl (Ef.call rfl (To_sp b ad cap l n m L h hn hl hm)) ?_
 rintro _ _ _ ⟨_, rfl, rfl, ⟨y, rfl, hy⟩, hk, hs⟩
 refine W.go 99 rfl ?_
 rw [wrap64_in _ (by omega) (by omega)]
 refine W.ret r rfl rfl ?_
 exact ⟨⟨_, rfl, by omega, by omega⟩, hk, hs⟩
theorem Seldom_sp (b : Nat) (ad : Option Addr) (cap : Nat) (l : List Int) (n m : Nat) (L : LH) (h : HatAt L b ad cap l n) (hn : n ≤ 1000000) (hl : l.length ≤ 140737488355328) (hm : m ≤ 1000000) :
  Sp X 81 [pt b, .int .i64 ((m : Int) + 1)] L (fun v L' => (∃ y : Bool, v = .bool y) ∧ (∀ b', b' ≠ b → L' b' = L b') ∧ ∃ seed : Int, L' b = some (.cells [Value.slice ad l.length cap, .int .i64 ((n + 1 : Nat) : Int), .int .u64 seed].toArray 98 (0, 0), true)) := by
 refine Sp.enter (n := 10) Tryz.func81 rfl rfl rfl rfl fun C hX _ hL0 r => ?_
 refine W.go 99 rfl ?_
 rw [wrap64_in _ (by omega) (by omega), show (m : Int) + 1 - 1 = (m : Int) by omega]
 refine W.eff rfl rfl rfl (Ef.call rfl (To_sp b ad cap l n m L h hn hl hm)) ?_
 rintro _ _ _ ⟨_, rfl, rfl, ⟨y, rfl, hy⟩, hk, hs⟩
 refine W.go 99 rfl ?_
 refine W.ret r rfl rfl ?_
 exact ⟨⟨_, rfl⟩, hk, hs⟩
theorem NewHat_sp (ad : Option Addr) (cap : Nat) (l : List Int) (L : LH) (h : IntsAt L ad l) : Sp X 22 [.slice ad l.length cap] L (fun v L' => ∃ b, v = pt b ∧ L b = none ∧ Le L L' ∧ HatAt L' b ad cap l 0) := by
 refine Sp.enter (n := 6) Tryz.func22 rfl rfl rfl rfl fun C hX _ hL0 r => ?_
 refine W.goP [2] 99 rfl ?_
 refine W.go 99 rfl ?_
 refine W.pub 2 (.inl ⟨_, rfl⟩) rfl rfl ?_
 intro b hb _
 refine W.ret r rfl rfl ?_
 exact ⟨b, rfl, hb, Le.put hb _, ⟨_, put_same _ _ _⟩, h.le fun b' x hx => by rw [but_get (fun e => by subst e; rw [hb] at hx; cases hx)]; exact Le.put hb _ _ _ hx⟩
end Go.Mz


set_option maxRecDepth 100000
namespace Go.Mz
open Go.Conc Go.Proofs
variable {X : Logic Tryz.prog}
theorem DupStands_sp (ad : Option Addr) (c : Nat) (l : List Stand) (L : LH) (h : SlAt L ad 2 encSt l) (hn : l.length ≤ 1000000) : Sp X 63 [.slice ad l.length c] L (fun v L' => Grow L 2 30 encSt L' v l) := by
 refine Sp.enter (n := 6) Tryz.func63 rfl rfl rfl rfl fun C hX _ hL0 r => ?_
 refine W.go 99 rfl ?_
 refine W.pub 3 (.inr ⟨_, _, _, rfl⟩) rfl rfl ?_
 intro b hb _
 refine W.eff rfl rfl rfl (Ef.grow rfl rfl rfl rfl rfl rfl rfl rfl rfl encSt_len encSt_sg (Grow.new (Le.put hb _) (put_same _ _ _) hb) (ls := l) (.sl (h.le (Le.put hb _)) encSt_len rfl) (by simp; omega)) ?_
 rintro _ _ _ ⟨v', rfl, rfl, hg', _⟩
 refine W.go 99 rfl ?_
 refine W.ret r rfl rfl ?_
 exact hg'
theorem One_sp (b : Nat) (ad xa : Option Addr) (cap xc : Nat) (l xs : List Int) (n : Nat) (L : LH) (h : HatAt L b ad cap l n) (hx : IntsAt L xa xs) (hn : n ≤ 1000000) (hl : l.length ≤ 140737488355328) (hm : xs.length ≤ 1000000) (h1 : 1 ≤ xs.length) (hxb : ∀ a, xa = some a → a.block ≠ b) :
  Sp X 96 [pt b, .slice xa xs.length xc] L (fun v L' => (∃ y : Int, v = .int .i64 y ∧ y ∈ xs) ∧ (∀ b', b' ≠ b → L' b' = L b') ∧ ∃ seed : Int, L' b = some (.cells [Value.slice ad l.length cap, .int .i64 ((n + 1 : Nat) : Int), .int .u64 seed].toArray 98 (0, 0), true)) := by
 obtain ⟨m, hmx⟩ : ∃ m, xs.length = m + 1 := ⟨xs.length - 1, by omega⟩
 obtain ⟨xd, rfl⟩ := hx.addr (i := 0) (by omega)
 have hxb := hxb xd rfl
 refine Sp.enter (n := 13) Tryz.func96 rfl rfl rfl rfl fun C hX _ hL0 r => ?_
 refine W.go 99 rfl ?_
 rw [wrap64_in _ (by omega) (by omega), show (xs.length : Int) - 1 = (m : Int) by omega]
 refine W.eff rfl rfl rfl (Ef.call rfl (To_sp b ad cap l n m L h hn hl (by omega))) ?_
 rintro _ _ _ ⟨_, rfl, rfl, ⟨y, rfl, hy⟩, hk, hs⟩
 refine W.go 99 rfl ?_
 have hyl : y < xs.length := by omega
 rename_i L2
 have hc : L2.cell? (xd.add y) = some (.int .i64 xs[y]) := by
  have := hx.int (List.getElem?_eq_getElem hyl)
  have hb2 : (xd.add y).block = xd.block := by unfold Addr.add; split <;> rfl
  unfold LH.cell? at this ⊢
  rw [hk _ (by rw [hb2]; exact hxb)]; exact this
 refine W.vf rfl rfl rfl rfl (Vf.idx1 rfl rfl rfl rfl rfl rfl rfl (hyl)) ?_
 refine W.vf rfl rfl rfl rfl (Vf.load rfl rfl rfl (hc)) ?_
 refine W.go 99 rfl ?_
 refine W.ret r rfl rfl ?_
 exact ⟨⟨_, rfl, List.getElem_mem hyl⟩, hk, hs⟩
theorem ints5 {L : LH} {b : Nat} {x0 x1 x2 x3 x4 : Int} {t : TypeId} (h : L b = some (.cells #[.int .i64 x0, .int .i64 x1, .int .i64 x2, .int .i64 x3, .int .i64 x4] t (0, 0), true)) : IntsAt L (some ⟨b, 0, none⟩) [x0, x1, x2, x3, x4] := fun i z hz => ⟨_, rfl, fun j v hv => by
 rw [add_of, Nat.zero_add]
 refine cell_of h ?_
 match i, hz, j, hv with
 | 0, hz, 0, hv => cases hz; cases hv; rfl
 | 1, hz, 0, hv => cases hz; cases hv; rfl
 | 2, hz, 0, hv => cases hz; cases hv; rfl
 | 3, hz, 0, hv => cases hz; cases hv; rfl
 | 4, hz, 0, hv => cases hz; cases hv; rfl⟩
def ConeH (c : Cone) : Prop := (1 ≤ c.wet ∧ c.wet ≤ 9) ∧ (1 ≤ c.cold ∧ c.cold ≤ 5) ∧ (0 ≤ c.jump ∧ c.jump ≤ 3) ∧ (3 ≤ c.most ∧ c.most ≤ 8)
theorem ConeOf_sp (b : Nat) (ad : Option Addr) (cap : Nat) (l : List Int) (n : Nat) (L : LH) (h : HatAt L b ad cap l n) (hn : n ≤ 900000) (hl : l.length ≤ 140737488355328) :
  Sp X 58 [pt b] L (fun v L' => (∃ c : Cone, v = .agg (encCo c).toArray ∧ ConeH c) ∧ Le (L.but b) L' ∧ HatAt L' b ad cap l (n + 4)) := by
 refine Sp.enter (n := 13) Tryz.func58 rfl rfl rfl rfl fun C hX _ hL0 r => ?_
 refine W.go 99 rfl ?_
 have f1 := From_sp (X := C.X) b ad cap l n 1 8 L h (by omega) hl (by omega) (by omega) (by omega)
 refine W.eff rfl rfl rfl (Ef.call rfl (f1)) ?_
 rintro _ _ _ ⟨_, rfl, rfl, ⟨y1, rfl, a1, a2⟩, hk1, hs1⟩
 refine W.go 99 rfl ?_
 have g1 := h.next hk1 hs1
 rename_i L1
 have f2 := From_sp (X := C.X) b ad cap l (n + 1) 1 4 L1 g1 (by omega) hl (by omega) (by omega) (by omega)
 refine W.eff rfl rfl rfl (Ef.call rfl (f2)) ?_
 rintro _ _ _ ⟨_, rfl, rfl, ⟨y2, rfl, a3, a4⟩, hk2, hs2⟩
 refine W.go 99 rfl ?_
 have g2 := g1.next hk2 hs2
 rename_i L2
 refine W.pub 8 (.inr ⟨_, _, _, rfl⟩) rfl rfl ?_
 intro b8 hb8 _
 have hl3 := Le.put hb8 (.cells #[.int .i64 0, .int .i64 1, .int .i64 1, .int .i64 2, .int .i64 3] 3)
 have i8 := put_same L2 b8 (.cells #[.int .i64 0, .int .i64 1, .int .i64 1, .int .i64 2, .int .i64 3] 3)
 have n8 : b8 ≠ b := fun e => by
  obtain ⟨sd, g⟩ := g2.blk
  rw [e, g] at hb8; cases hb8
 have g3 : HatAt (L2.put b8 (.cells #[.int .i64 0, .int .i64 1, .int .i64 1, .int .i64 2, .int .i64 3] 3)) b ad cap l (n + 2) := by
  obtain ⟨sd, g⟩ := g2.blk
  refine ⟨⟨sd, hl3 _ _ g⟩, g2.ints.le fun b' x hx => ?_⟩
  rw [but_get (fun e => by subst e; unfold LH.but at hx; rw [if_pos rfl] at hx; cases hx)]
  exact hl3 _ _ (but_le _ _ _ _ hx)
 have f3 := One_sp (X := C.X) b ad (some ⟨b8, 0, none⟩) cap 5 l [0, 1, 1, 2, 3] (n + 2) _ g3 (ints5 i8) (by omega) hl (by decide) (by decide) (fun a ha => by cases ha; exact n8)
 refine W.eff rfl rfl rfl (Ef.call rfl (f3)) ?_
 rintro _ _ _ ⟨_, rfl, rfl, ⟨y3, rfl, a5⟩, hk4, hs4⟩
 refine W.go 99 rfl ?_
 have g4 := g3.next hk4 hs4
 rename_i L4
 have f4 := From_sp (X := C.X) b ad cap l (n + 3) 3 5 L4 g4 (by omega) hl (by omega) (by omega) (by omega)
 refine W.eff rfl rfl rfl (Ef.call rfl (f4)) ?_
 rintro _ _ _ ⟨_, rfl, rfl, ⟨y4, rfl, a6, a7⟩, hk5, hs5⟩
 refine W.go 99 rfl ?_
 have g5 := g4.next hk5 hs5
 refine W.ret r rfl rfl ?_
 refine ⟨⟨⟨y1, y2, y3, y4⟩, rfl, ⟨by omega, by simpa using a2⟩, ⟨by omega, by simpa using a4⟩, ?_, by omega, by simpa using a7⟩, fun b' x hx => ?_, g5⟩
 ·simp at a5; simp only; omega
 ·have nb : b' ≠ b := fun e => by subst e; unfold LH.but at hx; rw [if_pos rfl] at hx; cases hx
  rw [but_get nb] at hx
  rw [hk5 _ nb, hk4 _ nb]
  exact hl3 _ _ ((hk2 _ nb).trans ((hk1 _ nb).trans hx))
theorem at_sp (k d : Int) (L : LH) : Sp X 76 [.int .i64 k, .int .i64 d] L (fun v L' => v = .agg (encSt ⟨k, d⟩).toArray ∧ L = L') := by
 refine Sp.enter (n := 8) Tryz.func76 rfl rfl rfl rfl fun C hX _ hL0 r => ?_
 refine W.go 99 rfl ?_
 refine W.ret r rfl rfl ?_
 exact ⟨rfl, rfl⟩
theorem hot_sp (L : LH) : Sp X 77 [] L (fun v L' => ∃ b, v = .slice (some ⟨b, 0, none⟩) 3 3 ∧ L b = none ∧ L' = L.put b (.cells #[.int .i64 1, .int .i64 2, .int .i64 3] 3)) := by
 refine Sp.enter (n := 2) Tryz.func77 rfl rfl rfl rfl fun C hX _ hL0 r => ?_
 refine W.goP [0] 2 rfl ?_
 refine W.go 99 rfl ?_
 refine W.pub 0 (.inr ⟨_, _, _, rfl⟩) rfl rfl ?_
 intro b hb _
 refine W.ret r rfl rfl ?_
 exact ⟨b, rfl, hb, rfl⟩
theorem cold_sp (L : LH) : Sp X 79 [] L (fun v L' => ∃ b, v = .slice (some ⟨b, 0, none⟩) 3 3 ∧ L b = none ∧ L' = L.put b (.cells #[.int .i64 0, .int .i64 0, .int .i64 0] 3)) := by
 refine Sp.enter (n := 2) Tryz.func79 rfl rfl rfl rfl fun C hX _ hL0 r => ?_
 refine W.goP [0] 2 rfl ?_
 refine W.go 99 rfl ?_
 refine W.pub 0 (.inr ⟨_, _, _, rfl⟩) rfl rfl ?_
 intro b hb _
 refine W.ret r rfl rfl ?_
 exact ⟨b, rfl, hb, rfl⟩
theorem both_sp (k d k2 d2 : Int) (L : LH) : Sp X 78 [.int .i64 k, .int .i64 d, .int .i64 k2, .int .i64 d2] L (fun v L' => ∃ b, v = .slice (some ⟨b, 0, none⟩) 2 2 ∧ L b = none ∧ L' = L.put b (.cells #[.int .i64 k, .int .i64 d, .int .i64 k2, .int .i64 d2] 30)) := by
 refine Sp.enter (n := 16) Tryz.func78 rfl rfl rfl rfl fun C hX _ hL0 r => ?_
 refine W.go 99 rfl ?_
 refine W.eff rfl rfl rfl (Ef.call rfl (at_sp _ _ _)) ?_
 rintro _ _ _ ⟨_, rfl, rfl, rfl, rfl⟩
 refine W.go 99 rfl ?_
 refine W.eff rfl rfl rfl (Ef.call rfl (at_sp _ _ _)) ?_
 rintro _ _ _ ⟨_, rfl, rfl, rfl, rfl⟩
 refine W.go 99 rfl ?_
 refine W.pub 15 (.inr ⟨_, _, _, rfl⟩) rfl rfl ?_
 intro b hb _
 refine W.ret r rfl rfl ?_
 exact ⟨b, rfl, hb, rfl⟩
end Go.Mz

