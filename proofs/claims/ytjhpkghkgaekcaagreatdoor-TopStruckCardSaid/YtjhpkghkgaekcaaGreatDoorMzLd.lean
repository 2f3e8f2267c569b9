/- Lemmas on which the claim leans. -/
import Derived.Test.YtjhpkghkgaekcaaGreatDoorMzLc
import Derived.Lib.Bytealg
set_option maxRecDepth 100000
namespace Go.Mz
open Go.Conc Go.Proofs
variable {X : Logic Tryz.prog}
def eCount : Array Value → Sem Value := Extern.BytealgCount.count
def eIdx : Array Value → Sem Value := Extern.BytealgIndexByte.indexByte
theorem extCount : Ext Tryz.prog 173 Tryz.f173 eCount := ⟨Tryz.func173, by kernel_rfl, rfl, by kernel_rfl, by kernel_rfl⟩
theorem extIdx : Ext Tryz.prog 261 Tryz.f261 eIdx := ⟨Tryz.func261, by kernel_rfl, rfl, by kernel_rfl, by kernel_rfl⟩
def cntB (l : List UInt8) (c : UInt8) : Nat := l.count c
abbrev idxB (l : List UInt8) (c : UInt8) : Int := Lib.indexByte l c
theorem u8_back (c : UInt8) : ((c.toNat : Int)).toNat.toUInt8 = c := by simp
theorem countS_t (l : List UInt8) (c : UInt8) (L : LH) : SpE Tryz.prog 173 [str l, byteV c] L (fun u L' => u = .int .i64 (cntB l c : Nat) ∧ L = L') :=
 SpE.pure extCount fun Q H R => by
  show wpS Tryz.prog Q H (pure (goInt ((ByteArray.mk ⟨l⟩).foldl (fun n x => if x == ((c.toNat : Int)).toNat.toUInt8 then n + 1 else n) (0 : Nat)))) R = _
  rw [Lib.foldl_data, wpS_pure, u8_back]
  have e : ∀ (l : List UInt8) (n : Int), l.foldl (fun (n : Int) x => if x == c then n + 1 else n) n = n + (cntB l c : Nat) := fun l n => Lib.count_foldl c l n
  have := e l 0
  rw [Int.zero_add] at this
  show Q (.int .i64 (l.foldl (fun (n : Int) x => if x == c then n + 1 else n) 0)) R = _
  rw [this]
theorem idxS_t (l : List UInt8) (c : UInt8) (L : LH) : SpE Tryz.prog 261 [str l, byteV c] L (fun u L' => u = .int .i64 (idxB l c) ∧ L = L') :=
 SpE.pure extIdx fun Q H R => by
  show wpS Tryz.prog Q H (match (List.range (ByteArray.mk ⟨l⟩).size).find? fun i => (ByteArray.mk ⟨l⟩)[i]! == ((c.toNat : Int)).toNat.toUInt8 with
   | some i => pure (goInt i)
   | none => pure (goInt (-1))) R = _
  rw [u8_back]
  have h := Lib.firstIdx_eq ⟨⟨l⟩⟩ c
  have hf : Lib.indexByte l c = firstIdx ⟨⟨l⟩⟩ c := h.symm
  unfold idxB
  rw [hf]
  unfold firstIdx
  cases (List.range (ByteArray.mk ⟨l⟩).size).find? fun i => (ByteArray.mk ⟨l⟩)[i]! == c <;> rfl
theorem CountOne_t (l : List UInt8) (k : UInt8) (L : LH) : Sp X 131 [str l, str [k]] L (fun v L' => v = .int .i64 (cntB l k : Nat) ∧ L = L') := by
 refine Sp.enter (n := 34) Tryz.func131 rfl rfl rfl rfl fun C hX _ hL0 r => ?_
 refine W.go 99 rfl ?_
 refine W.split rfl rfl rfl (fun h => absurd h (by simp)) (fun _ => W.go 99 rfl ?_)
 refine W.split rfl rfl rfl (fun _ => W.go 99 rfl ?_) (fun h => absurd h (by simp))
 refine W.vf rfl rfl rfl rfl (Vf.strAt rfl rfl rfl rfl rfl (show [k][0]? = some k from rfl)) ?_
 refine W.go 99 rfl ?_
 refine W.eff rfl rfl rfl (Ef.ext rfl (countS_t l k _)) ?_
 rintro _ _ _ ⟨_, rfl, rfl, rfl, rfl⟩
 refine W.go 99 rfl ?_
 exact W.ret r rfl rfl ⟨rfl, rfl⟩
theorem IndexByte_t (l : List UInt8) (k : UInt8) (L : LH) : Sp X 245 [str l, byteV k] L (fun v L' => v = .int .i64 (idxB l k) ∧ L = L') := by
 refine Sp.enter (n := 8) Tryz.func245 rfl rfl rfl rfl fun C hX _ hL0 r => ?_
 refine W.go 99 rfl ?_
 refine W.eff rfl rfl rfl (Ef.ext rfl (idxS_t l k _)) ?_
 rintro _ _ _ ⟨_, rfl, rfl, rfl, rfl⟩
 refine W.go 99 rfl ?_
 exact W.ret r rfl rfl ⟨rfl, rfl⟩
theorem IndexL_t (l : List UInt8) (k : UInt8) (L : LH) : Sp X 222 [str l, str [k]] L (fun v L' => v = .int .i64 (idxB l k) ∧ L = L') := by
 refine Sp.enter (n := 143) Tryz.func222 rfl rfl rfl rfl fun C hX _ hL0 r => ?_
 refine W.go 99 rfl ?_
 refine W.split rfl rfl rfl (fun h => absurd h (by simp)) (fun _ => W.go 99 rfl ?_)
 refine W.split rfl rfl rfl (fun c1 => ?_) (fun c1 => ?_)
 ·have e : l = [k] := by
   rw [eqB_eq] at c1
   have : [k] = l := by simpa using c1
   exact this.symm
  subst e
  refine W.go 99 rfl ?_
  exact W.ret r rfl rfl ⟨by simp [idxB, Lib.indexByte, retV], rfl⟩
 ·refine W.go 99 rfl ?_
  refine W.split rfl rfl rfl (fun _ => W.go 99 rfl ?_) (fun h => absurd h (by simp))
  refine W.vf rfl rfl rfl rfl (Vf.strAt rfl rfl rfl rfl rfl (show [k][0]? = some k from rfl)) ?_
  refine W.go 99 rfl ?_
  refine W.eff rfl rfl rfl (Ef.call rfl (IndexByte_t l k _)) ?_
  rintro _ _ _ ⟨_, rfl, rfl, rfl, rfl⟩
  refine W.go 99 rfl ?_
  exact W.ret r rfl rfl ⟨rfl, rfl⟩
theorem Index_t (l : List UInt8) (k : UInt8) (L : LH) : Sp X 174 [str l, str [k]] L (fun v L' => v = .int .i64 (idxB l k) ∧ L = L') := by
 refine Sp.enter (n := 8) Tryz.func174 rfl rfl rfl rfl fun C hX _ hL0 r => ?_
 refine W.go 99 rfl ?_
 refine W.eff rfl rfl rfl (Ef.call rfl (IndexL_t l k _)) ?_
 rintro _ _ _ ⟨_, rfl, rfl, rfl, rfl⟩
 refine W.go 99 rfl ?_
 exact W.ret r rfl rfl ⟨rfl, rfl⟩
end Go.Mz


set_option maxRecDepth 100000
namespace Go.Mz
open Go.Conc
section
variable {P : Program} [S : Seat P] {E : Look} {B : List (Option Bx)} {L : LH}
omit S in
theorem wpS_sliceBoundsS {lo hi : Option Value} {len cap i j : Nat} {Q : Nat × Nat × Nat → LH → Prop} {H : Value → LH → Prop} {R : LH} (h1 : (hi = none ∧ len = j) ∨ ∃ k, hi = some (.int k (j : Int))) (h2 : (lo = none ∧ i = 0) ∨ ∃ k, lo = some (.int k (i : Int))) (hij : i ≤ j) (hj : j ≤ cap) : wpS P Q H (Instr.sliceBounds true len cap lo hi none) R = Q (i, j, cap) R := by
 unfold Instr.sliceBounds
 rcases h1 with ⟨rfl, rfl⟩ | ⟨k1, rfl⟩ <;> rcases h2 with ⟨rfl, rfl⟩ | ⟨k2, rfl⟩
 ·simp only
  rw [wpS_bind, wpS_pure, wpS_bind, wpS_pure, wpS_bind, wpS_pure, wpS_pure]
 ·simp only
  rw [wpS_bind, wpS_pure, wpS_bind, wpS_pure, wpS_bind, wpS_sliceBound (by omega), Int.toNat_natCast, wpS_pure]
 ·simp only
  rw [wpS_bind, wpS_pure, wpS_bind, wpS_sliceBound (by omega), Int.toNat_natCast, wpS_bind, wpS_pure, wpS_pure]
 ·simp only
  rw [wpS_bind, wpS_pure, wpS_bind, wpS_sliceBound (by omega), Int.toNat_natCast, wpS_bind, wpS_sliceBound (by omega), Int.toNat_natCast, wpS_pure]
omit S in
theorem Vf.slice2 {t e : TypeId} {x : Operand} {lo hi : Option Operand} {oa : Option Addr} {len cap m i j : Nat} {i' j' : Int} (hx : evS E x = some (.v (.slice oa len cap))) (hu : P.underlying t = some (.slice e)) (hs : (P.info? e).map (·.size) = some m) (hlo : boE E lo 0 = some i') (hhi : boE E hi len = some j') (ei : i' = (i : Int)) (ej : j' = (j : Int)) (hij : i ≤ j) (hj : j ≤ cap) :
  Vf P (.slice t x lo hi none) E B L (.v (.slice (if cap = i then oa else oa.map fun a => a.add (i * m)) (j - i) (cap - i))) := fun T R β hE _ _ => by
 have ex := (Option.some.inj (hE.val hx)).symm
 subst ei ej
 refine ⟨_, rfl, fun ty dst pos af gd Q H hq => ?_⟩
 simp only [execOp, ex, Option.map_none]
 rw [wpS_bind]
 unfold Instr.sliceAt
 rw [wpS_bind, wpS_underlying hu]
 simp only
 unfold Instr.slice
 rw [wpS_bind, wpS_underlying hu]
 simp only
 rw [wpS_bind]
 have key : ∀ (o : Option Operand) (d j' : Int) (k : Nat), boE E o d = some j' → j' = (k : Int) → (o.map (ev T) = none ∧ d = k) ∨ ∃ kk, o.map (ev T) = some (.int kk (k : Int)) := by
  intro o d j' k h e
  subst e
  cases o with
  | none => exact .inl ⟨rfl, Option.some.inj h⟩
  | some z =>
   unfold boE at h
   simp only at h
   split at h
   ·rename_i kk q hz
    cases h
    exact .inr ⟨kk, by rw [Option.map_some, (Option.some.inj (hE.val hz)).symm]⟩
   ·cases h
 rw [wpS_sliceBoundsS (i := i) (j := j) ((key _ _ _ _ hhi rfl).imp (fun h => ⟨h.1, by omega⟩) id) ((key _ _ _ _ hlo rfl).imp (fun h => ⟨h.1, by omega⟩) id) hij hj]
 simp only
 rw [wpS_bind, wpS_sizeOf hs]
 exact hq
end
end Go.Mz


namespace Go.Mz
open Go.Conc
section
variable {P : Program} {C : Cx P} {E : Look} {B : List (Option Bx)} {L : LH} {dst : Option Tmp} {ty : TypeId} {pos : String} {af : Array Edge} {gd : Option (Nat × Bool)}
theorem Ef.makeSlice {t e : TypeId} {x : Operand} {n bts : Nat} {z : Value} (hx : evS E x = some (.v (.int .i64 n))) (hn : n ≤ 1000000) (hu : P.underlying t = some (.slice e)) (hk : (P.info? e).map (·.size) = some 1) (hbt : (P.info? e).map (·.bytes) = some bts) (hz : (P.info? e).bind (·.zero) = some z) (hb : bts ≤ 1024) (hzc : z.cells = #[z]) :
  Ef C ⟨dst, .makeSlice t x x, ty, pos, af, gd⟩ E B L (fun sv B' L' => ∃ b, sv = .v (.slice (some ⟨b, 0, none⟩) n n) ∧ B' = B ∧ L b = none ∧ L' = L.put b (.cells (Array.replicate n z) e)) := by
 intro T R β hE hH
 have ex : ev T x = .int .i64 n := (Option.some.inj (hE.val hx)).symm
 obtain ⟨inf, hinf, hib⟩ : ∃ inf, P.info? e = some inf ∧ inf.bytes = bts := by
  cases hx : P.info? e with
  | none => rw [hx] at hbt; cases hbt
  | some i => rw [hx] at hbt; cases hbt; exact ⟨i, rfl, rfl⟩
 have hw : IntKind.i64.wrap (n : Int) = n := wrap64_in _ (by omega) (by omega)
 refine ⟨rfl, ?_⟩
 simp only [execOp, ex]
 rw [wpS_bind]
 unfold Instr.makeSlice
 rw [wpS_bind, wpS_underlying hu]
 simp only
 rw [wpS_bind]
 show wpS P _ _ (asInt (.int .i64 n) >>= _) R
 rw [wpS_bind]
 show wpS P _ _ (typeInfo e >>= _) R
 rw [wpS_bind, wpS_typeInfo hinf]
 simp only [hw]
 have hmul : bts * n ≤ 1024 * 1000000 := Nat.mul_le_mul hb hn
 have h48 : (inf.bytes : Int) * (n : Int) ≤ 281474976710656 := by
  rw [hib]
  have : ((bts * n : Nat) : Int) ≤ 1024000000 := by omega
  rw [Int.natCast_mul] at this
  omega
 rw [if_neg (by simp [h48])]
 rw [wpS_bind]
 refine wpS_askRoom ?_
 rw [wpS_bind, wpS_sizeOf hk]
 simp only [Int.toNat_natCast, Nat.mul_one]
 have fin : ∀ c : Array Value, c = Array.replicate n z → ∀ b, R b = none → ∃ sv B' L', (∃ b, sv = .v (.slice (some ⟨b, 0, none⟩) n n) ∧ B' = B ∧ L b = none ∧ L' = L.put b (.cells (Array.replicate n z) e)) ∧ den β sv = some (.slice (some ⟨b, 0, none⟩) n n) ∧ HeapOk C.L0 C.R0 β B' L' (R.put b (.cells c e)) ∧ ∀ kk, β kk = none → B'[kk]? = B[kk]? := fun c hc b hb => by
  subst hc
  exact ⟨_, B, _, ⟨b, rfl, rfl, (hH.free hb).1, rfl⟩, rfl, hH.newF hb _, fun _ _ => rfl⟩
 by_cases h0 : n = 0
 ·subst h0
  rw [if_pos rfl, wpS_bind, wpS_pure, wpS_bind, wpS_newRow]
  intro b hb
  exact fin _ (by simp) b hb
 ·rw [if_neg h0, wpS_bind, wpS_zeroValue hz, wpS_bind, wpS_pure, wpS_bind, wpS_newRow]
  intro b hb
  refine fin _ ?_ b hb
  rw [hzc]
  ext i h1 h2
  ·simp
  ·simp [Nat.mod_one]
end
end Go.Mz


namespace Go.Mz
open Go
structure Gl where
 made : Int
 colour : Int
 fade : Spn
deriving DecidableEq
structure Sg where
 sample : Int
 glass : Int
 year : Int
 found : Int
deriving DecidableEq
structure Ro where
 glasses : List Gl
 steps : List Int
 duties : List Int
 samples : List Spn
 sights : List Sg
deriving DecidableEq
def glassE (g : Gl) : Int := if !inB g.made 0 60 || !inB g.colour 0 40 then 1 else spanE g.fade 3
def glassesE : List Gl → Int
 | [] => 0
 | g :: l => if glassE g ≠ 0 then glassE g else glassesE l
def stepsE : Option Int → List Int → Int
 | _, [] => 0
 | p, n :: l => if !inB n 1 40 then 1 else if (match p with | some q => decide (n ≤ q) | none => false) then 5 else stepsE (some n) l
def sightE (r : Ro) (s : Sg) : Int :=
 if !inB s.sample 0 ((r.samples.length : Int) - 1) || !inB s.glass 0 ((r.glasses.length : Int) - 1) then 3 else
 if !inB s.year 0 60 then 1 else
 if s.year < (r.glasses.getD s.glass.toNat ⟨0, 0, ⟨0, 0⟩⟩).made then 12 else
 if !inB s.found 0 2 then 8 else 0
def sightsE (r : Ro) : List Sg → Int
 | [] => 0
 | s :: l => if sightE r s ≠ 0 then sightE r s else sightsE r l
def rowE (r : Ro) : Int :=
 if sizedE r.glasses.length 1 4 ≠ 0 then sizedE r.glasses.length 1 4 else
 if glassesE r.glasses ≠ 0 then glassesE r.glasses else
 if sizedE r.steps.length 1 3 ≠ 0 then sizedE r.steps.length 1 3 else
 if stepsE none r.steps ≠ 0 then stepsE none r.steps else
 if r.duties.length ≠ r.steps.length + 1 then 9 else
 if !(r.duties.all fun n => inB n 0 99) then 1 else
 if spansE r.samples 2 40 ≠ 0 then spansE r.samples 2 40 else
 if 8 < r.sights.length then 6 else sightsE r r.sights
def colourR (r : Ro) (f : List Int) (glass : Nat) (year : Int) : Int :=
 let g := r.glasses.getD glass ⟨0, 0, ⟨0, 0⟩⟩
 max 0 (g.colour - f.getD glass 0 * (year - g.made))
def foundS (n glass : Int) : Spn := if n = 0 then ⟨glass + 1, 40⟩ else if n = 1 then ⟨glass, glass⟩ else ⟨0, glass - 1⟩
def groupR (r : Ro) (f : List Int) (ss : List Sg) : List Spn :=
 ss.foldl (fun g s => g.modify s.sample.toNat fun x => meetS x (foundS s.found (colourR r f s.glass.toNat s.year))) r.samples
def fadesL : List Gl → List (List Int)
 | [] => [[]]
 | g :: l => (fadesL l).flatMap fun t => (spanL g.fade).map (· :: t)
def knownR (r : Ro) (ss : List Sg) : List (List Int × List Spn) :=
 ((fadesL r.glasses).map fun f => (f, groupR r f ss)).filter fun x => decide (0 < sizeB x.2)
def amongR (r : Ro) (k : Nat) : Spn := ⟨if 0 < k then r.steps.getD (k - 1) 0 else 0, if k < r.steps.length then r.steps.getD k 0 - 1 else 40⟩
def truthsR (g : List Spn) (sample : Nat) (s : Spn) : Int := (sizeB g).tdiv (numS (g.getD sample ⟨0, 0⟩)) * numS (meetS (g.getD sample ⟨0, 0⟩) s)
def classedR (r : Ro) (sample k : Nat) : Int := sumL ((knownR r r.sights).map fun x => truthsR x.2 sample (amongR r k))
def classesR (r : Ro) (sample : Nat) : List Nat := (List.range r.duties.length).filter fun k => decide (0 < classedR r sample k)
def leastL : List Int → Int
 | [] => 0
 | x :: l => l.foldl min x
def mostL : List Int → Int
 | [] => 0
 | x :: l => l.foldl max x
def DutyE (r : Ro) (sample : Int) : Spn × Int :=
 if rowE r ≠ 0 then (⟨0, 0⟩, rowE r) else
 if !inB sample 0 ((r.samples.length : Int) - 1) then (⟨0, 0⟩, 3) else
 if knownR r r.sights = [] then (⟨0, 0⟩, 9) else
 let l := (classesR r sample.toNat).map fun k => r.duties.getD k 0
 (⟨leastL l, mostL l⟩, 0)
def rowK : Ro := ⟨[⟨0, 20, ⟨0, 1⟩⟩, ⟨0, 30, ⟨1, 2⟩⟩, ⟨5, 12, ⟨0, 0⟩⟩, ⟨5, 18, ⟨0, 0⟩⟩], [10, 18], [3, 5, 8], [⟨8, 24⟩, ⟨5, 15⟩], [⟨0, 0, 4, 2⟩, ⟨0, 2, 5, 0⟩]⟩
theorem rowK_ok : rowE rowK = 0 ∧ DutyE rowK 0 = (⟨5, 8⟩, 0) ∧ DutyE rowK 1 = (⟨3, 5⟩, 0) ∧ DutyE { rowK with sights := rowK.sights ++ [⟨0, 3, 5, 2⟩] } 0 = (⟨5, 5⟩, 0) := by decide +kernel
end Go.Mz


namespace Go.Mz
open Go
abbrev Bs := List UInt8
def splitB : Bs → List Bs
 | [] => [[]]
 | c :: l => match c == 32, splitB l with
  | true, r => [] :: r
  | false, w :: r => (c :: w) :: r
  | false, [] => [[c]]
def joinB : List Bs → Bs
 | [] => []
 | [w] => w
 | w :: l => w ++ 32 :: joinB l
def wordsB : List Bs := [[112, 114, 111, 111, 102], [115, 105, 103, 104, 116], [119, 97, 110, 116], [118, 111, 105, 100], [119, 104, 101, 110], [100, 117, 116, 121], [98, 101, 115, 116]]
def wordB (v : Nat) : Bs := wordsB.getD v []
def sizeV (v : Nat) : Nat := [3, 4, 4, 1, 1, 1, 0].getD v 0
def anyB : Bs := [97, 110, 121]
def okB : Bs := [111, 107]
def errB : Bs := [101, 114, 114, 111, 114]
def numB : Bs → Option Nat
 | [a] => if 48 ≤ a ∧ a ≤ 57 then some (a.toNat - 48) else none
 | [a, b] => if 49 ≤ a ∧ a ≤ 57 ∧ 48 ≤ b ∧ b ≤ 57 then some (10 * (a.toNat - 48) + (b.toNat - 48)) else none
 | _ => none
def argsB (v : Nat) : Nat → List Bs → Option (List Int)
 | _, [] => some []
 | i, w :: l =>
  match (if v = 2 ∧ i = 1 ∧ w = anyB then some (-1 : Int) else (numB w).map Int.ofNat), argsB v (i + 1) l with
  | some n, some r => some (n :: r)
  | _, _ => none
def parseB (l : Bs) : Option (Nat × List Int) :=
 match splitB l with
 | [] => none
 | w :: r => match wordsB.idxOf? w with
  | none => none
  | some v => if r.length ≠ sizeV v then none else (argsB v 0 r).map fun a => (v, a)
def itoaB (n : Nat) : Bs := (Nat.toDigits 10 n).map fun c => c.toNat.toUInt8
def intB (n : Int) : Bs := if n < 0 then 45 :: itoaB n.natAbs else itoaB n.toNat
def spacedB (l : List Int) : Bs := joinB (l.map intB)
def errorB (e : Int) : Bs := errB ++ 32 :: intB e
end Go.Mz


set_option maxRecDepth 100000
namespace Go.Mz
open Go.Conc Go.Proofs
variable {X : Logic Tryz.prog}
abbrev encS (w : Bs) : List Value := [str w]
theorem encS_len (w : Bs) : (encS w).length = 1 := rfl
theorem encS_sg (w : Bs) : ∀ u ∈ encS w, single u = true := fun u hu => by rw [List.mem_singleton.1 hu]; rfl
theorem encS_flat (l : List Bs) : l.flatMap encS = l.map str := by
 induction l with
 | nil => rfl
 | cons a l ih => rw [List.flatMap_cons, ih]; rfl
theorem idx_split : ∀ l : Bs, (idxB l 32 = -1 ∧ cntB l 32 = 0 ∧ splitB l = [l]) ∨ ∃ m : Nat, idxB l 32 = m ∧ m < l.length ∧ splitB l = l.take m :: splitB (l.drop (m + 1)) ∧ cntB l 32 = cntB (l.drop (m + 1)) 32 + 1
 | [] => .inl ⟨rfl, rfl, rfl⟩
 | c :: l => by
  by_cases hc : c = 32
  ·subst hc
   refine .inr ⟨0, rfl, by simp, ?_, ?_⟩
   ·rw [splitB]; rfl
   ·simp [cntB]
  ·have hcb : (c == 32) = false := by simpa using hc
   have hi : idxB (c :: l) 32 = if idxB l 32 == -1 then -1 else idxB l 32 + 1 := by
    show (if (c == 32) = true then _ else _) = _
    rw [hcb]; rfl
   have hn : cntB (c :: l) 32 = cntB l 32 := by unfold cntB; rw [List.count_cons, hcb]; rfl
   rcases idx_split l with ⟨h1, h2, h3⟩ | ⟨m, h1, h2, h3, h4⟩
   ·refine .inl ⟨by rw [hi, h1]; rfl, by rw [hn, h2], ?_⟩
    rw [splitB, hcb, h3]
   ·refine .inr ⟨m + 1, by rw [hi, h1, if_neg (by simp)]; omega, by simp; omega, ?_, by rw [hn, h4]; simp⟩
    rw [splitB, hcb, h3]
    simp [List.take_succ_cons]
theorem cnt_le (l : Bs) (c : UInt8) : cntB l c ≤ l.length := List.count_le_length
theorem set_mid {α : Type} (a b : List α) (x y : α) : (a ++ x :: b).set a.length y = a ++ y :: b := by simp
theorem putRow1 (c : List Value) (i : Nat) (v : Value) : putRow c.toArray i [v] = (c.set i v).toArray := by
 show c.toArray.setIfInBounds i v = _
 simp
theorem Split_t (l : Bs) (L : LH) (hn : l.length ≤ 1000) : Sp X 156 [str l, str [32], .int .i64 0, .int .i64 (-1)] L (fun v L' => ∃ b, L b = none ∧ Le L L' ∧ v = .slice (some ⟨b, 0, none⟩) (splitB l).length (splitB l).length ∧ SlAt L' (some ⟨b, 0, none⟩) 1 encS (splitB l)) := by
 have hcl := cnt_le l 32
 refine Sp.enter (n := 66) Tryz.func156 rfl rfl rfl rfl fun C hX _ hL0 r => ?_
 refine W.go 99 rfl ?_
 refine W.split rfl rfl rfl (fun h => absurd h (by simp)) (fun _ => W.go 99 rfl ?_)
 refine W.split rfl rfl rfl (fun c => absurd c (by decide)) (fun c => ?_)
 refine W.go 99 rfl ?_
 refine W.split rfl rfl rfl (fun _ => W.go 99 rfl ?_) (fun h => absurd h (by simp))
 refine W.eff rfl rfl rfl (Ef.call rfl (CountOne_t l 32 _)) ?_
 rintro _ _ _ ⟨_, rfl, rfl, rfl, rfl⟩
 refine W.go 99 rfl ?_
 have hm : (if IntKind.i64.wrap ((l.length : Int) + 1) < IntKind.i64.wrap ((cntB l 32 : Nat) + 1) then IntKind.i64.wrap ((l.length : Int) + 1) else IntKind.i64.wrap ((cntB l 32 : Nat) + 1)) = ((cntB l 32 + 1 : Nat) : Int) := by
  rw [wrap64_in _ (by omega) (by omega), wrap64_in _ (by omega) (by omega), if_neg (by omega)]; rfl
 rw [hm]
 refine W.eff rfl rfl rfl (Ef.makeSlice rfl (by omega) Tryz.underlying33 size9 bytes9 zero9 (by decide) rfl) ?_
 rintro _ _ _ ⟨bn, rfl, rfl, hbn, rfl⟩
 refine W.goP [] 99 rfl ?_
 have hc1 : IntKind.i64.wrap (((cntB l 32 + 1 : Nat) : Int) - 1) = (cntB l 32 : Nat) := by rw [wrap64_in _ (by omega) (by omega)]; omega
 rw [hc1]
 have hbL := put_same L bn (.cells (Array.replicate (cntB l 32 + 1) (str [])) 9)
 have e0 : (Array.replicate (cntB l 32 + 1) (str [])) = (List.replicate (cntB l 32 + 1) (str [])).toArray := by simp
 rw [e0] at hbL
 refine W.loop (fun m' E B L' => ∃ (i : Nat) (done : List Bs) (s : Bs), m' = cntB l 32 - i ∧ done.length = i ∧ splitB l = done ++ splitB s ∧ cntB s 32 + i = cntB l 32 ∧ s.length ≤ l.length ∧ Le L L' ∧
   L' bn = some (.cells (done.map str ++ List.replicate (cntB l 32 + 1 - i) (str [])).toArray 9 (0, 0), true) ∧
   E = [(0, .v (str s)), (1, .v (str [32])), (2, .v (.int .i64 0)), (3, .v (.int .i64 (cntB l 32 : Nat))), (9, .v (.slice (some ⟨bn, 0, none⟩) (cntB l 32 + 1) (cntB l 32 + 1))), (10, .v (.int .i64 i))] ∧ B = [])
  ⟨0, [], l, rfl, rfl, rfl, by omega, Nat.le_refl _, Le.put hbn _, hbL, rfl, rfl⟩ (by exact ⟨rfl, rfl, rfl, rfl, rfl, rfl, trivial⟩) trivial ?_
 rintro _ _ _ L1 ⟨i, done, s, rfl, hd, hsp, hcs, hsl, hl1, hb1, rfl, rfl⟩ again
 refine W.go 99 rfl ?_
 refine W.split rfl rfl rfl (fun d1 => W.go 99 rfl ?_) (fun d1 => W.go 99 rfl ?_)
 ·have hi : i < cntB l 32 := by simpa using d1
  rcases idx_split s with ⟨_, h2, _⟩ | ⟨m, h1, h2, h3, h4⟩
  ·omega
  refine W.eff rfl rfl rfl (Ef.call rfl (Index_t s 32 _)) ?_
  rintro _ _ _ ⟨_, rfl, rfl, rfl, rfl⟩
  rw [h1]
  refine W.go 99 rfl ?_
  refine W.split rfl rfl rfl (fun h => absurd h (by simp)) (fun _ => ?_)
  refine W.go 99 rfl ?_
  refine W.vf rfl rfl rfl rfl (Vf.strSl (i := 0) (j := m) rfl rfl rfl rfl rfl rfl (show IntKind.i64.wrap ((m : Int) + 0) = (m : Int) by rw [wrap64_in _ (by omega) (by omega)]; omega) (Nat.zero_le _) (by omega)) ?_
  rw [List.drop_zero, Nat.sub_zero]
  refine W.vf rfl rfl rfl rfl (Vf.idx1 rfl rfl rfl rfl rfl rfl rfl (show i < cntB l 32 + 1 by omega)) ?_
  refine W.eff0 rfl rfl (Ef.stoO (b := bn) (off := i) rfl ⟨_, rfl, rfl⟩ rfl (by rw [add_of, Nat.zero_add]) hb1 rfl (by show i + 1 ≤ _; rw [List.size_toArray, List.length_append, List.length_map, List.length_replicate]; omega) (encS_sg _)) ?_
  rintro _ _ _ ⟨rfl, rfl, rfl⟩
  refine W.go 99 rfl ?_
  have hput : putRow (done.map str ++ List.replicate (cntB l 32 + 1 - i) (str [])).toArray i [str (s.take m)] = ((done ++ [s.take m]).map str ++ List.replicate (cntB l 32 + 1 - (i + 1)) (str [])).toArray := by
   rw [putRow1, show cntB l 32 + 1 - i = (cntB l 32 + 1 - (i + 1)) + 1 by omega, List.replicate_succ]
   have : i = (done.map str).length := by rw [List.length_map, hd]
   conv => lhs; rw [this]
   rw [set_mid]
   simp [hd]
  refine W.vf rfl rfl rfl rfl (Vf.strSl (i := m + 1) (j := s.length) rfl rfl rfl rfl rfl (show IntKind.i64.wrap ((m : Int) + 1) = ((m + 1 : Nat) : Int) by rw [wrap64_in _ (by omega) (by omega)]; omega) rfl (by omega) (Nat.le_refl _)) ?_
  rw [List.take_of_length_le (by rw [List.length_drop]; omega)]
  refine W.go 99 rfl ?_
  exact W.again (again _ _ _ _ (by omega) ⟨i + 1, done ++ [s.take m], s.drop (m + 1), rfl, by simp [hd], by rw [hsp, h3]; simp, by omega, by rw [List.length_drop]; omega, le_put_none hl1 hbn _, by rw [put_same]; exact congrArg (fun c => some (Obj.cells c 9 (0, 0), true)) hput, rfl, rfl⟩) (by exact ⟨rfl, rfl, rfl, rfl, rfl, congrArg some (inc64 (by omega)), trivial⟩) trivial
 ·have hie : i = cntB l 32 := by simp at d1; omega
  have h0 : cntB s 32 = 0 := by omega
  have hs1 : splitB s = [s] := by
   rcases idx_split s with ⟨_, _, h3⟩ | ⟨m, _, _, _, h4⟩
   ·exact h3
   ·omega
  have hlen : (splitB l).length = cntB l 32 + 1 := by rw [hsp, hs1, List.length_append, hd]; simp [hie]
  clear again
  refine W.vf rfl rfl rfl rfl (Vf.idx1 rfl rfl rfl rfl rfl rfl rfl (show i < cntB l 32 + 1 by omega)) ?_
  refine W.eff0 rfl rfl (Ef.stoO (b := bn) (off := i) rfl ⟨_, rfl, rfl⟩ rfl (by rw [add_of, Nat.zero_add]) hb1 rfl (by show i + 1 ≤ _; rw [List.size_toArray, List.length_append, List.length_map, List.length_replicate]; omega) (encS_sg _)) ?_
  rintro _ _ _ ⟨rfl, rfl, rfl⟩
  refine W.go 99 rfl ?_
  have hput : putRow (done.map str ++ List.replicate (cntB l 32 + 1 - i) (str [])).toArray i [str s] = ((splitB l).map str).toArray := by
   rw [putRow1, show cntB l 32 + 1 - i = 0 + 1 by omega, List.replicate_succ]
   have : i = (done.map str).length := by rw [List.length_map, hd]
   conv => lhs; rw [this]
   rw [set_mid, hsp, hs1]
   simp
  have hj : IntKind.i64.wrap ((i : Int) + 1) = ((cntB l 32 + 1 : Nat) : Int) := by rw [hie, wrap64_in _ (by omega) (by omega)]; rfl
  refine W.vf rfl rfl rfl rfl (Vf.slice2 (i := 0) (j := cntB l 32 + 1) rfl Tryz.underlying33 size9 rfl rfl rfl hj (Nat.zero_le _) (Nat.le_refl _)) ?_
  rw [if_neg (by omega), Nat.sub_zero]
  rw [show Option.map (fun a : Addr => a.add (0 * 1)) (some ⟨bn, 0, none⟩) = some ⟨bn, 0, none⟩ from rfl]
  refine W.go 99 rfl ?_
  refine W.ret r rfl rfl ?_
  rw [hlen]
  refine ⟨bn, hbn, le_put_none hl1 hbn _, rfl, ?_⟩
  have hb2 : (L1.put bn (.cells (putRow (done.map str ++ List.replicate (cntB l 32 + 1 - i) (str [])).toArray i [str s]) 9)) bn = some (.cells ((splitB l).flatMap encS).toArray 9 (0, 0), true) := by
   rw [put_same, hput, encS_flat]
  exact sl_block encS_len hb2
theorem SplitS_t (l : Bs) (L : LH) (hn : l.length ≤ 1000) : Sp X 115 [str l, str [32]] L (fun v L' => ∃ b, L b = none ∧ Le L L' ∧ v = .slice (some ⟨b, 0, none⟩) (splitB l).length (splitB l).length ∧ SlAt L' (some ⟨b, 0, none⟩) 1 encS (splitB l)) := by
 refine Sp.enter (n := 8) Tryz.func115 rfl rfl rfl rfl fun C hX _ hL0 r => ?_
 refine W.go 99 rfl ?_
 refine W.eff rfl rfl rfl (Ef.call rfl (Split_t l _ hn)) ?_
 rintro _ _ _ ⟨_, rfl, rfl, b, hb, hle, rfl, hsl⟩
 refine W.go 99 rfl ?_
 refine W.ret r rfl rfl ?_
 exact ⟨b, hb, hle, rfl, hsl⟩
end Go.Mz


set_option maxRecDepth 100000
namespace Go.Mz
open Go.Conc Go.Proofs
variable {X : Logic Tryz.prog}
theorem i32_in (x : Int) (h1 : -2147483648 ≤ x) (h2 : x ≤ 2147483647) : IntKind.i32.wrap x = x := by
 unfold IntKind.wrap
 simp only [IntKind.bits, IntKind.signed]
 simp
 omega
theorem dig_of {a : UInt8} (h1 : 48 ≤ a) (h2 : a ≤ 57) : 48 ≤ a.toNat ∧ a.toNat ≤ 57 := ⟨UInt8.le_iff_toNat_le.1 h1, UInt8.le_iff_toNat_le.1 h2⟩
theorem number1_t (a : UInt8) (L : LH) (h1 : 48 ≤ a.toNat) (h2 : a.toNat ≤ 57) : Sp X 118 [str [a]] L (fun v L' => v = .int .i64 ((a.toNat : Int) - 48) ∧ Le L L') := by
 refine Sp.enter (n := 46) Tryz.func118 rfl rfl rfl rfl fun C hX _ hL0 r => ?_
 refine W.go 99 rfl ?_
 refine W.eff rfl rfl rfl (Ef.rangeT rfl rfl rfl) ?_
 rintro _ _ _ ⟨q, rfl, rfl, hq, rfl⟩
 refine W.go 99 rfl ?_
 refine W.loopI ?_
 refine W.go 99 rfl ?_
 refine W.eff rfl rfl rfl (Ef.nextT rfl (put_same _ _ _)) ?_
 rintro _ _ _ ⟨rfl, hcase⟩
 rcases hcase with ⟨_, rfl, rfl⟩ | ⟨hp, _, _⟩
 rotate_left
 ·exact absurd hp (by show ¬ (1 ≤ 0); omega)
 rw [decode_lo (show [a][0]? = some a from rfl) (by omega)]
 refine W.go 99 rfl ?_
 refine W.split rfl rfl rfl (fun _ => W.go 99 rfl ?_) (fun h => absurd h (by simp))
 refine W.split rfl rfl rfl (fun h => absurd h (by simp; omega)) (fun _ => ?_)
 refine W.go 99 rfl ?_
 refine W.split rfl rfl rfl (fun h => absurd h (by simp; omega)) (fun _ => ?_)
 refine W.go 99 rfl ?_
 refine W.split rfl rfl rfl (fun c => absurd c (by decide)) (fun c => ?_)
 refine W.go 99 rfl ?_
 refine W.split rfl rfl rfl (fun c => absurd c (by decide)) (fun c => ?_)
 refine W.go 99 rfl ?_
 refine W.split rfl rfl rfl (fun c => absurd c (by decide)) (fun c => ?_)
 refine W.go 99 rfl ?_
 refine W.split rfl rfl rfl (fun c0 => ?_) (fun c0 => ?_)
 ·refine W.go 99 rfl ?_
  have hx : IntKind.i64.wrap (IntKind.i64.wrap (10 * 0) + IntKind.i64.wrap (IntKind.i32.wrap (((a.toNat, 1).1 : Int) - 48))) = (a.toNat : Int) - 48 := by
   show IntKind.i64.wrap (IntKind.i64.wrap (10 * 0) + IntKind.i64.wrap (IntKind.i32.wrap ((a.toNat : Int) - 48))) = _
   rw [i32_in _ (by omega) (by omega), wrap64_in (10 * 0) (by omega) (by omega), wrap64_in ((a.toNat : Int) - 48) (by omega) (by omega), wrap64_in _ (by omega) (by omega)]
   omega
  refine W.inLoopI ?_
  refine W.go 99 rfl ?_
  refine W.eff rfl rfl rfl (Ef.nextT rfl (put_same _ _ _)) ?_
  rintro _ _ _ ⟨rfl, hcase⟩
  rcases hcase with ⟨hp, _, _⟩ | ⟨_, rfl, rfl⟩
  ·exact absurd hp (by show ¬ (0 + 1 < 1); omega)
  refine W.go 99 rfl ?_
  refine W.split rfl rfl rfl (fun c => absurd c (by decide)) (fun c => ?_)
  refine W.go 99 rfl ?_
  refine W.split rfl rfl rfl (fun c => absurd c (by decide)) (fun c => ?_)
  refine W.go 99 rfl ?_
  refine W.ret r rfl rfl ?_
  exact ⟨congrArg (Value.int .i64) hx, le_put_none (Le.put hq _) hq _⟩
 ·refine W.go 99 rfl ?_
  have hx : IntKind.i64.wrap (IntKind.i64.wrap (10 * 0) + IntKind.i64.wrap (IntKind.i32.wrap (((a.toNat, 1).1 : Int) - 48))) = (a.toNat : Int) - 48 := by
   show IntKind.i64.wrap (IntKind.i64.wrap (10 * 0) + IntKind.i64.wrap (IntKind.i32.wrap ((a.toNat : Int) - 48))) = _
   rw [i32_in _ (by omega) (by omega), wrap64_in (10 * 0) (by omega) (by omega), wrap64_in ((a.toNat : Int) - 48) (by omega) (by omega), wrap64_in _ (by omega) (by omega)]
   omega
  refine W.inLoopI ?_
  refine W.go 99 rfl ?_
  refine W.eff rfl rfl rfl (Ef.nextT rfl (put_same _ _ _)) ?_
  rintro _ _ _ ⟨rfl, hcase⟩
  rcases hcase with ⟨hp, _, _⟩ | ⟨_, rfl, rfl⟩
  ·exact absurd hp (by show ¬ (0 + 1 < 1); omega)
  refine W.go 99 rfl ?_
  refine W.split rfl rfl rfl (fun c => absurd c (by decide)) (fun c => ?_)
  refine W.go 99 rfl ?_
  refine W.split rfl rfl rfl (fun c => absurd c (by decide)) (fun c => ?_)
  refine W.go 99 rfl ?_
  refine W.ret r rfl rfl ?_
  exact ⟨congrArg (Value.int .i64) hx, le_put_none (Le.put hq _) hq _⟩
theorem number2_t (a b : UInt8) (L : LH) (h1 : 49 ≤ a.toNat) (h2 : a.toNat ≤ 57) (h3 : 48 ≤ b.toNat) (h4 : b.toNat ≤ 57) : Sp X 118 [str [a, b]] L (fun v L' => v = .int .i64 (10 * ((a.toNat : Int) - 48) + ((b.toNat : Int) - 48)) ∧ Le L L') := by
 refine Sp.enter (n := 46) Tryz.func118 rfl rfl rfl rfl fun C hX _ hL0 r => ?_
 refine W.go 99 rfl ?_
 refine W.eff rfl rfl rfl (Ef.rangeT rfl rfl rfl) ?_
 rintro _ _ _ ⟨q, rfl, rfl, hq, rfl⟩
 refine W.go 99 rfl ?_
 refine W.loopI ?_
 refine W.go 99 rfl ?_
 refine W.eff rfl rfl rfl (Ef.nextT rfl (put_same _ _ _)) ?_
 rintro _ _ _ ⟨rfl, hcase⟩
 rcases hcase with ⟨_, rfl, rfl⟩ | ⟨hp, _, _⟩
 rotate_left
 ·exact absurd hp (by show ¬ (2 ≤ 0); omega)
 rw [decode_lo (show [a, b][0]? = some a from rfl) (by omega)]
 refine W.go 99 rfl ?_
 refine W.split rfl rfl rfl (fun _ => W.go 99 rfl ?_) (fun h => absurd h (by simp))
 refine W.split rfl rfl rfl (fun h => absurd h (by simp; omega)) (fun _ => ?_)
 refine W.go 99 rfl ?_
 refine W.split rfl rfl rfl (fun h => absurd h (by simp; omega)) (fun _ => ?_)
 refine W.go 99 rfl ?_
 refine W.split rfl rfl rfl (fun c => absurd c (by decide)) (fun c => ?_)
 refine W.go 99 rfl ?_
 refine W.split rfl rfl rfl (fun c => absurd c (by decide)) (fun c => ?_)
 refine W.go 99 rfl ?_
 refine W.split rfl rfl rfl (fun c => absurd c (by decide)) (fun c => ?_)
 refine W.go 99 rfl ?_
 refine W.split rfl rfl rfl (fun h => absurd h (by simp; omega)) (fun _ => ?_)
 refine W.go 99 rfl ?_
 refine W.inLoopI ?_
 refine W.go 99 rfl ?_
 refine W.eff rfl rfl rfl (Ef.nextT rfl (put_same _ _ _)) ?_
 rintro _ _ _ ⟨rfl, hcase⟩
 rcases hcase with ⟨_, rfl, rfl⟩ | ⟨hp, _, _⟩
 rotate_left
 ·exact absurd hp (by show ¬ (2 ≤ 0 + 1); omega)
 rw [decode_lo (show [a, b][0 + 1]? = some b from rfl) (by omega)]
 refine W.go 99 rfl ?_
 refine W.split rfl rfl rfl (fun _ => W.go 99 rfl ?_) (fun h => absurd h (by simp))
 refine W.split rfl rfl rfl (fun h => absurd h (by simp; omega)) (fun _ => ?_)
 refine W.go 99 rfl ?_
 refine W.split rfl rfl rfl (fun h => absurd h (by simp; omega)) (fun _ => ?_)
 refine W.go 99 rfl ?_
 refine W.split rfl rfl rfl (fun c => absurd c (by decide)) (fun c => ?_)
 refine W.go 99 rfl ?_
 refine W.split rfl rfl rfl (fun c => absurd c (by decide)) (fun c => ?_)
 refine W.go 99 rfl ?_
 refine W.split rfl rfl rfl (fun c => ?_) (fun c => absurd c (by decide))
 refine W.go 99 rfl ?_
 refine W.inLoopI ?_
 refine W.go 99 rfl ?_
 refine W.eff rfl rfl rfl (Ef.nextT rfl (put_same _ _ _)) ?_
 rintro _ _ _ ⟨rfl, hcase⟩
 rcases hcase with ⟨hp, _, _⟩ | ⟨_, rfl, rfl⟩
 ·exact absurd hp (by show ¬ (0 + 1 + 1 < 2); omega)
 refine W.go 99 rfl ?_
 refine W.split rfl rfl rfl (fun c => absurd c (by decide)) (fun c => ?_)
 refine W.go 99 rfl ?_
 refine W.split rfl rfl rfl (fun c => absurd c (by decide)) (fun c => ?_)
 refine W.go 99 rfl ?_
 refine W.ret r rfl rfl ?_
 refine ⟨congrArg (Value.int .i64) ?_, le_put_none (le_put_none (Le.put hq _) hq _) hq _⟩
 show IntKind.i64.wrap (IntKind.i64.wrap (10 * IntKind.i64.wrap (IntKind.i64.wrap (10 * 0) + IntKind.i64.wrap (IntKind.i32.wrap ((a.toNat : Int) - 48)))) + IntKind.i64.wrap (IntKind.i32.wrap ((b.toNat : Int) - 48))) = _
 rw [i32_in ((a.toNat : Int) - 48) (by omega) (by omega), i32_in ((b.toNat : Int) - 48) (by omega) (by omega), wrap64_in (10 * 0) (by omega) (by omega), wrap64_in ((a.toNat : Int) - 48) (by omega) (by omega), wrap64_in ((b.toNat : Int) - 48) (by omega) (by omega), wrap64_in (10 * 0 + ((a.toNat : Int) - 48)) (by omega) (by omega), wrap64_in (10 * (10 * 0 + ((a.toNat : Int) - 48))) (by omega) (by omega), wrap64_in _ (by omega) (by omega)]
 omega
theorem number_t (l : Bs) (n : Nat) (L : LH) (h : numB l = some n) : Sp X 118 [str l] L (fun v L' => v = .int .i64 n ∧ Le L L') := by
 match l, h with
 | [], h => cases h
 | [a], h =>
  have h : (if 48 ≤ a ∧ a ≤ 57 then some (a.toNat - 48) else none) = some n := h
  by_cases c : 48 ≤ a ∧ a ≤ 57
  ·rw [if_pos c] at h
   obtain ⟨h1, h2⟩ := dig_of c.1 c.2
   refine (number1_t a L h1 h2).mono (fun v L' hq => ⟨?_, hq.2⟩) (fun _ _ h => h)
   rw [hq.1]
   cases h
   congr 1; omega
  ·rw [if_neg c] at h; cases h
 | [a, b], h =>
  have h : (if 49 ≤ a ∧ a ≤ 57 ∧ 48 ≤ b ∧ b ≤ 57 then some (10 * (a.toNat - 48) + (b.toNat - 48)) else none) = some n := h
  by_cases c : 49 ≤ a ∧ a ≤ 57 ∧ 48 ≤ b ∧ b ≤ 57
  ·rw [if_pos c] at h
   have h1 : 49 ≤ a.toNat := UInt8.le_iff_toNat_le.1 c.1
   have h2 : a.toNat ≤ 57 := UInt8.le_iff_toNat_le.1 c.2.1
   obtain ⟨h3, h4⟩ := dig_of c.2.2.1 c.2.2.2
   refine (number2_t a b L h1 h2 h3 h4).mono (fun v L' hq => ⟨?_, hq.2⟩) (fun _ _ h => h)
   rw [hq.1]
   cases h
   congr 1; omega
  ·rw [if_neg c] at h; cases h
 | _ :: _ :: _ :: _, h => cases h
theorem size_t (v : Nat) (L : LH) (hv : v < 7) : Sp X 117 [.int .i64 v] L (fun u L' => u = .int .i64 (sizeV v : Nat) ∧ L = L') := by
 have : v = 0 ∨ v = 1 ∨ v = 2 ∨ v = 3 ∨ v = 4 ∨ v = 5 ∨ v = 6 := by omega
 rcases this with rfl | rfl | rfl | rfl | rfl | rfl | rfl
 all_goals
  refine Sp.enter (n := 21) Tryz.func117 rfl rfl rfl rfl fun C hX _ hL0 r => ?_
  refine W.go 99 rfl ?_
  repeat (first | (refine W.split rfl rfl rfl (fun c => absurd c (by decide)) (fun _ => ?_); refine W.go 99 rfl ?_) | (refine W.split rfl rfl rfl (fun _ => ?_) (fun c => absurd c (by decide)); refine W.go 99 rfl ?_))
  exact W.ret r rfl rfl ⟨rfl, rfl⟩
theorem word_t (v : Nat) (L : LH) (hv : v < 7) : Sp X 116 [.int .i64 v] L (fun u L' => u = str (wordB v) ∧ L = L') := by
 have : v = 0 ∨ v = 1 ∨ v = 2 ∨ v = 3 ∨ v = 4 ∨ v = 5 ∨ v = 6 := by omega
 rcases this with rfl | rfl | rfl | rfl | rfl | rfl | rfl
 all_goals
  refine Sp.enter (n := 6) Tryz.func116 rfl rfl rfl rfl fun C hX _ hL0 r => ?_
  refine W.go 99 rfl ?_
  refine W.vf rfl rfl rfl rfl (Vf.index rfl rfl rfl Tryz.underlying289 size9 agg9 (by decide) rfl) ?_
  refine W.go 99 rfl ?_
  exact W.ret r rfl rfl ⟨rfl, rfl⟩
end Go.Mz


set_option maxRecDepth 100000
namespace Go.Mz
open Go.Conc
section
variable {P : Program} {C : Cx P} {n : Nat} {ds : List Deferred} {k : List Item} {E : Env} {B : List (Option Bx)} {L : LH} {ops : Array Oper} {i : Nat} {rest : List Nat}
theorem W.callVP {d : Nat} {g : FuncId} {x : Operand} {v1 v2 : List Value} {sv : SV} {args : List Value} {xs : Array Operand} {ts : Array TypeId} {ty : TypeId} {pos : String} {af : Array Edge} {gd : Option (Nat × Bool)} {Q : Value → LH → Prop} {H : List PanicEntry → LH → Prop} (ho : nth ops.toList i = some ⟨some d, .call { callee := .value x, args := xs, argTypes := ts }, ty, pos, af, gd⟩) (hg : guardOk (get E) ops.toList gd = some true) (hz : Nat.blt d n = true)
  (hv : evS (get E) x = some sv) (hd : den nm0 sv = some (.func (.func g) v1.toArray v2.toArray)) (ha : denA (get E) xs.toList = some args) (hs : Sp C.X g (v1 ++ args ++ v2) L Q H) (w : ∀ v L', Q v L' → W C n ds (.inRegion ops rest :: k) ((d, .v v) :: E) B L') (wp : ∀ ch L', H ch L' → WM C n ds (.panicking ch) E B L') : W C n ds (.inRegion ops (i :: rest) :: k) E B L := by
 refine W.oper ho hg rfl fun T R β hT hE hH => ?_
 have hx : xs.map (ev T) = args.toArray := by rw [← denA_ok hE ha, ← List.map_toArray]
 have hfv : ev T x = .func (.func g) v1.toArray v2.toArray := Option.some.inj ((hE.val hv).symm.trans (den_nil hd β))
 obtain ⟨⟨fn, h1, h2, h3⟩, hf⟩ := hs
 exact Cal.value h1 h2 h3 hfv hx (ws := (v1 ++ args ++ v2).toArray) (by simp) _ _ _ _ _ _ (hf R hH.le .normal _ _ (.inl rfl) (fun v R' ⟨L', h1, h2⟩ => W.fin_some ho rfl (lt_of_blt hz) hT hE (hH.call h2) rfl (w v L' h1)) (fun ch R' ⟨L', h1, h2⟩ => wp ch L' h1 T R' β _ hT hE (hH.call h2)))
theorem WM.ret1 {fn : Func} {Q : Value → LH → Prop} {H : List PanicEntry → LH → Prop} {va : Value} {a : Tmp} {ta : TypeId} {aa : Addr} (r : Rt C fn Q H) (hres : fn.results = #[.cell a ta]) (ea : get E a = some (.v (.pointer (some aa))))
  (ha : ∀ (R : LH) (Q : Value → LH → Prop) (H : Value → LH → Prop), Le L R → wpS P Q H (loadVar ta aa) R = Q va R) (hq : Q va L) : WM C n [] .returning E B L := by
 refine WM.retF r (fun T R β hE _ hL => ?_) hq
 have e1 : T.getD a undef = .pointer (some aa) := (Option.some.inj (hE _ _ ea)).symm
 unfold results
 rw [hres, wpS_bind, Array.mapM_eq_mapM_toList]
 simp only [List.mapM_cons, List.mapM_nil]
 rw [wpS_map, wpS_bind]
 simp only [e1]
 rw [wpS_bind, wpS_asAddr, ha _ _ _ hL]
 exact ⟨rfl, rfl⟩
theorem WM.ret3t {fn : Func} {Q : Value → LH → Prop} {H : List PanicEntry → LH → Prop} {va vb vc vd : Value} {a b c d : Tmp} {ta tb tc : TypeId} {aa ab ac : Addr} {sd : SV} (r : Rt C fn Q H) (hres : fn.results = #[.cell a ta, .cell b tb, .cell c tc, .tmp d]) (ea : get E a = some (.v (.pointer (some aa)))) (eb : get E b = some (.v (.pointer (some ab)))) (ec : get E c = some (.v (.pointer (some ac)))) (ed : get E d = some sd) (hd : den nm0 sd = some vd)
  (ha : ∀ (R : LH) (Q : Value → LH → Prop) (H : Value → LH → Prop), Le L R → wpS P Q H (loadVar ta aa) R = Q va R) (hb : ∀ (R : LH) (Q : Value → LH → Prop) (H : Value → LH → Prop), Le L R → wpS P Q H (loadVar tb ab) R = Q vb R) (hc : ∀ (R : LH) (Q : Value → LH → Prop) (H : Value → LH → Prop), Le L R → wpS P Q H (loadVar tc ac) R = Q vc R) (hq : Q (.tuple #[va, vb, vc, vd]) L) : WM C n [] .returning E B L := by
 refine WM.retF r (fun T R β hE _ hL => ?_) hq
 have e1 : T.getD a undef = .pointer (some aa) := (Option.some.inj (hE _ _ ea)).symm
 have e2 : T.getD b undef = .pointer (some ab) := (Option.some.inj (hE _ _ eb)).symm
 have e3 : T.getD c undef = .pointer (some ac) := (Option.some.inj (hE _ _ ec)).symm
 have e4 : T.getD d undef = vd := Option.some.inj ((hE _ _ ed).symm.trans (den_nil hd β))
 unfold results
 rw [hres, wpS_bind, Array.mapM_eq_mapM_toList]
 simp only [List.mapM_cons, List.mapM_nil]
 rw [wpS_map]
 simp only [wpS_bind, e1, e2, e3, e4, wpS_asAddr]
 rw [ha _ _ _ hL, hb _ _ _ hL, hc _ _ _ hL]
 exact ⟨rfl, rfl⟩
end
end Go.Mz


set_option maxRecDepth 100000
namespace Go.Mz
open Go.Conc Go.Proofs
variable {X : Logic Tryz.prog}
theorem str_at {L : LH} {a : Addr} {l : List Bs} {i : Nat} {w : Bs} (h : SlAt L (some a) 1 encS l) (hx : l[i]? = some w) : L.cell? (a.add i) = some (str w) := by
 have := h.get hx (j := 0) (v := str w) rfl
 simpa using this
theorem sl_tail {L : LH} {a : Addr} {cap : Nat} {w : Bs} {r : List Bs} (h : SlAt L (some a) 1 encS (w :: r)) (hc : r.length + 1 = cap) : SlAt L (if cap = 1 then some a else Option.map (fun a : Addr => a.add (1 * 1)) (some a)) 1 encS r := by
 by_cases e : cap = 1
 ·have : r = [] := List.eq_nil_of_length_eq_zero (by omega)
  subst this
  exact sl0'
 ·rw [if_neg e]
  intro i x hx
  refine ⟨a.add (1 * 1), rfl, fun j v hv => ?_⟩
  have := h.get (i := i + 1) (x := x) (by simpa using hx) hv
  have e2 : (a.add (1 * 1)).add (i * 1 + j) = a.add ((i + 1) * 1 + j) := by
   unfold Addr.add
   split <;> split <;> simp_all <;> omega
  rw [e2]; exact this
where
 sl0' {α : Type} {L : LH} {ad : Option Addr} {n : Nat} {enc : α → List Value} : SlAt L ad n enc [] := fun i z hz => by simp at hz
theorem argsB_len {v : Nat} : ∀ {i : Nat} {l : List Bs} {a : List Int}, argsB v i l = some a → a.length = l.length
 | _, [], a, h => by cases h; rfl
 | i, w :: l, a, h => by
  unfold argsB at h
  split at h
  ·rename_i n r _ h2
   cases h
   simp [argsB_len h2]
  ·cases h
theorem argsB_cons {v i : Nat} {w : Bs} {l : List Bs} {a : List Int} (h : argsB v i (w :: l) = some a) : ∃ n r, a = n :: r ∧ argsB v (i + 1) l = some r ∧ (if v = 2 ∧ i = 1 ∧ w = anyB then some (-1 : Int) else (numB w).map Int.ofNat) = some n := by
 unfold argsB at h
 split at h
 ·rename_i n r h1 h2
  cases h
  exact ⟨n, r, rfl, h2, h1⟩
 ·cases h
theorem words_ne : ∀ v : Fin 7, ∀ i : Fin 7, i.val < v.val → (eqB (wordB v.val) (wordB i.val)) = false := by decide
theorem parse_some {l : Bs} {v : Nat} {a : List Int} (h : parseB l = some (v, a)) : ∃ r, splitB l = wordB v :: r ∧ v < 7 ∧ r.length = sizeV v ∧ argsB v 0 r = some a := by
 unfold parseB at h
 split at h
 ·cases h
 ·rename_i w r hs
  split at h
  ·cases h
  ·rename_i v' hv
   split at h
   ·cases h
   ·rename_i hl
    obtain ⟨a', ha, he⟩ := Option.map_eq_some_iff.1 h
    cases he
    refine ⟨r, ?_, ?_, by simpa using hl, ha⟩
    ·have := List.findIdx?_eq_some_iff_getElem.1 hv
     obtain ⟨h1, h2, _⟩ := this
     have : wordsB[v] = w := by simpa using h2
     rw [hs]
     congr 1
     unfold wordB
     rw [List.getD_eq_getElem?_getD, List.getElem?_eq_getElem h1, Option.getD_some, this]
    ·have := List.findIdx?_eq_some_iff_getElem.1 hv
     obtain ⟨h1, _⟩ := this
     exact h1
def LineQ (v : Nat) (a : List Int) (L : LH) (u : Value) (L' : LH) : Prop := ∃ ad cap, u = .agg #[.int .i64 v, .slice ad a.length cap] ∧ Grow L 1 3 encI L' (.slice ad a.length cap) a
theorem Grow.over {α : Type} {I I0 L L' : LH} {k : Nat} {e : TypeId} {enc : α → List Value} {v : Value} {l : List α} (h : Grow I k e enc L v l) (h1 : Le I0 L') (hi : Le I0 I) (hk : ∀ b, I b = none → L' b = L b) : Grow I0 k e enc L' v l := by
 obtain ⟨_, ob, h2, h3⟩ := h
 exact ⟨h1, ob, h2.keep fun b hb => hk b (h3 b hb), fun b hb => none_of_le hi (h3 b hb)⟩
theorem parse_t (l : Bs) (v : Nat) (a : List Int) (L : LH) (hn : l.length ≤ 1000) (h : parseB l = some (v, a)) : Sp X 79 [str l] L (LineQ v a L) := by
 obtain ⟨r0, hsp, hv7, hrl, har⟩ := parse_some h
 have hal := argsB_len har
 have hs4 : sizeV v ≤ 4 := by
  have : v = 0 ∨ v = 1 ∨ v = 2 ∨ v = 3 ∨ v = 4 ∨ v = 5 ∨ v = 6 := by omega
  rcases this with rfl | rfl | rfl | rfl | rfl | rfl | rfl <;> decide
 refine Sp.enter (n := 64) Tryz.func79 rfl rfl rfl rfl fun C hX _ hL0 r => ?_
 refine W.go 99 rfl ?_
 refine W.eff rfl rfl rfl (Ef.call rfl (SplitS_t l _ hn)) ?_
 rintro _ _ _ ⟨_, rfl, rfl, bs, hbs, hle, rfl, hsl⟩
 rw [hsp] at hsl ⊢
 rename_i L1
 have hlen : (wordB v :: r0).length = sizeV v + 1 := by simp [hrl]
 generalize hN : (wordB v :: r0).length = N at *
 refine W.go 99 rfl ?_
 refine W.loop (fun m' E B L' => ∃ i : Nat, m' = v - i ∧ i ≤ v ∧ Le L1 L' ∧ E = [(2, .p 0 0), (3, .v (.slice (some ⟨bs, 0, none⟩) N N)), (10, .v (.int .i64 i))] ∧ B = [some ⟨ti38.z.cells.toList.map .v, 38⟩])
  ⟨0, rfl, Nat.zero_le _, Le.refl _, rfl, rfl⟩ (by exact ⟨rfl, rfl, rfl, trivial⟩) (by exact ⟨rfl, trivial⟩) ?_
 rintro _ _ _ L2 ⟨i, rfl, hi, hl2, rfl, rfl⟩ again
 refine W.go 99 rfl ?_
 refine W.split rfl rfl rfl (fun _ => ?_) (fun h => absurd h (by simp; omega))
 refine W.go 99 rfl ?_
 refine W.drawn (by kernel_rfl) _ (Le.refl _) ?_
 refine DD.run' [0, 3] rfl ?_
 refine DD.vf 1 rfl rfl rfl rfl rfl (Vf.idx1 rfl rfl rfl rfl rfl rfl rfl ((show 0 < N by omega))) ?_
 refine DD.vf 2 rfl rfl rfl rfl rfl (Vf.load rfl rfl rfl (str_at (hsl.le hl2) (show (wordB v :: r0)[0]? = some (wordB v) from rfl))) ?_
 refine DD.act 4 rfl rfl rfl rfl rfl (Ef.call rfl (word_t i _ (by omega))) (by rintro _ _ _ ⟨_, rfl, rfl, rfl, rfl⟩; exact ⟨Le.refl _, rfl, .inl rfl⟩) ?_
 rintro _ _ _ ⟨_, rfl, rfl, rfl, rfl⟩
 refine DD.run' [5] rfl ?_
 refine .fin rfl ?_
 refine W.go 99 rfl ?_
 rcases Nat.lt_or_eq_of_le hi with hlt | rfl
 ·have hne := words_ne ⟨v, hv7⟩ ⟨i, by omega⟩ hlt
  refine W.split rfl rfl rfl (fun _ => ?_) (fun h => absurd h (by simp only [hne]; decide))
  refine W.go 99 rfl ?_
  exact W.again (again _ _ _ _ (by omega) ⟨i + 1, rfl, hlt, hl2, rfl, rfl⟩) ⟨rfl, rfl, congrArg some (inc64 (by omega)), trivial⟩ ⟨rfl, trivial⟩
 ·have heq : eqB (wordB i) (wordB i) = true := by rw [eqB_eq]; simp
  refine W.split rfl rfl rfl (fun h => absurd h (by simp only [heq]; decide)) (fun _ => ?_)
  refine W.go 99 rfl ?_
  refine W.eff rfl rfl rfl (Ef.call rfl (size_t i _ hv7)) ?_
  rintro _ _ _ ⟨_, rfl, rfl, rfl, rfl⟩
  refine W.go 99 rfl ?_
  have hw : IntKind.i64.wrap ((sizeV i : Int) + 1) = (sizeV i : Int) + 1 := wrap64_in _ (by omega) (by omega)
  refine W.split rfl rfl rfl (fun h => absurd h (by rw [hw]; simp; omega)) (fun _ => ?_)
  refine W.go 99 rfl ?_
  refine W.vf rfl rfl rfl rfl (Vf.slice2 (i := 1) (j := N) rfl Tryz.underlying33 size9 rfl rfl rfl rfl (by omega) (Nat.le_refl _)) ?_
  have hst := sl_tail (cap := N) (hsl.le hl2) (by omega)
  have hN1 : N - 1 = r0.length := by omega
  rw [hN1]
  generalize (if N = 1 then some (⟨bs, 0, none⟩ : Addr) else Option.map (fun a : Addr => a.add (1 * 1)) (some ⟨bs, 0, none⟩)) = ta at hst ⊢
  clear again
  refine W.go 99 rfl ?_
  have h0L : Le L L2 := hle.trans hl2
  refine W.loop (fun m' E B L' => ∃ (j : Nat) (ad : Option Addr) (cap : Nat), m' = r0.length - j ∧ j ≤ r0.length ∧ argsB i j (r0.drop j) = some (a.drop j) ∧ Grow L2 1 3 encI L' (.slice ad j cap) (a.take j) ∧
    E = [(2, .p 0 0), (4, .v (.int .i64 i)), (5, .p 1 0), (30, .v (.slice ta r0.length r0.length)), (31, .v (.int .i64 r0.length)), (32, .v (.int .i64 j))] ∧ B = [some ⟨ti38.z.cells.toList.map .v, 38⟩, some ⟨[.v (.int .i64 i), .v (.slice ad j cap)], 38⟩])
   ⟨0, none, 0, rfl, Nat.zero_le _, har, Grow.nil (Le.refl _), rfl, rfl⟩ (by exact ⟨rfl, rfl, rfl, rfl, rfl, rfl, trivial⟩) (by exact ⟨rfl, rfl, trivial⟩) ?_
  rintro _ _ _ L3 ⟨j, ad, cap, rfl, hj, hargs, hg, rfl, rfl⟩ again
  refine W.go 99 rfl ?_
  refine W.split rfl rfl rfl (fun d1 => W.go 99 rfl ?_) (fun d1 => W.go 99 rfl ?_)
  ·have hj : j < r0.length := by simpa using d1
   have hd := List.drop_eq_getElem_cons hj
   have hwj := List.getElem?_eq_getElem hj
   have hja : j < a.length := by omega
   have haj := List.getElem?_eq_getElem hja
   rw [hd, List.drop_eq_getElem_cons hja] at hargs
   obtain ⟨n, r', e1, hargs2, hn⟩ := argsB_cons hargs
   obtain ⟨rfl, rfl⟩ := List.cons.inj e1
   have htk : a.take (j + 1) = a.take j ++ [a[j]] := List.take_succ_eq_append_getElem hja
   have hgl : (a.take j).length = j := by rw [List.length_take]; omega
   generalize hww : r0[j] = w at hwj hn
   generalize haa : a[j] = n at htk hn
   obtain ⟨at', rfl⟩ := hst.addr hj
   refine W.vf rfl rfl rfl rfl (Vf.idx1 rfl rfl rfl rfl rfl rfl rfl (hj)) ?_
   refine W.go 99 rfl ?_
   refine W.vf rfl rfl rfl rfl (Vf.load rfl rfl rfl (str_at (hst.le hg.1) hwj)) ?_
   refine W.go 99 rfl ?_
   refine W.cut2 (fun E B L' => ((numB w).map Int.ofNat = some n) ∧ SubE E [(2, .p 0 0), (4, .v (.int .i64 i)), (5, .p 1 0), (7, .v (str w)), (30, .v (.slice (some at') r0.length r0.length)), (31, .v (.int .i64 r0.length)), (32, .v (.int .i64 j))] ∧ PreB B [some ⟨ti38.z.cells.toList.map .v, 38⟩, some ⟨[.v (.int .i64 i), .v (.slice ad j cap)], 38⟩] ∧ L3 = L') ?_ ?_
   ·rintro E B _ ⟨hnum, hE, hB, rfl⟩
    obtain ⟨m, hm, rfl⟩ := Option.map_eq_some_iff.1 hnum
    refine W.weak hE hB ?_
    refine W.drawn (by kernel_rfl) noL (noL_le _) ?_
    refine DD.run' [0, 1, 2] rfl ?_
    refine DD.act 3 rfl rfl rfl rfl rfl (Ef.call rfl (number_t w m _ hm)) (by rintro _ _ _ ⟨_, rfl, rfl, _⟩; exact ⟨noL_le _, rfl, .inl rfl⟩) ?_
    rintro _ _ _ ⟨_, rfl, rfl, rfl, hle4⟩
    refine DD.run' [4] rfl ?_
    rename_i L4
    have hg4 := hg.le hle4
    refine DD.act 5 rfl rfl rfl rfl rfl (Ef.grow rfl rfl rfl rfl rfl rfl rfl rfl rfl encI_len encI_sg hg4 (ls := [(m : Int)]) (.own rfl rfl rfl rfl) (by rw [hgl, List.length_singleton]; omega)) ((by rintro _ _ _ ⟨_, rfl, rfl, _, _⟩; exact ⟨noL_le _, rfl, .inl rfl⟩)) ?_
    rintro _ _ _ ⟨v1, rfl, rfl, hg1, _⟩
    rw [show a.take j ++ [(m : Int)] = a.take (j + 1) from htk.symm] at hg1
    obtain ⟨ad1, cap1, rfl, _⟩ := hg1.slice
    rw [show (a.take (j + 1)).length = j + 1 by rw [List.length_take]; omega] at hg1 ⊢
    refine DD.run' [6] rfl ?_
    refine DD.act 7 rfl rfl rfl rfl rfl (Ef.sto rfl) (by rintro _ _ _ ⟨rfl, rfl, rfl⟩; exact ⟨noL_le _, rfl, .inr rfl⟩) ?_
    rintro _ _ _ ⟨rfl, rfl, rfl⟩
    refine .fin rfl ?_
    refine W.go 99 rfl ?_
    exact W.again (again _ _ _ _ (by omega) ⟨j + 1, ad1, cap1, rfl, by omega, hargs2, (by first | exact hg1 | exact (hg1 : Grow _ _ _ _ _ _ _)), rfl, rfl⟩) (by exact ⟨rfl, rfl, rfl, rfl, rfl, congrArg some (inc64 (by omega)), trivial⟩) (by exact ⟨rfl, rfl, trivial⟩)
   ·intro rest
    refine W.split rfl rfl rfl (fun c1 => ?_) (fun c1 => ?_)
    ·have hi2 : i = 2 := by simp at c1; omega
     refine W.go 99 rfl ?_
     refine W.split rfl rfl rfl (fun c2 => ?_) (fun c2 => ?_)
     ·have hj1 : j = 1 := by simp at c2; omega
      refine W.go 99 rfl ?_
      refine W.split rfl rfl rfl (fun c3 => ?_) (fun c3 => ?_)
      ·have hw : w = anyB := by rw [eqB_eq] at c3; exact eq_of_beq c3
       rw [if_pos ⟨hi2, hj1, hw⟩] at hn
       cases hn
       refine W.go 99 rfl ?_
       refine W.eff rfl rfl rfl (Ef.grow rfl rfl rfl rfl rfl rfl rfl rfl rfl encI_len encI_sg hg (ls := [(-1 : Int)]) (.own rfl rfl rfl rfl) ((by rw [hgl, List.length_singleton]; omega))) ?_
       rintro _ _ _ ⟨v1, rfl, rfl, hg1, _⟩
       rw [← htk] at hg1
       obtain ⟨ad1, cap1, rfl, _⟩ := hg1.slice
       rw [show (a.take (j + 1)).length = j + 1 by rw [List.length_take]; omega] at hg1 ⊢
       refine W.go 99 rfl ?_
       exact W.again (again _ _ _ _ (by omega) ⟨j + 1, ad1, cap1, rfl, by omega, hargs2, hg1, rfl, rfl⟩) (by exact ⟨rfl, rfl, rfl, rfl, rfl, congrArg some (inc64 (by omega)), trivial⟩) (by exact ⟨rfl, rfl, trivial⟩)
      ·have hw : ¬ (i = 2 ∧ j = 1 ∧ w = anyB) := fun h => by
        rw [eqB_eq, h.2.2] at c3
        simp [anyB] at c3
       rw [if_neg hw] at hn
       refine W.go 2 rfl ?_
       exact rest _ _ _ ⟨hn, (by exact ⟨rfl, rfl, rfl, rfl, rfl, rfl, rfl, trivial⟩), (by exact ⟨rfl, rfl, trivial⟩), rfl⟩
     ·have hw : ¬ (i = 2 ∧ j = 1 ∧ w = anyB) := fun h => by simp at c2; omega
      rw [if_neg hw] at hn
      refine W.go 6 rfl ?_
      exact rest _ _ _ ⟨hn, (by exact ⟨rfl, rfl, rfl, rfl, rfl, rfl, rfl, trivial⟩), (by exact ⟨rfl, rfl, trivial⟩), rfl⟩
    ·have hw : ¬ (i = 2 ∧ j = 1 ∧ w = anyB) := fun h => by simp at c1; omega
     rw [if_neg hw] at hn
     refine W.go 10 rfl ?_
     exact rest _ _ _ ⟨hn, (by exact ⟨rfl, rfl, rfl, rfl, rfl, rfl, rfl, trivial⟩), (by exact ⟨rfl, rfl, trivial⟩), rfl⟩
  ·have hje : j = r0.length := by simp at d1; omega
   subst hje
   rw [List.take_of_length_le (by omega)] at hg
   refine W.ret r rfl rfl ?_
   rw [← hal] at hg ⊢
   exact ⟨ad, cap, rfl, hg.over (h0L.trans hg.1) h0L fun _ _ => rfl⟩
end Go.Mz


set_option maxRecDepth 100000
namespace Go.Mz
open Go.Conc Go.Proofs
variable {X : Logic Tryz.prog}
theorem calm_p (b1 b2 : Nat) (L : LH) : SpD X 78 [pt b1, pt b2] .returning L (fun md L' => md = .returning ∧ L' = L) := by
 refine SpD.enter (n := 11) Tryz.func78 rfl rfl rfl rfl fun C hX _ hL0 r => ?_
 refine W.go 99 rfl ?_
 refine W.recoverN r rfl rfl rfl ?_
 refine W.go 99 rfl ?_
 refine W.split rfl rfl rfl (fun h => absurd h (by simp)) (fun _ => W.go 99 rfl ?_)
 exact W.retD r rfl (.inl rfl) ⟨rfl, rfl⟩
def ParseQ (v : Nat) (a : List Int) (L : LH) (u : Value) (L' : LH) : Prop := ∃ ad cap, u = .tuple #[.agg #[.int .i64 v, .slice ad a.length cap], .int .i64 0] ∧ Grow L 1 3 encI L' (.slice ad a.length cap) a
theorem Parse_t (l : Bs) (v : Nat) (a : List Int) (L : LH) (hn : l.length ≤ 1000) (h : parseB l = some (v, a)) : Sp X 36 [str l] L (ParseQ v a L) := by
 refine Sp.enter (n := 7) Tryz.func36 rfl rfl rfl rfl fun C hX _ hL0 r => ?_
 refine W.go 99 rfl ?_
 refine W.pub 2 (.inl ⟨_, rfl⟩) rfl rfl ?_
 intro b1 hb1 _
 refine W.pub 3 (.inl ⟨_, rfl⟩) rfl rfl ?_
 intro b2 hb2 _
 refine W.go 99 rfl ?_
 have hb21 : b2 ≠ b1 := fun e => by rw [e, put_same] at hb2; cases hb2
 have hb2L : L b2 = none := by rw [put_ne _ _ hb21] at hb2; exact hb2
 have hq1 : ((L.put b1 (.cells #[.int .i64 0, .slice none 0 0] 38)).put b2 (.cells #[.int .i64 0] 39)) b1 = some (.cells #[.int .i64 0, .slice none 0 0] 38 (0, 0), true) := by rw [put_ne _ _ hb21.symm, put_same]
 have hq2 := put_same (L.put b1 (.cells #[.int .i64 0, .slice none 0 0] 38)) b2 (.cells #[.int .i64 0] 39)
 have hle : Le L ((L.put b1 (.cells #[.int .i64 0, .slice none 0 0] 38)).put b2 (.cells #[.int .i64 0] 39)) := le_put_none (Le.put hb1 _) hb2L _
 change W C _ _ _ _ _ ((L.put b1 (.cells #[.int .i64 0, .slice none 0 0] 38)).put b2 (.cells #[.int .i64 0] 39))
 generalize ((L.put b1 (.cells #[.int .i64 0, .slice none 0 0] 38)).put b2 (.cells #[.int .i64 0] 39)) = L1 at hq1 hq2 hle ⊢
 refine W.deferV r.ro rfl rfl rfl rfl ?_
 refine W.go 99 rfl ?_
 refine W.eff rfl rfl rfl (Ef.call rfl (parse_t l v a _ hn h)) ?_
 rintro _ _ _ ⟨_, rfl, rfl, ad, cap, rfl, hg⟩
 have hle2 := hg.1
 refine W.go 99 rfl ?_
 refine W.eff0 rfl rfl (Ef.stoF rfl ⟨_, rfl, rfl⟩ rfl (hle2 _ _ hq1) rfl (Nat.le_refl _) (by intro u hu; rcases (by simpa using (show u ∈ [Value.int .i64 v, .slice ad a.length cap] from hu) : u = .int .i64 v ∨ u = .slice ad a.length cap) with rfl | rfl <;> rfl)) ?_
 rintro _ _ _ ⟨rfl, rfl, rfl⟩
 refine W.go 99 rfl ?_
 refine W.eff0 rfl rfl (Ef.stoF rfl ⟨_, rfl, rfl⟩ rfl ((put_ne _ _ hb21).trans (hle2 _ _ hq2)) rfl (Nat.le_refl _) (singles rfl)) ?_
 rintro _ _ _ ⟨rfl, rfl, rfl⟩
 refine W.go 99 rfl ?_
 refine W.out r.ro (.inr .ret) ?_
 refine WM.deferred rfl rfl (calm_p b1 b2 _) ?_
 rintro _ _ ⟨rfl, rfl⟩
 refine WM.ret2 r rfl rfl rfl (loadNF rfl rfl (cellsAt_n (vs := [.int .i64 v, .slice ad a.length cap]) ((put_ne _ _ hb21.symm).trans (put_same _ _ _)) rfl)) (load1F rfl (cell_of (put_same _ _ _) rfl)) ?_
 refine ⟨ad, cap, rfl, hg.over (le_put_none (le_put_none (hle.trans hle2) hb1 _) hb2L _) hle fun b hb => ?_⟩
 have e1 : b ≠ b1 := fun e => by rw [e, hq1] at hb; cases hb
 have e2 : b ≠ b2 := fun e => by rw [e, hq2] at hb; cases hb
 exact (put_ne _ _ e2).trans (put_ne _ _ e1)
end Go.Mz


set_option maxRecDepth 100000
namespace Go.Mz
open Go.Conc Go.Proofs
variable {X : Logic Tryz.prog}
theorem Replace_t (l : Bs) (L : LH) (h : cntB l 63 = 0) : Sp X 171 [str l, str [63], str [49], .int .i64 (-1)] L (fun v L' => v = str l ∧ L = L') := by
 refine Sp.enter (n := 104) Tryz.func171 rfl rfl rfl rfl fun C hX _ hL0 r => ?_
 refine W.go 99 rfl ?_
 refine W.split rfl rfl rfl (fun c => absurd c (by decide)) (fun c => ?_)
 refine W.go 99 rfl ?_
 refine W.split rfl rfl rfl (fun c => absurd c (by decide)) (fun c => ?_)
 refine W.go 99 rfl ?_
 refine W.eff rfl rfl rfl (Ef.call rfl (CountOne_t l 63 _)) ?_
 rintro _ _ _ ⟨_, rfl, rfl, rfl, rfl⟩
 rw [h]
 refine W.go 99 rfl ?_
 refine W.split rfl rfl rfl (fun c => ?_) (fun c => absurd c (by decide))
 refine W.go 99 rfl ?_
 exact W.ret r rfl rfl ⟨rfl, rfl⟩
theorem ReplaceAll_t (l : Bs) (L : LH) (h : cntB l 63 = 0) : Sp X 130 [str l, str [63], str [49]] L (fun v L' => v = str l ∧ L = L') := by
 refine Sp.enter (n := 11) Tryz.func130 rfl rfl rfl rfl fun C hX _ hL0 r => ?_
 refine W.go 99 rfl ?_
 refine W.eff rfl rfl rfl (Ef.call rfl (Replace_t l _ h)) ?_
 rintro _ _ _ ⟨_, rfl, rfl, rfl, rfl⟩
 refine W.go 99 rfl ?_
 exact W.ret r rfl rfl ⟨rfl, rfl⟩
theorem torn_t (ad : Option Addr) (cap : Nat) (l : List Bs) (L : LH) (hl : SlAt L ad 1 encS l) (hn : l.length ≤ 1000) (h : ∀ x ∈ l, cntB x 63 = 0) : Sp X 93 [.slice ad l.length cap] L (fun v L' => v = .int .i64 0 ∧ L = L') := by
 refine Sp.enter (n := 18) Tryz.func93 rfl rfl rfl rfl fun C hX _ hL0 r => ?_
 refine W.go 99 rfl ?_
 refine W.loop (fun m' E B L' => ∃ i : Nat, m' = l.length - i ∧ i ≤ l.length ∧ L = L' ∧ E = [(3, .v (.int .i64 0)), (6, .v (.slice ad l.length cap)), (7, .v (.int .i64 l.length)), (8, .v (.int .i64 i))] ∧ B = [])
  ⟨0, rfl, Nat.zero_le _, rfl, rfl, rfl⟩ (by exact ⟨rfl, rfl, rfl, rfl, trivial⟩) (by exact trivial) ?_
 rintro _ _ _ _ ⟨i, rfl, hi, rfl, rfl, rfl⟩ again
 refine W.go 99 rfl ?_
 refine W.split rfl rfl rfl (fun c1 => W.go 99 rfl ?_) (fun c1 => W.go 99 rfl ?_)
 ·have hi : i < l.length := by simpa using c1
  obtain ⟨a, rfl⟩ := hl.addr hi
  refine W.vf rfl rfl rfl rfl (Vf.idx1 rfl rfl rfl rfl rfl rfl rfl (hi)) ?_
  refine W.go 99 rfl ?_
  refine W.vf rfl rfl rfl rfl (Vf.load rfl rfl rfl (str_at hl (List.getElem?_eq_getElem hi))) ?_
  refine W.go 99 rfl ?_
  refine W.eff rfl rfl rfl (Ef.call rfl (CountOne_t _ 63 _)) ?_
  rintro _ _ _ ⟨_, rfl, rfl, rfl, rfl⟩
  rw [h _ (List.getElem_mem hi)]
  refine W.go 99 rfl ?_
  exact W.again (again _ _ _ _ (by omega) ⟨i + 1, rfl, hi, rfl, rfl, rfl⟩) ⟨rfl, rfl, rfl, congrArg some (inc64 (by omega)), trivial⟩ trivial
 ·exact W.ret r rfl rfl ⟨rfl, rfl⟩
end Go.Mz


set_option maxRecDepth 100000
namespace Go.Mz
open Go.Conc Go.Proofs
variable {X : Logic Tryz.prog}
theorem Check_t (b : Bl) (p : BP) (L : LH) (h : BlAt L b p) : Sp X 125 [blA b p] L (fun v L' => v = .int .i64 (boilE b) ∧ L = L') := by
 have n0 := h.n0
 have n1 := h.n1
 have n4 := h.n4
 refine Sp.enter (n := 65) Tryz.func125 rfl rfl rfl rfl fun C hX _ hL0 r => ?_
 refine W.go 99 rfl ?_
 refine W.eff rfl rfl rfl (Ef.call rfl (checkSpans_t _ _ _ _ _ _ h.h0 h.n0)) ?_
 rintro _ _ _ ⟨_, rfl, rfl, rfl, rfl⟩
 refine W.go 99 rfl ?_
 refine W.split rfl rfl rfl (fun c1 => ?_) (fun c1 => ?_)
 ·refine W.go 99 rfl ?_
  exact W.ret r rfl rfl ⟨by unfold boilE; rw [if_pos (by simpa using c1)]; rfl, rfl⟩
 refine W.go 99 rfl ?_
 refine W.split rfl rfl rfl (fun c2 => ?_) (fun c2 => ?_)
 ·refine W.go 99 rfl ?_
  exact W.ret r rfl rfl ⟨by unfold boilE; rw [if_neg (by simpa using c1), if_pos (by simp at c2; omega)]; rfl, rfl⟩
 refine W.go 99 rfl ?_
 refine W.loop (fun m' E B L' => ∃ i : Nat, m' = b.rates.length - i ∧ i ≤ b.rates.length ∧ ratesB (b.rates.drop i) = ratesB b.rates ∧ E = [(1, .p 0 0), (25, .v (.slice p.a1 b.rates.length p.c1)), (26, .v (.int .i64 b.rates.length)), (27, .v (.int .i64 i))] ∧ B = [some ⟨cellsS (.v (blA b p)), 28⟩] ∧ L = L')
  ⟨0, rfl, by omega, by simp, rfl, rfl, rfl⟩ ⟨rfl, rfl, rfl, rfl, trivial⟩ ⟨rfl, trivial⟩ ?_
 rintro _ _ _ _ ⟨i, rfl, h1, hg, rfl, rfl, rfl⟩ again
 refine W.go 99 rfl ?_
 refine W.split rfl rfl rfl (fun d1 => ?_) (fun d1 => ?_)
 ·refine W.go 99 rfl ?_
  have hi : i < b.rates.length := by simpa using d1
  have hd := List.drop_eq_getElem_cons hi
  obtain ⟨a0, a1, a2, a3, a4, k0, k1, k2, k3, k4⟩ := p
  obtain ⟨a, ha⟩ := h.h1.addr hi
  obtain rfl : a1 = some a := ha
  refine W.vf rfl rfl rfl rfl (Vf.idx1 rfl rfl rfl rfl rfl rfl rfl (hi)) ?_
  refine W.go 99 rfl ?_
  refine W.vf rfl rfl rfl rfl (Vf.load rfl rfl rfl (h.h1.int (List.getElem?_eq_getElem hi))) ?_
  refine W.go 99 rfl ?_
  refine W.eff rfl rfl rfl (Ef.call rfl (within_t _ _ _ _)) ?_
  rintro _ _ _ ⟨_, rfl, rfl, rfl, rfl⟩
  refine W.go 99 rfl ?_
  refine W.split rfl rfl rfl (fun d2 => ?_) (fun d2 => ?_)
  ·refine W.go 99 rfl ?_
   exact W.ret r rfl rfl ⟨by unfold boilE; rw [if_neg (by simpa using c1), if_neg (by simp at c2; omega), if_pos (by rw [← hg, hd, ratesB]; simp at d2; simp [d2])]; rfl, rfl⟩
  ·refine W.go 99 rfl ?_
   exact W.again (again _ _ _ _ (by omega) ⟨i + 1, rfl, by omega, by rw [← hg, hd, ratesB]; simp at d2; simp [d2], rfl, rfl, rfl⟩) ⟨rfl, rfl, rfl, congrArg some (inc64 (by omega)), trivial⟩ ⟨rfl, trivial⟩
 have hr : ratesB b.rates = true := by rw [← hg, List.drop_of_length_le (by simp at d1; omega)]; rfl
 clear again hg
 refine W.go 99 rfl ?_
 refine W.eff rfl rfl rfl (Ef.call rfl (checkMarks_t _ _ _ _ h.h2 h.n2)) ?_
 rintro _ _ _ ⟨_, rfl, rfl, rfl, rfl⟩
 refine W.go 99 rfl ?_
 refine W.split rfl rfl rfl (fun c3 => ?_) (fun c3 => ?_)
 ·refine W.go 99 rfl ?_
  exact W.ret r rfl rfl ⟨by unfold boilE; rw [if_neg (by simpa using c1), if_neg (by simp at c2; omega), if_neg (by simp [hr]), if_pos (by simpa using c3)]; rfl, rfl⟩
 refine W.go 99 rfl ?_
 refine W.eff rfl rfl rfl (Ef.call rfl (checkSpans_t _ _ _ _ _ _ h.h3 h.n3)) ?_
 rintro _ _ _ ⟨_, rfl, rfl, rfl, rfl⟩
 refine W.go 99 rfl ?_
 refine W.split rfl rfl rfl (fun c4 => ?_) (fun c4 => ?_)
 ·refine W.go 99 rfl ?_
  exact W.ret r rfl rfl ⟨by unfold boilE; rw [if_neg (by simpa using c1), if_neg (by simp at c2; omega), if_neg (by simp [hr]), if_neg (by simpa using c3), if_pos (by simpa using c4)]; rfl, rfl⟩
 refine W.go 99 rfl ?_
 refine W.split rfl rfl rfl (fun c5 => ?_) (fun c5 => ?_)
 ·refine W.go 99 rfl ?_
  exact W.ret r rfl rfl ⟨by unfold boilE; rw [if_neg (by simpa using c1), if_neg (by simp at c2; omega), if_neg (by simp [hr]), if_neg (by simpa using c3), if_neg (by simpa using c4), if_pos (by simp at c5; omega)]; rfl, rfl⟩
 have hE : boilE b = proofsE b b.proofs := by unfold boilE; rw [if_neg (by simpa using c1), if_neg (by simp at c2; omega), if_neg (by simp [hr]), if_neg (by simpa using c3), if_neg (by simpa using c4), if_neg (by simp at c5; omega)]
 clear c1 c2 c3 c4 c5 h1 d1
 refine W.go 99 rfl ?_
 refine W.loop (fun m' E B L' => ∃ i : Nat, m' = b.proofs.length - i ∧ i ≤ b.proofs.length ∧ proofsE b (b.proofs.drop i) = proofsE b b.proofs ∧ E = [(1, .p 0 0), (52, .v (.slice p.a4 b.proofs.length p.c4)), (53, .v (.int .i64 b.proofs.length)), (54, .v (.int .i64 i))] ∧ B = [some ⟨cellsS (.v (blA b p)), 28⟩] ∧ L = L')
  ⟨0, rfl, by omega, by simp, rfl, rfl, rfl⟩ ⟨rfl, rfl, rfl, rfl, trivial⟩ ⟨rfl, trivial⟩ ?_
 rintro _ _ _ _ ⟨i, rfl, h1, hg, rfl, rfl, rfl⟩ again
 refine W.go 99 rfl ?_
 refine W.split rfl rfl rfl (fun d1 => ?_) (fun d1 => ?_)
 ·refine W.go 99 rfl ?_
  have hi : i < b.proofs.length := by simpa using d1
  have hd := List.drop_eq_getElem_cons hi
  obtain ⟨a0, a1, a2, a3, a4, k0, k1, k2, k3, k4⟩ := p
  obtain ⟨a, ha⟩ := h.h4.addr hi
  obtain rfl : a4 = some a := ha
  refine W.vf rfl rfl rfl rfl (Vf.idx rfl rfl rfl rfl rfl rfl (hi)) ?_
  refine W.go 99 rfl ?_
  refine W.vf rfl rfl rfl rfl (Vf.loadN rfl rfl rfl (h.h4.whole (List.getElem?_eq_getElem hi) rfl)) ?_
  refine W.go 99 rfl ?_
  refine W.eff rfl rfl rfl (Ef.call rfl (checkProof_t b ⟨a0, a1, a2, a3, some a, k0, k1, k2, k3, k4⟩ _ n0 _)) ?_
  rintro _ _ _ ⟨_, rfl, rfl, rfl, rfl⟩
  refine W.go 99 rfl ?_
  refine W.split rfl rfl rfl (fun d2 => ?_) (fun d2 => ?_)
  ·refine W.go 99 rfl ?_
   exact W.ret r rfl rfl ⟨by rw [hE, ← hg, hd, proofsE, if_pos (by simpa using d2)]; rfl, rfl⟩
  ·refine W.go 99 rfl ?_
   exact W.again (again _ _ _ _ (by omega) ⟨i + 1, rfl, by omega, by rw [← hg, hd, proofsE, if_neg (by simpa using d2)], rfl, rfl, rfl⟩) ⟨rfl, rfl, rfl, congrArg some (inc64 (by omega)), trivial⟩ ⟨rfl, trivial⟩
 ·refine W.go 99 rfl ?_
  exact W.ret r rfl rfl ⟨by rw [hE, ← hg, List.drop_of_length_le (by simp at d1; omega)]; rfl, rfl⟩
theorem maxI (a b : Int) : (if b > a then b else a) = max a b := by split <;> omega
theorem minI (a b : Int) : (if b < a then b else a) = min a b := by split <;> omega
theorem meet_t (a b : Spn) (L : LH) : Sp X 240 [.agg (encSp a).toArray, .agg (encSp b).toArray] L (fun v L' => v = .agg (encSp (meetS a b)).toArray ∧ L = L') := by
 refine Sp.enter (n := 16) Tryz.func240 rfl rfl rfl rfl fun C hX _ hL0 r => ?_
 refine W.go 99 rfl ?_
 rw [maxI, minI]
 exact W.ret r rfl rfl ⟨rfl, rfl⟩
theorem numbers_t (a : Spn) (L : LH) (h1 : -4000000 ≤ a.lo) (h2 : a.lo ≤ 4000000) (h3 : -4000000 ≤ a.hi) (h4 : a.hi ≤ 4000000) : Sp X 241 [.agg (encSp a).toArray] L (fun v L' => v = .int .i64 (numS a) ∧ L = L') := by
 refine Sp.enter (n := 10) Tryz.func241 rfl rfl rfl rfl fun C hX _ hL0 r => ?_
 refine W.go 99 rfl ?_
 rw [maxI, wrap64_in (a.hi - a.lo) (by omega) (by omega), wrap64_in _ (by omega) (by omega)]
 exact W.ret r rfl rfl ⟨rfl, rfl⟩
theorem has_u8 : ∀ x : Fin 256, ∀ i : Fin 8, (IntKind.u8.wrap ((BitVec.ofInt IntKind.u8.bits ((x.val : Int).fdiv (2 ^ min i.val IntKind.u8.bits)) &&& BitVec.ofInt IntKind.u8.bits 1).toNat : Int) == 1) = x.val.testBit i.val := by decide +kernel
theorem with_u8 : ∀ x : Fin 256, ∀ i : Fin 8, IntKind.u8.wrap ((BitVec.ofInt IntKind.u8.bits (x.val : Int) ||| BitVec.ofInt IntKind.u8.bits (IntKind.u8.wrap (1 * 2 ^ min i.val IntKind.u8.bits))).toNat : Int) = ((x.val ||| 2 ^ i.val : Nat) : Int) := by decide +kernel
theorem has_t (x i : Nat) (L : LH) (hx : x < 256) (hi : i < 8) : Sp X 57 [.int .u8 x, .int .i64 i] L (fun v L' => v = .bool (x.testBit i) ∧ L = L') := by
 refine Sp.enter (n := 10) Tryz.func57 rfl rfl rfl rfl fun C hX _ hL0 r => ?_
 refine W.go 99 rfl ?_
 exact W.ret r rfl rfl ⟨congrArg Value.bool (has_u8 ⟨x, hx⟩ ⟨i, hi⟩), rfl⟩
theorem with_t (x i : Nat) (L : LH) (hx : x < 256) (hi : i < 8) : Sp X 91 [.int .u8 x, .int .i64 i] L (fun v L' => v = .int .u8 ((x ||| 2 ^ i : Nat) : Int) ∧ L = L') := by
 refine Sp.enter (n := 9) Tryz.func91 rfl rfl rfl rfl fun C hX _ hL0 r => ?_
 refine W.go 99 rfl ?_
 exact W.ret r rfl rfl ⟨congrArg (Value.int .u8) (with_u8 ⟨x, hx⟩ ⟨i, hi⟩), rfl⟩
end Go.Mz


set_option maxRecDepth 100000
namespace Go.Mz
open Go.Conc Go.Proofs
variable {X : Logic Tryz.prog}
def faultV (e : Int) : Value := .iface 346 (.agg #[.int .i64 e])
theorem must_g (c : Bool) (e : Int) (L : LH) : Sp X 159 [.bool c, .int .i64 e] L (fun v L' => v = .tuple #[] ∧ c = true ∧ L = L') (fun ch L' => c = false ∧ ch = [pe1 (faultV e)] ∧ L = L') := by
 refine Sp.enter (n := 9) Tryz.func159 rfl rfl rfl rfl fun C hX _ hL0 r => ?_
 refine W.go 99 rfl ?_
 refine W.split rfl rfl rfl (fun c1 => ?_) (fun c1 => ?_)
 ·refine W.go 99 rfl ?_
  refine W.panicOp rfl rfl rfl rfl ?_
  exact WM.raise r ⟨by simpa using c1, rfl, rfl⟩
 ·refine W.go 99 rfl ?_
  refine W.ret0 r rfl rfl ⟨rfl, by simpa using c1, rfl⟩
theorem must_gt (e : Int) (L : LH) : Sp X 159 [.bool true, .int .i64 e] L (fun v L' => v = .tuple #[] ∧ L = L') :=
 (must_g true e L).mono (fun _ _ h => ⟨h.1, h.2.2⟩) fun _ _ h => absurd h.1 (by decide)
theorem must_gf (e : Int) (L : LH) : Sp X 159 [.bool false, .int .i64 e] L (fun _ _ => False) (fun ch L' => ch = [pe1 (faultV e)] ∧ L = L') :=
 (must_g false e L).mono (fun _ _ h => absurd h.2.1 (by decide)) fun _ _ h => h.2
theorem within_g (n lo hi : Int) (L : LH) : Sp X 160 [.int .i64 n, .int .i64 lo, .int .i64 hi] L (fun v L' => v = .bool (inB n lo hi) ∧ L = L') := by
 refine Sp.enter (n := 15) Tryz.func160 rfl rfl rfl rfl fun C hX _ hL0 r => ?_
 refine W.go 99 rfl ?_
 refine W.split rfl rfl rfl (fun c => ?_) (fun c => ?_)
 ·refine W.go 99 rfl ?_
  exact W.ret r rfl rfl ⟨by unfold inB; rw [c]; rfl, rfl⟩
 ·refine W.go 99 rfl ?_
  exact W.ret r rfl rfl ⟨by unfold inB; rw [c]; rfl, rfl⟩
def OkQ (e : Int) (L : LH) (v : Value) (L' : LH) : Prop := v = .tuple #[] ∧ e = 0 ∧ Le L L'
def NoQ (e : Int) (L : LH) (ch : List PanicEntry) (L' : LH) : Prop := e ≠ 0 ∧ ch = [pe1 (faultV e)] ∧ Le L L'
theorem caught_g (be : Nat) (e e0 : Int) (L : LH) (he : L be = some (.cells #[.int .i64 e0] 39 (0, 0), true)) :
  SpD X 208 [pt be] (.panicking [pe1 (faultV e)]) L (fun md L' => md = .returning ∧ L' = L.put be (.cells #[.int .i64 e] 39)) := by
 refine SpD.enter (n := 11) Tryz.func208 rfl rfl rfl rfl fun C hX _ hL0 r => ?_
 refine W.go 99 rfl ?_
 refine W.recoverP (sv := .v (faultV e)) r rfl rfl rfl rfl fun C' hX' _ _ _ r => ?_
 refine W.go 99 rfl ?_
 refine W.split rfl rfl rfl (fun _ => W.go 99 rfl ?_) (fun h => absurd h (by simp))
 refine W.eff0 rfl rfl (Ef.stoF rfl ⟨_, rfl, rfl⟩ rfl he rfl (Nat.le_refl _) (singles rfl)) ?_
 rintro _ _ _ ⟨rfl, rfl, rfl⟩
 refine W.go 99 rfl ?_
 exact W.retD r rfl (.inl rfl) ⟨rfl, rfl⟩
theorem calm_g (be : Nat) (L : LH) : SpD X 208 [pt be] .returning L (fun md L' => md = .returning ∧ L' = L) := by
 refine SpD.enter (n := 11) Tryz.func208 rfl rfl rfl rfl fun C hX _ hL0 r => ?_
 refine W.go 99 rfl ?_
 refine W.recoverN r rfl rfl rfl ?_
 refine W.go 99 rfl ?_
 refine W.split rfl rfl rfl (fun h => absurd h (by simp)) (fun _ => W.go 99 rfl ?_)
 exact W.retD r rfl (.inl rfl) ⟨rfl, rfl⟩
theorem errno_g (g : FuncId) (caps : List Value) (e : Int) (L : LH) (hs : ∀ L1, Le L L1 → Sp X g caps L1 (OkQ e L1) (NoQ e L1)) : Sp X 157 [.func (.func g) #[] caps.toArray] L (fun v L' => v = .int .i64 e ∧ Le L L') := by
 refine Sp.enter (n := 6) Tryz.func157 rfl rfl rfl rfl fun C hX _ hL0 r => ?_
 refine W.go 99 rfl ?_
 refine W.pub 2 (.inl ⟨_, rfl⟩) rfl rfl ?_
 intro be hbe _
 refine W.go 99 rfl ?_
 refine W.deferV r.ro rfl rfl rfl rfl ?_
 change W C _ _ _ _ _ (L.put be (.cells #[.int .i64 0] 39))
 have hle := Le.put hbe (.cells #[.int .i64 0] 39)
 have hb := put_same L be (.cells #[.int .i64 0] 39)
 have hc := hs _ hle
 rw [← hX] at hc
 generalize L.put be (.cells #[.int .i64 0] 39) = L1 at hle hb hc ⊢
 refine W.go 99 rfl ?_
 refine W.callVP (v1 := []) (v2 := caps) rfl rfl rfl rfl rfl rfl (by simpa using hc) ?_ ?_
 ·rintro _ L2 ⟨rfl, h0, hl⟩
  refine W.go 99 rfl ?_
  refine W.eff0 rfl rfl (Ef.stoF rfl ⟨_, rfl, rfl⟩ rfl (hl _ _ hb) rfl (Nat.le_refl _) (singles rfl)) ?_
  rintro _ _ _ ⟨rfl, rfl, rfl⟩
  refine W.go 99 rfl ?_
  refine W.out r.ro (.inr .ret) ?_
  refine WM.deferred rfl rfl (calm_g be _) ?_
  rintro _ _ ⟨rfl, rfl⟩
  exact WM.ret1 r rfl rfl (load1F rfl (cell_of (put_same _ _ _) rfl)) ⟨by rw [h0]; rfl, le_put_none (hle.trans hl) hbe _⟩
 ·rintro ch L2 ⟨h0, rfl, hl⟩
  refine WM.deferred rfl rfl (caught_g be e 0 L2 (hl _ _ hb)) ?_
  rintro _ _ ⟨rfl, rfl⟩
  exact WM.ret1 r rfl rfl (load1F rfl (cell_of (put_same _ _ _) rfl)) ⟨rfl, le_put_none (hle.trans hl) hbe _⟩
theorem sized_g (n m : Int) (L : LH) : Sp X 168 [.int .i64 n, .int .i64 m] L (OkQ (sizedE n 1 m) L) (NoQ (sizedE n 1 m) L) := by
 have s7 : n < 1 → sizedE n 1 m = 7 := fun h => by unfold sizedE; rw [if_pos h]
 have s6 : ¬ n < 1 → m < n → sizedE n 1 m = 6 := fun h h2 => by unfold sizedE; rw [if_neg h, if_pos h2]
 have s0 : ¬ n < 1 → ¬ m < n → sizedE n 1 m = 0 := fun h h2 => by unfold sizedE; rw [if_neg h, if_neg h2]
 refine Sp.enter (n := 11) Tryz.func168 rfl rfl rfl rfl fun C hX _ hL0 r => ?_
 refine W.go 99 rfl ?_
 refine W.callP rfl rfl rfl rfl (must_g _ _ _) ?_ ?_
 ·rintro _ _ ⟨rfl, c1, rfl⟩
  refine W.go 99 rfl ?_
  refine W.callP rfl rfl rfl rfl (must_g _ _ _) ?_ ?_
  ·rintro _ _ ⟨rfl, c2, rfl⟩
   refine W.go 99 rfl ?_
   exact W.ret0 r rfl rfl ⟨rfl, s0 (by simp at c1; omega) (by simp at c2; omega), Le.refl _⟩
  ·rintro _ _ ⟨c2, rfl, rfl⟩
   rw [s6 (by simp at c1; omega) (by simp at c2; omega)] at r
   exact WM.raise r ⟨by decide, rfl, Le.refl _⟩
 ·rintro _ _ ⟨c1, rfl, rfl⟩
  rw [s7 (by simp at c1; omega)] at r
  exact WM.raise r ⟨by decide, rfl, Le.refl _⟩
theorem checkSpan_g (s : Spn) (m : Int) (L : LH) : Sp X 169 [.agg (encSp s).toArray, .int .i64 m] L (OkQ (spanE s m) L) (NoQ (spanE s m) L) := by
 have e1 : (inB s.lo 0 m && inB s.hi 0 m) = false → spanE s m = 1 := fun h => by unfold spanE; rw [if_pos (by rw [← Bool.not_and, h]; rfl)]
 have e5 : (inB s.lo 0 m && inB s.hi 0 m) = true → s.hi < s.lo → spanE s m = 5 := fun h h2 => by unfold spanE; rw [if_neg (by rw [← Bool.not_and, h]; simp), if_pos h2]
 have e0 : (inB s.lo 0 m && inB s.hi 0 m) = true → ¬ s.hi < s.lo → spanE s m = 0 := fun h h2 => by unfold spanE; rw [if_neg (by rw [← Bool.not_and, h]; simp), if_neg h2]
 refine Sp.enter (n := 21) Tryz.func169 rfl rfl rfl rfl fun C hX _ hL0 r => ?_
 refine W.go 99 rfl ?_
 refine W.eff rfl rfl rfl (Ef.call rfl (within_g _ _ _ _)) ?_
 rintro _ _ _ ⟨_, rfl, rfl, rfl, rfl⟩
 refine W.go 99 rfl ?_
 refine W.split rfl rfl rfl (fun c1 => ?_) (fun c1 => ?_)
 ·refine W.go 99 rfl ?_
  refine W.eff rfl rfl rfl (Ef.call rfl (within_g _ _ _ _)) ?_
  rintro _ _ _ ⟨_, rfl, rfl, rfl, rfl⟩
  refine W.go 99 rfl ?_
  refine W.callP rfl rfl rfl rfl (must_g _ _ _) ?_ ?_
  ·rintro _ _ ⟨rfl, c2, rfl⟩
   refine W.go 99 rfl ?_
   refine W.callP rfl rfl rfl rfl (must_g _ _ _) ?_ ?_
   ·rintro _ _ ⟨rfl, c3, rfl⟩
    refine W.go 99 rfl ?_
    exact W.ret0 r rfl rfl ⟨rfl, e0 (by rw [c1, c2]; rfl) (by simp at c3; omega), Le.refl _⟩
   ·rintro _ _ ⟨c3, rfl, rfl⟩
    rw [e5 (by rw [c1, c2]; rfl) (by simp at c3; omega)] at r
    exact WM.raise r ⟨by decide, rfl, Le.refl _⟩
  ·rintro _ _ ⟨c2, rfl, rfl⟩
   rw [e1 (by rw [c1, c2]; rfl)] at r
   exact WM.raise r ⟨by decide, rfl, Le.refl _⟩
 ·refine W.go 99 rfl ?_
  refine W.callP rfl rfl rfl rfl (must_g _ _ _) ?_ ?_
  ·rintro _ _ ⟨_, c2, _⟩
   exact absurd c2 (by decide)
  ·rintro _ _ ⟨_, rfl, rfl⟩
   rw [e1 (by rw [c1]; rfl)] at r
   exact WM.raise r ⟨by decide, rfl, Le.refl _⟩
def encGa (x : Gl) : List Value := [.int .i64 x.made, .int .i64 x.colour, .int .i64 x.fade.lo, .int .i64 x.fade.hi]
def encSg (x : Sg) : List Value := [.int .i64 x.sample, .int .i64 x.glass, .int .i64 x.year, .int .i64 x.found]
theorem encGa_len (x : Gl) : (encGa x).length = 4 := rfl
theorem encSg_len (x : Sg) : (encSg x).length = 4 := rfl
theorem encGa_sg (x : Gl) : ∀ u ∈ encGa x, single u = true := fun u hu => by
 simp only [encGa, List.mem_cons, List.not_mem_nil, or_false] at hu
 rcases hu with rfl | rfl | rfl | rfl <;> rfl
theorem encSg_sg (x : Sg) : ∀ u ∈ encSg x, single u = true := fun u hu => by
 simp only [encSg, List.mem_cons, List.not_mem_nil, or_false] at hu
 rcases hu with rfl | rfl | rfl | rfl <;> rfl
abbrev roL (r : Ro) (p : BP) : List Value := [.slice p.a0 r.glasses.length p.c0, .slice p.a1 r.steps.length p.c1, .slice p.a2 r.duties.length p.c2, .slice p.a3 r.samples.length p.c3, .slice p.a4 r.sights.length p.c4]
abbrev roA (r : Ro) (p : BP) : Value := .agg (roL r p).toArray
structure RoAt (L : LH) (r : Ro) (p : BP) : Prop where
 h0 : SlAt L p.a0 4 encGa r.glasses
 h1 : IntsAt L p.a1 r.steps
 h2 : IntsAt L p.a2 r.duties
 h3 : SlAt L p.a3 2 encSp r.samples
 h4 : SlAt L p.a4 4 encSg r.sights
 n0 : r.glasses.length ≤ 1000000
 n1 : r.steps.length ≤ 1000000
 n2 : r.duties.length ≤ 1000000
 n3 : r.samples.length ≤ 1000000
 n4 : r.sights.length ≤ 1000000
 k4 : r.sights.length ≤ p.c4
theorem RoAt.le {L L' : LH} {r : Ro} {p : BP} (h : RoAt L r p) (hl : Le L L') : RoAt L' r p := ⟨h.h0.le hl, h.h1.le hl, h.h2.le hl, h.h3.le hl, h.h4.le hl, h.n0, h.n1, h.n2, h.n3, h.n4, h.k4⟩
theorem checkSight_g (ro : Ro) (p : BP) (s : Sg) (L : LH) (h : RoAt L ro p) : Sp X 170 [roA ro p, .agg (encSg s).toArray] L (OkQ (sightE ro s) L) (NoQ (sightE ro s) L) := by
 have n0 := h.n0
 have n3 := h.n3
 have e3 : (inB s.sample 0 ((ro.samples.length : Int) - 1) && inB s.glass 0 ((ro.glasses.length : Int) - 1)) = false → sightE ro s = 3 := fun h => by unfold sightE; rw [if_pos (by rw [← Bool.not_and, h]; rfl)]
 have e1 : (inB s.sample 0 ((ro.samples.length : Int) - 1) && inB s.glass 0 ((ro.glasses.length : Int) - 1)) = true → sightE ro s = if !inB s.year 0 60 then 1 else if s.year < (ro.glasses.getD s.glass.toNat ⟨0, 0, ⟨0, 0⟩⟩).made then 12 else if !inB s.found 0 2 then 8 else 0 := fun h => by unfold sightE; rw [if_neg (by rw [← Bool.not_and, h]; simp)]
 refine Sp.enter (n := 40) Tryz.func170 rfl rfl rfl rfl fun C hX _ hL0 r => ?_
 refine W.go 99 rfl ?_
 rw [w1 n3]
 refine W.eff rfl rfl rfl (Ef.call rfl (within_g _ _ _ _)) ?_
 rintro _ _ _ ⟨_, rfl, rfl, rfl, rfl⟩
 refine W.go 99 rfl ?_
 refine W.split rfl rfl rfl (fun c1 => ?_) (fun c1 => ?_)
 ·refine W.go 99 rfl ?_
  rw [w1 n0]
  refine W.eff rfl rfl rfl (Ef.call rfl (within_g _ _ _ _)) ?_
  rintro _ _ _ ⟨_, rfl, rfl, rfl, rfl⟩
  refine W.go 99 rfl ?_
  refine W.callP rfl rfl rfl rfl (must_g _ _ _) ?_ ?_
  ·rintro _ _ ⟨rfl, c2, rfl⟩
   rw [e1 (by rw [c1, c2]; rfl)] at r
   have hg := inB_iff.1 c2
   refine W.go 99 rfl ?_
   refine W.eff rfl rfl rfl (Ef.call rfl (within_g _ _ _ _)) ?_
   rintro _ _ _ ⟨_, rfl, rfl, rfl, rfl⟩
   refine W.go 99 rfl ?_
   refine W.callP rfl rfl rfl rfl (must_g _ _ _) ?_ ?_
   ·rintro _ _ ⟨rfl, c3, rfl⟩
    rw [if_neg (by rw [c3]; simp)] at r
    refine W.go 99 rfl ?_
    obtain ⟨gi, hgi⟩ : ∃ gi : Nat, s.glass = (gi : Int) := ⟨s.glass.toNat, by omega⟩
    have hlt : gi < ro.glasses.length := by omega
    obtain ⟨a0, a1, a2, a3, a4, k0, k1, k2, k3, k4⟩ := p
    obtain ⟨a, ha⟩ := h.h0.addr hlt
    obtain rfl : a0 = some a := ha
    have hwh := h.h0.whole (List.getElem?_eq_getElem hlt) rfl
    have hmade : L.cell? ((a.add (gi * 4)).add 0) = some (.int .i64 ro.glasses[gi].made) := hwh.2 0 _ rfl
    have hgd : (ro.glasses.getD s.glass.toNat ⟨0, 0, ⟨0, 0⟩⟩).made = ro.glasses[gi].made := by rw [hgi, Int.toNat_natCast, List.getD_eq_getElem?_getD, List.getElem?_eq_getElem hlt]; rfl
    rw [hgd] at r
    refine W.drawn (by kernel_rfl) _ (Le.refl _) ?_
    refine DD.run' [0, 1, 2, 3, 4, 5] rfl ?_
    refine DD.vf 6 rfl rfl rfl rfl rfl (Vf.idx rfl rfl rfl rfl rfl hgi hlt) ?_
    refine DD.run' [7] rfl ?_
    refine DD.vf 8 rfl rfl rfl rfl rfl (Vf.load rfl rfl rfl (hmade)) ?_
    refine DD.run' [9] rfl ?_
    refine DD.split 34 rfl (fun c4 => ?_) (fun c4 => ?_)
    ·rw [if_neg (by simp at c4; omega)] at r
     refine DD.act 10 rfl rfl rfl rfl rfl (Ef.call rfl (must_gt _ _)) ((by rintro _ _ _ ⟨_, rfl, rfl, rfl, rfl⟩; exact ⟨Le.refl _, rfl, .inl rfl⟩)) ?_
     rintro _ _ _ ⟨_, rfl, rfl, rfl, rfl⟩
     refine .fin rfl ?_
     refine W.go 99 rfl ?_
     refine W.eff rfl rfl rfl (Ef.call rfl (within_g _ _ _ _)) ?_
     rintro _ _ _ ⟨_, rfl, rfl, rfl, rfl⟩
     refine W.go 99 rfl ?_
     refine W.callP rfl rfl rfl rfl (must_g _ _ _) ?_ ?_
     ·rintro _ _ ⟨rfl, c5, rfl⟩
      rw [if_neg (by rw [c5]; simp)] at r
      refine W.go 99 rfl ?_
      exact W.ret0 r rfl rfl ⟨rfl, rfl, Le.refl _⟩
     ·rintro _ _ ⟨c5, rfl, rfl⟩
      rw [if_pos (by rw [c5]; rfl)] at r
      exact WM.raise r ⟨by decide, rfl, Le.refl _⟩
    ·rw [if_pos (by simp at c4; omega)] at r
     refine DD.callP 10 rfl rfl rfl rfl rfl rfl (must_gf _ _) ?_
     rintro _ _ ⟨rfl, rfl⟩
     exact WM.raise r ⟨by decide, rfl, Le.refl _⟩
   ·rintro _ _ ⟨c3, rfl, rfl⟩
    rw [if_pos (by rw [c3]; rfl)] at r
    exact WM.raise r ⟨by decide, rfl, Le.refl _⟩
  ·rintro _ _ ⟨c2, rfl, rfl⟩
   rw [e3 (by rw [c1, c2]; rfl)] at r
   exact WM.raise r ⟨by decide, rfl, Le.refl _⟩
 ·refine W.go 99 rfl ?_
  refine W.callP rfl rfl rfl rfl (must_g _ _ _) ?_ ?_
  ·rintro _ _ ⟨_, c2, _⟩
   exact absurd c2 (by decide)
  ·rintro _ _ ⟨_, rfl, rfl⟩
   rw [e3 (by rw [c1]; rfl)] at r
   exact WM.raise r ⟨by decide, rfl, Le.refl _⟩
end Go.Mz


set_option maxRecDepth 100000
namespace Go.Mz
open Go.Conc Go.Proofs
variable {X : Logic Tryz.prog}
theorem sizedI {n m : Int} (h : sizedE n 1 m = 0) : ¬ sizedE n 1 m ≠ 0 := by simpa using h
theorem stepsE_cons (p : Option Int) (n : Int) (l : List Int) : stepsE p (n :: l) = if !inB n 1 40 then 1 else if (match p with | some q => decide (n ≤ q) | none => false) then 5 else stepsE (some n) l := by cases p <;> rfl
theorem Check1_g (br : Nat) (ro : Ro) (p : BP) (L : LH) (hb : ∀ (i : Nat) (v : Value), (roL ro p)[i]? = some v → L.cell? ⟨br, i, none⟩ = some v) (h : RoAt L ro p) : Sp X 167 [pt br] L (OkQ (rowE ro) L) (NoQ (rowE ro) L) := by
 have n0 := h.n0
 have n1 := h.n1
 have n2 := h.n2
 have n3 := h.n3
 have n4 := h.n4
 obtain ⟨a0, a1, a2, a3, a4, k0, k1, k2, k3, k4⟩ := p
 refine Sp.enter (n := 114) Tryz.func167 rfl rfl rfl rfl fun C hX _ hL0 r => ?_
 refine W.go 99 rfl ?_
 refine W.vf rfl rfl rfl rfl (Vf.load rfl rfl rfl (hb 0 _ rfl)) ?_
 refine W.go 99 rfl ?_
 refine W.callP rfl rfl rfl rfl (sized_g _ _ _) ?_ ?_
 rotate_left
 ·rintro _ _ ⟨h0, rfl, hl⟩
  rw [show rowE ro = sizedE ro.glasses.length 1 4 by unfold rowE; rw [if_pos h0]] at r
  exact WM.raise r ⟨h0, rfl, hl⟩
 rintro _ L1 ⟨rfl, h0, hl1⟩
 have hE1 : rowE ro = if glassesE ro.glasses ≠ 0 then glassesE ro.glasses else
   if sizedE ro.steps.length 1 3 ≠ 0 then sizedE ro.steps.length 1 3 else
   if stepsE none ro.steps ≠ 0 then stepsE none ro.steps else
   if ro.duties.length ≠ ro.steps.length + 1 then 9 else
   if !(ro.duties.all fun n => inB n 0 99) then 1 else
   if spansE ro.samples 2 40 ≠ 0 then spansE ro.samples 2 40 else
   if 8 < ro.sights.length then 6 else sightsE ro ro.sights := by unfold rowE; rw [if_neg (sizedI h0)]
 refine W.go 99 rfl ?_
 refine W.vf rfl rfl rfl rfl (Vf.load rfl rfl rfl (hl1.cell (hb 0 _ rfl))) ?_
 refine W.go 99 rfl ?_
 refine W.loop (fun m' E B L' => ∃ i : Nat, m' = ro.glasses.length - i ∧ i ≤ ro.glasses.length ∧ glassesE (ro.glasses.drop i) = glassesE ro.glasses ∧ Le L L' ∧
   E = [(0, .v (pt br)), (16, .v (.slice a0 ro.glasses.length k0)), (17, .v (.int .i64 ro.glasses.length)), (18, .v (.int .i64 i))] ∧ B = [])
  ⟨0, rfl, by omega, by simp, hl1, rfl, rfl⟩ (by exact ⟨rfl, rfl, rfl, rfl, trivial⟩) trivial ?_
 rintro _ _ _ L2 ⟨i, rfl, h1, hg, hl2, rfl, rfl⟩ again
 refine W.go 99 rfl ?_
 refine W.split rfl rfl rfl (fun d1 => W.go 99 rfl ?_) (fun d1 => W.go 99 rfl ?_)
 ·have hi : i < ro.glasses.length := by simpa using d1
  have hd := List.drop_eq_getElem_cons hi
  obtain ⟨a, ha⟩ := h.h0.addr hi
  obtain rfl : a0 = some a := ha
  have bad : ∀ e, glassE ro.glasses[i] = e → e ≠ 0 → rowE ro = e := fun e he h0 => by
   have : glassesE ro.glasses = e := by rw [← hg, hd, glassesE, he, if_pos h0]
   rw [hE1, this, if_pos h0]
  have next : glassE ro.glasses[i] = 0 → glassesE (ro.glasses.drop (i + 1)) = glassesE ro.glasses := fun he => by rw [← hg, hd, glassesE, he, if_neg (by simp)]
  generalize hgx : ro.glasses[i] = g at bad next
  have b1 : (inB g.made 0 60 && inB g.colour 0 40) = false → glassE g = 1 := fun h => by unfold glassE; rw [if_pos (by rw [← Bool.not_and, h]; rfl)]
  have b2 : (inB g.made 0 60 && inB g.colour 0 40) = true → glassE g = spanE g.fade 3 := fun h => by unfold glassE; rw [if_neg (by rw [← Bool.not_and, h]; simp)]
  refine W.vf rfl rfl rfl rfl (Vf.idx rfl rfl rfl rfl rfl rfl (hi)) ?_
  refine W.go 99 rfl ?_
  refine W.vf rfl rfl rfl rfl (Vf.loadN rfl rfl rfl (((h.h0.le hl2).whole (by rw [List.getElem?_eq_getElem hi, hgx]) rfl : cellsAt L2 (a.add (i * 4)) 4 (encGa g)))) ?_
  refine W.go 99 rfl ?_
  refine W.eff rfl rfl rfl (Ef.call rfl (within_g _ _ _ _)) ?_
  rintro _ _ _ ⟨_, rfl, rfl, rfl, rfl⟩
  refine W.go 99 rfl ?_
  refine W.split rfl rfl rfl (fun c1 => ?_) (fun c1 => ?_)
  ·refine W.go 99 rfl ?_
   refine W.eff rfl rfl rfl (Ef.call rfl (within_g _ _ _ _)) ?_
   rintro _ _ _ ⟨_, rfl, rfl, rfl, rfl⟩
   refine W.go 99 rfl ?_
   refine W.callP rfl rfl rfl rfl (must_g _ _ _) ?_ ?_
   ·rintro _ _ ⟨rfl, c2, rfl⟩
    have b3 := b2 (by rw [c1, c2]; rfl)
    refine W.go 99 rfl ?_
    refine W.callP rfl rfl rfl rfl (checkSpan_g g.fade 3 _) ?_ ?_
    ·rintro _ L3 ⟨rfl, c3, hl3⟩
     refine W.go 99 rfl ?_
     exact W.again (again _ _ _ _ (by omega) ⟨i + 1, rfl, by omega, next (by rw [b3]; exact c3), hl2.trans hl3, rfl, rfl⟩) ⟨rfl, rfl, rfl, congrArg some (inc64 (by omega)), trivial⟩ trivial
    ·rintro _ L3 ⟨c3, rfl, hl3⟩
     rw [bad _ b3 c3] at r
     exact WM.raise r ⟨c3, rfl, hl2.trans hl3⟩
   ·rintro _ _ ⟨c2, rfl, rfl⟩
    rw [bad 1 (b1 (by rw [c1, c2]; rfl)) (by decide)] at r
    exact WM.raise r ⟨by decide, rfl, hl2⟩
  ·refine W.go 99 rfl ?_
   refine W.callP rfl rfl rfl rfl (must_g _ _ _) ?_ ?_
   ·rintro _ _ ⟨_, c2, _⟩
    exact absurd c2 (by decide)
   ·rintro _ _ ⟨_, rfl, rfl⟩
    rw [bad 1 (b1 (by rw [c1]; rfl)) (by decide)] at r
    exact WM.raise r ⟨by decide, rfl, hl2⟩
 have hg0 : glassesE ro.glasses = 0 := by rw [← hg, List.drop_of_length_le (by simp at d1; omega)]; rfl
 rw [if_neg (by simpa using hg0)] at hE1
 clear again hg d1 h0 h1 hl1
 refine W.vf rfl rfl rfl rfl (Vf.load rfl rfl rfl (hl2.cell (hb 1 _ rfl))) ?_
 refine W.go 99 rfl ?_
 refine W.callP rfl rfl rfl rfl (sized_g _ _ _) ?_ ?_
 rotate_left
 ·rintro _ _ ⟨h0, rfl, hl⟩
  rw [hE1, if_pos h0] at r
  exact WM.raise r ⟨h0, rfl, hl2.trans hl⟩
 rintro _ L1 ⟨rfl, h0, hl1⟩
 rw [if_neg (sizedI h0)] at hE1
 have hl1 := hl2.trans hl1
 clear hl2
 refine W.go 99 rfl ?_
 refine W.vf rfl rfl rfl rfl (Vf.load rfl rfl rfl (hl1.cell (hb 1 _ rfl))) ?_
 refine W.go 99 rfl ?_
 refine W.loop (fun m' E B L' => ∃ i : Nat, m' = ro.steps.length - i ∧ i ≤ ro.steps.length ∧ stepsE (if i = 0 then none else some (ro.steps.getD (i - 1) 0)) (ro.steps.drop i) = stepsE none ro.steps ∧ Le L L' ∧
   E = [(0, .v (pt br)), (40, .v (.slice a1 ro.steps.length k1)), (41, .v (.int .i64 ro.steps.length)), (42, .v (.int .i64 i))] ∧ B = [])
  ⟨0, rfl, by omega, by simp, hl1, rfl, rfl⟩ (by exact ⟨rfl, rfl, rfl, rfl, trivial⟩) trivial ?_
 rintro _ _ _ L2 ⟨i, rfl, h1, hg, hl2, rfl, rfl⟩ again
 refine W.go 99 rfl ?_
 refine W.split rfl rfl rfl (fun d1 => W.go 99 rfl ?_) (fun d1 => W.go 99 rfl ?_)
 ·have hi : i < ro.steps.length := by simpa using d1
  have hd := List.drop_eq_getElem_cons hi
  obtain ⟨a, ha⟩ := h.h1.addr hi
  obtain rfl : a1 = some a := ha
  have hst := h.h1.le hl2
  have bad : ∀ e, e ≠ 0 → stepsE (if i = 0 then none else some (ro.steps.getD (i - 1) 0)) (ro.steps.drop i) = e → rowE ro = e := fun e h0 he => by
   rw [hE1, ← hg, he, if_pos h0]
  rw [hd, stepsE_cons] at hg bad
  refine W.vf rfl rfl rfl rfl (Vf.idx1 rfl rfl rfl rfl rfl rfl rfl (hi)) ?_
  refine W.go 99 rfl ?_
  refine W.vf rfl rfl rfl rfl (Vf.load rfl rfl rfl (hst.int (List.getElem?_eq_getElem hi))) ?_
  refine W.go 99 rfl ?_
  refine W.eff rfl rfl rfl (Ef.call rfl (within_g _ _ _ _)) ?_
  rintro _ _ _ ⟨_, rfl, rfl, rfl, rfl⟩
  refine W.go 99 rfl ?_
  refine W.callP rfl rfl rfl rfl (must_g _ _ _) ?_ ?_
  rotate_left
  ·rintro _ _ ⟨c2, rfl, rfl⟩
   rw [bad 1 (by decide) (by rw [if_pos (by rw [c2]; rfl)])] at r
   exact WM.raise r ⟨by decide, rfl, hl2⟩
  rintro _ _ ⟨rfl, c2, rfl⟩
  rw [if_neg (by rw [c2]; simp)] at hg
  have bad2 := fun h => bad 5 (by decide) ((if_neg (by rw [c2]; simp)).trans (if_pos h))
  clear bad
  refine W.go 99 rfl ?_
  refine W.split rfl rfl rfl (fun c3 => ?_) (fun c3 => ?_)
  ·have hi0 : i = 0 := by simp at c3; omega
   subst hi0
   rw [if_pos rfl] at hg
   rw [if_neg (by simp)] at hg
   refine W.go 99 rfl ?_
   refine W.eff rfl rfl rfl (Ef.call rfl (must_gt _ _)) ?_
   rintro _ _ _ ⟨_, rfl, rfl, rfl, rfl⟩
   refine W.go 99 rfl ?_
   exact W.again (again _ _ _ _ (by omega) ⟨0 + 1, rfl, by omega, by rw [if_neg (by omega), ← hg]; simp [List.getD_eq_getElem?_getD, List.getElem?_eq_getElem hi], hl2, rfl, rfl⟩) ⟨rfl, rfl, rfl, congrArg some (inc64 (by omega)), trivial⟩ trivial
  ·have hi0 : ¬ i = 0 := by simp at c3; omega
   rw [if_neg hi0] at hg bad2
   have hp1 : i - 1 < ro.steps.length := by omega
   have hgd : ro.steps.getD (i - 1) 0 = ro.steps[i - 1] := by rw [List.getD_eq_getElem?_getD, List.getElem?_eq_getElem hp1]; rfl
   rw [hgd] at hg bad2
   refine W.go 99 rfl ?_
   refine W.vf rfl rfl rfl rfl (Vf.load rfl rfl rfl (hl2.cell (hb 1 _ rfl))) ?_
   refine W.go 99 rfl ?_
   refine W.vf rfl rfl rfl rfl (Vf.idx1 rfl rfl rfl rfl rfl rfl (show IntKind.i64.wrap ((i : Int) - 1) = ((i - 1 : Nat) : Int) by rw [wrap64_in _ (by omega) (by omega)]; omega) hp1) ?_
   refine W.go 99 rfl ?_
   refine W.vf rfl rfl rfl rfl (Vf.load rfl rfl rfl (hst.int (List.getElem?_eq_getElem hp1))) ?_
   refine W.go 99 rfl ?_
   refine W.callP rfl rfl rfl rfl (must_g _ _ _) ?_ ?_
   ·rintro _ _ ⟨rfl, c4, rfl⟩
    have c4' : ro.steps[i - 1] < ro.steps[i] := by simpa using c4
    rw [if_neg (by simp; omega)] at hg
    refine W.go 99 rfl ?_
    exact W.again (again _ _ _ _ (by omega) ⟨i + 1, rfl, by omega, by rw [if_neg (by omega), ← hg]; simp [List.getD_eq_getElem?_getD, List.getElem?_eq_getElem hi], hl2, rfl, rfl⟩) ⟨rfl, rfl, rfl, congrArg some (inc64 (by omega)), trivial⟩ trivial
   ·rintro _ _ ⟨c4, rfl, rfl⟩
    have c4' : ¬ ro.steps[i - 1] < ro.steps[i] := by simpa using c4
    rw [bad2 (by simp; omega)] at r
    exact WM.raise r ⟨by decide, rfl, hl2⟩
 have hg0 : stepsE none ro.steps = 0 := by rw [← hg, List.drop_of_length_le (by simp at d1; omega)]; rfl
 rw [if_neg (by simpa using hg0)] at hE1
 clear again hg d1 h0 h1 hl1
 refine W.vf rfl rfl rfl rfl (Vf.load rfl rfl rfl (hl2.cell (hb 2 _ rfl))) ?_
 refine W.go 99 rfl ?_
 refine W.vf rfl rfl rfl rfl (Vf.load rfl rfl rfl (hl2.cell (hb 1 _ rfl))) ?_
 refine W.go 99 rfl ?_
 rw [wrap64_in _ (by omega) (by omega)]
 refine W.callP rfl rfl rfl rfl (must_g _ _ _) ?_ ?_
 rotate_left
 ·rintro _ _ ⟨c1, rfl, rfl⟩
  rw [hE1, if_pos (by simp at c1; omega)] at r
  exact WM.raise r ⟨by decide, rfl, hl2⟩
 rintro _ _ ⟨rfl, c1, rfl⟩
 rw [if_neg (by simp at c1; omega)] at hE1
 refine W.go 99 rfl ?_
 refine W.vf rfl rfl rfl rfl (Vf.load rfl rfl rfl (hl2.cell (hb 2 _ rfl))) ?_
 refine W.go 99 rfl ?_
 refine W.loop (fun m' E B L' => ∃ i : Nat, m' = ro.duties.length - i ∧ i ≤ ro.duties.length ∧ (ro.duties.drop i).all (fun n => inB n 0 99) = ro.duties.all (fun n => inB n 0 99) ∧ Le L L' ∧
   E = [(0, .v (pt br)), (74, .v (.slice a2 ro.duties.length k2)), (75, .v (.int .i64 ro.duties.length)), (76, .v (.int .i64 i))] ∧ B = [])
  ⟨0, rfl, by omega, by simp, hl2, rfl, rfl⟩ (by exact ⟨rfl, rfl, rfl, rfl, trivial⟩) trivial ?_
 clear hl2 c1
 rintro _ _ _ L2 ⟨i, rfl, h1, hg, hl2, rfl, rfl⟩ again
 refine W.go 99 rfl ?_
 refine W.split rfl rfl rfl (fun d1 => W.go 99 rfl ?_) (fun d1 => W.go 99 rfl ?_)
 ·have hi : i < ro.duties.length := by simpa using d1
  have hd := List.drop_eq_getElem_cons hi
  obtain ⟨a, ha⟩ := h.h2.addr hi
  obtain rfl : a2 = some a := ha
  rw [hd, List.all_cons] at hg
  refine W.vf rfl rfl rfl rfl (Vf.idx1 rfl rfl rfl rfl rfl rfl rfl (hi)) ?_
  refine W.go 99 rfl ?_
  refine W.vf rfl rfl rfl rfl (Vf.load rfl rfl rfl ((h.h2.le hl2).int (List.getElem?_eq_getElem hi))) ?_
  refine W.go 99 rfl ?_
  refine W.eff rfl rfl rfl (Ef.call rfl (within_g _ _ _ _)) ?_
  rintro _ _ _ ⟨_, rfl, rfl, rfl, rfl⟩
  refine W.go 99 rfl ?_
  refine W.callP rfl rfl rfl rfl (must_g _ _ _) ?_ ?_
  ·rintro _ _ ⟨rfl, c2, rfl⟩
   rw [c2, Bool.true_and] at hg
   refine W.go 99 rfl ?_
   exact W.again (again _ _ _ _ (by omega) ⟨i + 1, rfl, by omega, hg, hl2, rfl, rfl⟩) ⟨rfl, rfl, rfl, congrArg some (inc64 (by omega)), trivial⟩ trivial
  ·rintro _ _ ⟨c2, rfl, rfl⟩
   rw [c2, Bool.false_and] at hg
   rw [hE1, if_pos (by rw [← hg]; rfl)] at r
   exact WM.raise r ⟨by decide, rfl, hl2⟩
 have hg0 : ro.duties.all (fun n => inB n 0 99) = true := by rw [← hg, List.drop_of_length_le (by simp at d1; omega)]; rfl
 rw [if_neg (by rw [hg0]; simp)] at hE1
 clear again hg d1 h1
 refine W.vf rfl rfl rfl rfl (Vf.load rfl rfl rfl (hl2.cell (hb 3 _ rfl))) ?_
 refine W.go 99 rfl ?_
 refine W.callP rfl rfl rfl rfl (sized_g _ _ _) ?_ ?_
 rotate_left
 ·rintro _ _ ⟨h0, rfl, hl⟩
  rw [hE1, show spansE ro.samples 2 40 = sizedE ro.samples.length 1 2 by unfold spansE; rw [if_pos h0], if_pos h0] at r
  exact WM.raise r ⟨h0, rfl, hl2.trans hl⟩
 rintro _ L1 ⟨rfl, h0, hl1⟩
 have hS : spansE ro.samples 2 40 = spanLE 40 ro.samples := by unfold spansE; rw [if_neg (sizedI h0)]
 rw [hS] at hE1
 have hl1 := hl2.trans hl1
 clear hl2
 refine W.go 99 rfl ?_
 refine W.vf rfl rfl rfl rfl (Vf.load rfl rfl rfl (hl1.cell (hb 3 _ rfl))) ?_
 refine W.go 99 rfl ?_
 refine W.loop (fun m' E B L' => ∃ i : Nat, m' = ro.samples.length - i ∧ i ≤ ro.samples.length ∧ spanLE 40 (ro.samples.drop i) = spanLE 40 ro.samples ∧ Le L L' ∧
   E = [(0, .v (pt br)), (89, .v (.slice a3 ro.samples.length k3)), (90, .v (.int .i64 ro.samples.length)), (91, .v (.int .i64 i))] ∧ B = [])
  ⟨0, rfl, by omega, by simp, hl1, rfl, rfl⟩ (by exact ⟨rfl, rfl, rfl, rfl, trivial⟩) trivial ?_
 rintro _ _ _ L2 ⟨i, rfl, h1, hg, hl2, rfl, rfl⟩ again
 refine W.go 99 rfl ?_
 refine W.split rfl rfl rfl (fun d1 => W.go 99 rfl ?_) (fun d1 => W.go 99 rfl ?_)
 ·have hi : i < ro.samples.length := by simpa using d1
  have hd := List.drop_eq_getElem_cons hi
  obtain ⟨a, ha⟩ := h.h3.addr hi
  obtain rfl : a3 = some a := ha
  rw [hd, spanLE] at hg
  refine W.vf rfl rfl rfl rfl (Vf.idx rfl rfl rfl rfl rfl rfl (hi)) ?_
  refine W.go 99 rfl ?_
  refine W.vf rfl rfl rfl rfl (Vf.loadN rfl rfl rfl ((h.h3.le hl2).whole (List.getElem?_eq_getElem hi) rfl)) ?_
  refine W.go 99 rfl ?_
  refine W.callP rfl rfl rfl rfl (checkSpan_g _ 40 _) ?_ ?_
  ·rintro _ L3 ⟨rfl, c3, hl3⟩
   rw [if_neg (by simpa using c3)] at hg
   refine W.go 99 rfl ?_
   exact W.again (again _ _ _ _ (by omega) ⟨i + 1, rfl, by omega, hg, hl2.trans hl3, rfl, rfl⟩) ⟨rfl, rfl, rfl, congrArg some (inc64 (by omega)), trivial⟩ trivial
  ·rintro _ L3 ⟨c3, rfl, hl3⟩
   rw [if_pos c3] at hg
   rw [hE1, ← hg, if_pos c3] at r
   exact WM.raise r ⟨c3, rfl, hl2.trans hl3⟩
 have hg0 : spanLE 40 ro.samples = 0 := by rw [← hg, List.drop_of_length_le (by simp at d1; omega)]; rfl
 rw [if_neg (by simpa using hg0)] at hE1
 clear again hg d1 h0 h1 hl1
 refine W.vf rfl rfl rfl rfl (Vf.load rfl rfl rfl (hl2.cell (hb 4 _ rfl))) ?_
 refine W.go 99 rfl ?_
 refine W.callP rfl rfl rfl rfl (must_g _ _ _) ?_ ?_
 rotate_left
 ·rintro _ _ ⟨c1, rfl, rfl⟩
  rw [hE1, if_pos (by simp at c1; omega)] at r
  exact WM.raise r ⟨by decide, rfl, hl2⟩
 rintro _ _ ⟨rfl, c1, rfl⟩
 rw [if_neg (by simp at c1; omega)] at hE1
 refine W.go 99 rfl ?_
 refine W.vf rfl rfl rfl rfl (Vf.load rfl rfl rfl (hl2.cell (hb 4 _ rfl))) ?_
 refine W.go 99 rfl ?_
 refine W.loop (fun m' E B L' => ∃ i : Nat, m' = ro.sights.length - i ∧ i ≤ ro.sights.length ∧ sightsE ro (ro.sights.drop i) = sightsE ro ro.sights ∧ Le L L' ∧
   E = [(0, .v (pt br)), (104, .v (.slice a4 ro.sights.length k4)), (105, .v (.int .i64 ro.sights.length)), (106, .v (.int .i64 i))] ∧ B = [])
  ⟨0, rfl, by omega, by simp, hl2, rfl, rfl⟩ (by exact ⟨rfl, rfl, rfl, rfl, trivial⟩) trivial ?_
 clear hl2 c1
 rintro _ _ _ L2 ⟨i, rfl, h1, hg, hl2, rfl, rfl⟩ again
 refine W.go 99 rfl ?_
 refine W.split rfl rfl rfl (fun d1 => W.go 99 rfl ?_) (fun d1 => W.go 99 rfl ?_)
 ·have hi : i < ro.sights.length := by simpa using d1
  have hd := List.drop_eq_getElem_cons hi
  obtain ⟨a, ha⟩ := h.h4.addr hi
  obtain rfl : a4 = some a := ha
  rw [hd, sightsE] at hg
  refine W.vf rfl rfl rfl rfl (Vf.idx rfl rfl rfl rfl rfl rfl (hi)) ?_
  refine W.go 99 rfl ?_
  refine W.vf rfl rfl rfl rfl (Vf.loadN rfl rfl rfl ((h.h4.le hl2).whole (List.getElem?_eq_getElem hi) rfl)) ?_
  refine W.go 99 rfl ?_
  refine W.vf rfl rfl rfl rfl (Vf.loadN rfl rfl rfl ((⟨rfl, fun j v hv => by rw [add_of, Nat.zero_add]; exact hl2.cell (hb j v hv)⟩ : cellsAt L2 ⟨br, 0, none⟩ 5 (roL ro ⟨a0, a1, a2, a3, some a, k0, k1, k2, k3, k4⟩)))) ?_
  refine W.go 99 rfl ?_
  refine W.callP rfl rfl rfl rfl (checkSight_g ro ⟨a0, a1, a2, a3, some a, k0, k1, k2, k3, k4⟩ _ _ (h.le hl2)) ?_ ?_
  ·rintro _ L3 ⟨rfl, c3, hl3⟩
   rw [if_neg (by simpa using c3)] at hg
   refine W.go 99 rfl ?_
   exact W.again (again _ _ _ _ (by omega) ⟨i + 1, rfl, by omega, hg, hl2.trans hl3, rfl, rfl⟩) ⟨rfl, rfl, rfl, congrArg some (inc64 (by omega)), trivial⟩ trivial
  ·rintro _ L3 ⟨c3, rfl, hl3⟩
   rw [if_pos c3] at hg
   rw [hE1, ← hg] at r
   exact WM.raise r ⟨c3, rfl, hl2.trans hl3⟩
 have hg0 : sightsE ro ro.sights = 0 := by rw [← hg, List.drop_of_length_le (by simp at d1; omega)]; rfl
 rw [hg0] at hE1
 exact W.ret0 r rfl rfl ⟨rfl, hE1, hl2⟩
theorem CheckRow_t (ro : Ro) (p : BP) (L : LH) (h : RoAt L ro p) : Sp X 129 [roA ro p] L (fun v L' => v = .int .i64 (rowE ro) ∧ Le L L') := by
 refine Sp.enter (n := 5) Tryz.func129 rfl rfl rfl rfl fun C hX _ hL0 r => ?_
 refine W.go 99 rfl ?_
 refine W.pub 1 (.inl ⟨_, rfl⟩) rfl rfl ?_
 intro br hbr _
 have hle := Le.put hbr (.cells (roL ro p).toArray 48)
 have hcell : ∀ (i : Nat) (v : Value), (roL ro p)[i]? = some v → (L.put br (.cells (roL ro p).toArray 48)).cell? ⟨br, i, none⟩ = some v := fun i v hv => cell_of (put_same _ _ _) (by rw [List.getElem?_toArray]; exact hv)
 refine W.eff rfl rfl rfl (Ef.call rfl (errno_g 167 [pt br] (rowE ro) _ (fun L1 hl => Check1_g br ro p L1 (fun i v hv => hl.cell (hcell i v hv)) ((h.le hle).le hl)))) ?_
 rintro _ _ _ ⟨_, rfl, rfl, rfl, hl⟩
 refine W.go 99 rfl ?_
 refine W.ret r rfl rfl ?_
 exact ⟨rfl, hle.trans hl⟩
end Go.Mz


namespace Go.Mz
open Go
structure Want where
 sort : Int
 kind : Int
 amount : Int
 pay : Int
deriving DecidableEq
structure Sw where
 loaves : List (List Int)
 stock : List Int
 kerf : Int
 wants : List Want
deriving DecidableEq
def upB (p : Option Int) (n : Int) : Bool := match p with
 | some q => decide (q < n)
 | none => false
def loafGo : Option Int → List Int → Int
 | _, [] => 0
 | p, n :: t => if !inB n 1 9 then 1 else if upB p n then 5 else loafGo (some n) t
def loafE (l : List Int) : Int := if sizedE l.length 1 4 ≠ 0 then sizedE l.length 1 4 else loafGo none l
def wLo (x : Want) : Int := if x.sort = 0 then 0 else 1
def wHi (ls : List (List Int)) (x : Want) : Int := if x.sort = 0 then 0 else if x.sort = 1 then 60 else ((ls.getD x.kind.toNat []).length : Int) - 1
def wKd (x : Want) : Int := if x.sort = 1 then -1 else 0
def wantE (ls : List (List Int)) (x : Want) : Int :=
 if !inB x.sort 0 2 then 8 else
 if !inB x.kind (wKd x) ((ls.length : Int) - 1) then 3 else
 if inB x.amount (wLo x) (wHi ls x) && inB x.pay 0 30 then 0 else 1
def loavesE : List (List Int) → Int
 | [] => 0
 | x :: l => if loafE x ≠ 0 then loafE x else loavesE l
def stockB : List Int → Bool
 | [] => true
 | x :: l => inB x 0 4 && stockB l
def wantsE (ls : List (List Int)) : List Want → Int
 | [] => 0
 | x :: l => if wantE ls x ≠ 0 then wantE ls x else wantsE ls l
def sawE (s : Sw) : Int :=
 if sizedE s.loaves.length 1 3 ≠ 0 then sizedE s.loaves.length 1 3 else
 if loavesE s.loaves ≠ 0 then loavesE s.loaves else
 if s.stock.length ≠ s.loaves.length then 9 else
 if !stockB s.stock then 1 else
 if !inB s.kerf 0 3 then 1 else
 if 5 < s.wants.length then 6 else wantsE s.loaves s.wants
end Go.Mz

