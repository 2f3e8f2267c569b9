/- Lemmas on which the claim leans. -/
import Derived.Test.YtnhckcgdmolgcaaGreatDoorMzAo
import Derived.Conc.WgGenN3
set_option maxRecDepth 100000
namespace Go.Mz
open Go.Conc Go.ConcN Go.Proofs
open Go.ConcR (KK wgBlock WgAt stA smA rd wr mk)
abbrev lnk : Go.Conc.Lib.WgLink := { add := 125, done := 127, wait := 129, relMerge := 149, disable := 150, enable := 151, inBubble := 152, associate := 153, fatal := 154, uOr := 155, uAdd := 156, raceRead := 157, uLoad := 158, uStore := 159, disassociate := 160, semrelease := 161, acquire := 162, isAssociated := 163, uCas := 164, raceWrite := 165, semacquire := 166, orU64 := 172, addU64 := 173, loadU64 := 174, storeU64 := 175, casU64 := 176, tWgP := 215, tUP := 202, tAssoc := 217, tWg := 180, tAU := 177, tU64 := 96, tUint := 154, tU32 := 178, tPU32 := 221, tPAU := 245, tPU64 := 247, tNoCopy := 173, tANoCopy := 174, tAlign64 := 175 }
theorem wgLib : Go.Conc.Lib.WgLib Tryz.prog lnk :=
 ⟨Tryz.func125, Tryz.func127, Tryz.func129, Tryz.func149, Tryz.func150, Tryz.func151, Tryz.func152, Tryz.func153, Tryz.func154, Tryz.func155, Tryz.func156, Tryz.func157, Tryz.func158, Tryz.func159, Tryz.func160, Tryz.func161, Tryz.func162, Tryz.func163, Tryz.func164, Tryz.func165, Tryz.func166, Tryz.func172, Tryz.func173, Tryz.func174, Tryz.func175, Tryz.func176, Tryz.underlying215, Tryz.runUnderlying215, Tryz.sizeOf215, Tryz.isAgg215, Tryz.zeroValue215, Tryz.underlying202, Tryz.runUnderlying202, Tryz.sizeOf202, Tryz.isAgg202, Tryz.zeroValue202, Tryz.underlying217, Tryz.runUnderlying217, Tryz.sizeOf217, Tryz.isAgg217, Tryz.zeroValue217, Tryz.underlying180, Tryz.runUnderlying180, Tryz.sizeOf180, Tryz.isAgg180, Tryz.zeroValue180, Tryz.underlying177, Tryz.runUnderlying177, Tryz.sizeOf177, Tryz.isAgg177, Tryz.zeroValue177, Tryz.underlying96, Tryz.runUnderlying96, Tryz.sizeOf96, Tryz.isAgg96, Tryz.zeroValue96, Tryz.underlying154, Tryz.runUnderlying154, Tryz.sizeOf154, Tryz.isAgg154, Tryz.zeroValue154, Tryz.underlying178, Tryz.runUnderlying178, Tryz.sizeOf178, Tryz.isAgg178, Tryz.zeroValue178, Tryz.underlying221, Tryz.runUnderlying221, Tryz.sizeOf221, Tryz.isAgg221, Tryz.zeroValue221, Tryz.underlying245, Tryz.runUnderlying245, Tryz.sizeOf245, Tryz.isAgg245, Tryz.zeroValue245, Tryz.underlying247, Tryz.runUnderlying247, Tryz.sizeOf247, Tryz.isAgg247, Tryz.zeroValue247, Tryz.underlying0, Tryz.runUnderlying0, Tryz.sizeOf0, Tryz.isAgg0, Tryz.zeroValue0, Tryz.underlying3, Tryz.runUnderlying3, Tryz.sizeOf3, Tryz.isAgg3, Tryz.zeroValue3, Tryz.underlying4, Tryz.runUnderlying4, Tryz.sizeOf4, Tryz.isAgg4, Tryz.zeroValue4, Tryz.underlying9, Tryz.runUnderlying9, Tryz.sizeOf9, Tryz.isAgg9, Tryz.zeroValue9, Tryz.underlying20, Tryz.runUnderlying20, Tryz.sizeOf20, Tryz.isAgg20, Tryz.zeroValue20, Tryz.underlying21, Tryz.runUnderlying21, Tryz.sizeOf21, Tryz.isAgg21, Tryz.zeroValue21, (by kernel_rfl), (by kernel_rfl)⟩
open Extern in
def x150 : Array Value → Sem Value := fun _ => do mark .disable; pure Race.none_
open Extern in
def x151 : Array Value → Sem Value := fun _ => do mark .enable; pure Race.none_
open Extern in
def x157 : Array Value → Sem Value := Race.marked .read
open Extern in
def x162 : Array Value → Sem Value := Race.marked .acquire
open Extern in
def x165 : Array Value → Sem Value := Race.marked .write
open Extern in
def x173 : Array Value → Sem Value := Atomic.update (Op.intArith .add) .u64 true
open Extern in
def x174 : Array Value → Sem Value := Atomic.loadT (.int .u64)
open Extern in
def x176 : Array Value → Sem Value := Atomic.casT (.int .u64)
open Extern in
def x166 : Array Value → Sem Value := Sync.semacquire
def x152 : Array Value → Sem Value := fun _ => pure (.bool false)
theorem ext152 : Ext Tryz.prog 152 Tryz.f152 x152 := ⟨Tryz.func152, by kernel_rfl, rfl, by kernel_rfl, by kernel_rfl⟩
theorem ext150 : Ext Tryz.prog 150 Tryz.f150 x150 := ⟨Tryz.func150, by kernel_rfl, rfl, by kernel_rfl, by kernel_rfl⟩
theorem ext151 : Ext Tryz.prog 151 Tryz.f151 x151 := ⟨Tryz.func151, by kernel_rfl, rfl, by kernel_rfl, by kernel_rfl⟩
theorem ext157 : Ext Tryz.prog 157 Tryz.f157 x157 := ⟨Tryz.func157, by kernel_rfl, rfl, by kernel_rfl, by kernel_rfl⟩
theorem ext162 : Ext Tryz.prog 162 Tryz.f162 x162 := ⟨Tryz.func162, by kernel_rfl, rfl, by kernel_rfl, by kernel_rfl⟩
theorem ext165 : Ext Tryz.prog 165 Tryz.f165 x165 := ⟨Tryz.func165, by kernel_rfl, rfl, by kernel_rfl, by kernel_rfl⟩
theorem ext173 : Ext Tryz.prog 173 Tryz.f173 x173 := ⟨Tryz.func173, by kernel_rfl, rfl, by kernel_rfl, by kernel_rfl⟩
theorem ext174 : Ext Tryz.prog 174 Tryz.f174 x174 := ⟨Tryz.func174, by kernel_rfl, rfl, by kernel_rfl, by kernel_rfl⟩
theorem ext176 : Ext Tryz.prog 176 Tryz.f176 x176 := ⟨Tryz.func176, by kernel_rfl, rfl, by kernel_rfl, by kernel_rfl⟩
theorem ext166 : Ext Tryz.prog 166 Tryz.f166 x166 := ⟨Tryz.func166, by kernel_rfl, rfl, by kernel_rfl, by kernel_rfl⟩
abbrev ptA (a : Addr) : Value := .pointer (some a)
structure AddS (W : Nat) (S1 S2 S3 S4 S5 : Goroutine → LH → Prop) : Prop where
 h1 : ∀ g g' L, g.status = .running → (∀ w, stepG Tryz.prog true g w = .go g' w #[mk .disable]) → Way Tryz.prog true (WgLive 180 W) S2 g' L → S1 g L
 h2 : ∀ g L, g.status = .running → (∀ v : Nat, v < 2147483647 → ∃ g', (∀ w, WgAt 180 W w ((v : Int) * KK) 0 → stepG Tryz.prog true g w = .go g' (w.setCell (stA W) (.int .u64 (((v : Int) + 1) * KK))) #[rd (stA W), wr (stA W)]) ∧
  (Way Tryz.prog true (WgLive 180 W) S3 g' L ∨ Way Tryz.prog true (WgLive 180 W) S4 g' L)) → S2 g L
 h3 : ∀ g g' L, g.status = .running → (∀ w, stepG Tryz.prog true g w = .go g' w #[mk (.read (smA W))]) → Way Tryz.prog true (WgLive 180 W) S4 g' L → S3 g L
 h4 : ∀ g g' L, g.status = .running → (∀ w, stepG Tryz.prog true g w = .go g' w #[mk .enable]) → Way Tryz.prog true (WgLive 180 W) S5 g' L → S4 g L
theorem kk_add (v : Nat) (hv : v < 2147483647) : IntKind.u64.wrap ((v : Int) * KK + 4294967296) = ((v : Int) + 1) * KK := by
 rw [IntKind.wrap_u64]; simp only [KK]; omega
variable {W0 : Nat} {S1 S2 S3 S4 S5 : Goroutine → LH → Prop}
theorem uAdd_sp (H : AddS W0 S1 S2 S3 S4 S5) (L : LH) : SpX (LWay Tryz.prog true (WgLive 180 W0) S2) 156 [ptA (stA W0), .int .u64 4294967296] L
  (fun Y v L' => ∃ m : Nat, m < 2147483647 ∧ v = .int .u64 (((m : Int) + 1) * KK) ∧ L' = L ∧ (m = 0 → Y = LWay Tryz.prog true (WgLive 180 W0) S3) ∧ (m ≠ 0 → Y = LWay Tryz.prog true (WgLive 180 W0) S4)) := by
 refine SpX.enter (n := 10) Tryz.func156 rfl rfl rfl rfl fun C hX _ hL0 r => ?_
 have hkd : C.kd ≠ .early := by rcases r.kd with e | e <;> rw [e] <;> decide
 refine W.go 99 rfl ?_
 refine W.atom hX r.ro rfl rfl rfl rfl fun T R g fin hev hwt ho' hg hfin hrun cont => ?_
 refine H.h2 _ _ hrun fun v hv => ⟨fin (.int .u64 (((v : Int) + 1) * KK)), fun w hw => ?_, ?_⟩
 ·rw [hg, hfin]
  exact (stepG_add_atomic ho' hwt hkd rfl ext173.func ext173.name ext173.body ext173.next .u64 ext173.find (hev _ _ _ rfl rfl) (hev _ _ _ rfl rfl) hw.cellSt (hw.thaw 0)).trans (by rw [kk_add v hv]; rfl)
 ·by_cases e : v = 0
  ·refine .inl (cont (LWay Tryz.prog true (WgLive 180 W0) S3) _ ?_)
   refine W.go 99 rfl ?_
   exact W.retX (r.to _) (.inr ⟨_, rfl⟩) rfl rfl ⟨v, hv, rfl, rfl, fun _ => rfl, fun h => absurd e h⟩
  ·refine .inr (cont (LWay Tryz.prog true (WgLive 180 W0) S4) _ ?_)
   refine W.go 99 rfl ?_
   exact W.retX (r.to _) (.inr ⟨_, rfl⟩) rfl rfl ⟨v, hv, rfl, rfl, fun h => absurd h e, fun _ => rfl⟩
end Go.Mz


set_option maxRecDepth 100000
namespace Go.Mz
open Go.Conc Go.ConcN Go.Proofs
open Go.ConcR (KK wgBlock WgAt stA smA rd wr mk)
variable {W0 : Nat} {S1 S2 S3 S4 S5 : Goroutine → LH → Prop}
theorem add_sp (H : AddS W0 S1 S2 S3 S4 S5) (L : LH) : SpX (LWay Tryz.prog true (WgLive 180 W0) S1) 125 [ptA (stA W0), .int .i64 1] L
  (fun Y v L' => Y = LWay Tryz.prog true (WgLive 180 W0) S5 ∧ v = .tuple #[] ∧ L' = L) := by
 refine SpX.enter (n := 117) Tryz.func125 rfl rfl rfl rfl fun C hX _ hL0 r => ?_
 have hkd : C.kd ≠ .early := by rcases r.kd with e | e <;> rw [e] <;> decide
 refine W.go 99 rfl ?_
 refine W.split rfl rfl rfl (fun c => absurd c (by decide)) (fun c => ?_)
 refine W.go 99 rfl ?_
 refine W.mark0 .disable (by simp) ext150.func ext150.name ext150.body ext150.next ext150.find hX r.ro hkd H.h1 rfl rfl rfl ?_
 refine W.go 99 rfl ?_
 refine W.deferF r.ro rfl rfl rfl ?_
 refine W.go 99 rfl ?_
 refine W.eff rfl rfl rfl (Ef.ext rfl (SpE.pure ext152 fun _ _ _ => rfl)) ?_
 rintro _ _ _ ⟨_, rfl, rfl, rfl, rfl⟩
 refine W.go 99 rfl ?_
 refine W.split rfl rfl rfl (fun c => absurd c (by decide)) (fun c => ?_)
 refine W.go 99 rfl ?_
 refine W.callX (args := [ptA (stA W0), .int .u64 4294967296]) rfl rfl rfl rfl (uAdd_sp H L) ?_
 rintro Y v _ ⟨m, hm, rfl, rfl, hY1, hY2⟩
 obtain ⟨V, hV⟩ : ∃ V : Int, V = (m : Int) + 1 := ⟨_, rfl⟩
 obtain ⟨S, hS⟩ : ∃ S : Int, S = V * KK := ⟨_, rfl⟩
 rw [← hV, ← hS]
 have a1 : S.fdiv (2 ^ min 32 IntKind.u64.bits) = V := by
  have e : ((2 : Int) ^ min 32 IntKind.u64.bits) = 4294967296 := by decide
  rw [e, Int.fdiv_eq_ediv_of_nonneg _ (by decide), hS]; simp only [KK]; omega
 have b1 : IntKind.u64.wrap ((BitVec.ofInt IntKind.u64.bits S &&& BitVec.ofInt IntKind.u64.bits 2147483648).toNat : Int) = 0 := by
  have : bits .and .u64 S 2147483648 = 0 := by rw [hS, hV]; have := Go.ConcN.st_flag (m + 1) 0 (by omega) (by omega); simpa [KK] using this
  exact this
 have b2 : IntKind.u64.wrap ((BitVec.ofInt IntKind.u64.bits S &&& BitVec.ofInt IntKind.u64.bits 2147483647).toNat : Int) = 0 := by
  have : bits .and .u64 S 2147483647 = 0 := by rw [hS, hV]; have := Go.ConcN.st_waiters (m + 1) 0 (by omega) (by omega); simpa [KK] using this
  exact this
 have c1 : IntKind.i32.wrap V = V := by rw [IntKind.wrap_i32]; omega
 refine W.go 99 rfl ?_
 rw [b1]
 refine W.split rfl rfl rfl (fun c => absurd c (by decide)) (fun c => ?_)
 refine W.go 99 rfl ?_
 rw [b2, a1]
 refine W.split rfl rfl rfl (fun c => ?_) (fun c => absurd c (by decide))
 refine W.go 99 rfl ?_
 rw [c1]
 refine W.split rfl rfl rfl (fun e => ?_) (fun e => ?_)
 ·have e0 : m = 0 := by simp at e; rw [show IntKind.i32.wrap 1 = 1 by decide] at e; omega
  have hY := hY1 e0
  subst hY
  refine W.go 99 rfl ?_
  refine W.convU rfl r.ro hkd Tryz.underlying221 Tryz.underlying202 (by kernel_rfl) (fun w ⟨st, sm, hw⟩ => ⟨_, hw.cellSm⟩) rfl rfl rfl rfl ?_
  refine W.markA (ad := smA W0) .read (by simp) ext157.func ext157.name ext157.body ext157.next ext157.find rfl r.ro hkd H.h3 rfl rfl rfl rfl ?_
  refine W.go 99 rfl ?_
  refine W.split rfl rfl rfl (fun e => absurd e (by simp; omega)) (fun e => ?_)
  refine W.go 99 rfl ?_
  refine W.split rfl rfl rfl (fun c => absurd c (by decide)) (fun c => ?_)
  refine W.go 99 rfl ?_
  refine W.split rfl rfl rfl (fun e => ?_) (fun e => absurd e (by simp; omega))
  refine W.go 99 rfl ?_
  refine W.out r.ro (.inr .ret) ?_
  refine WM.mark0 .enable (by simp) ext151.func ext151.name ext151.body ext151.next ext151.find rfl r.ro H.h4 ?_
  exact WM.retX (r.to _) rfl rfl ⟨rfl, rfl, rfl⟩
 ·have e0 : m ≠ 0 := fun e0 => by subst e0; rw [hV] at e; revert e; decide
  have hY := hY2 e0
  subst hY
  refine W.go 99 rfl ?_
  refine W.split rfl rfl rfl (fun e => absurd e (by simp; omega)) (fun e => ?_)
  refine W.go 99 rfl ?_
  refine W.split rfl rfl rfl (fun c => absurd c (by decide)) (fun c => ?_)
  refine W.go 99 rfl ?_
  refine W.split rfl rfl rfl (fun e => ?_) (fun e => absurd e (by simp; omega))
  refine W.go 99 rfl ?_
  refine W.out r.ro (.inr .ret) ?_
  refine WM.mark0 .enable (by simp) ext151.func ext151.name ext151.body ext151.next ext151.find rfl r.ro H.h4 ?_
  exact WM.retX (r.to _) rfl rfl ⟨rfl, rfl, rfl⟩
end Go.Mz


set_option maxRecDepth 100000
namespace Go.Mz
open Go.Conc Go.ConcN Go.Proofs
open Go.ConcR (KK wgBlock WgAt stA smA rd wr mk)
structure WaitS (W : Nat) (Sd Sl : Goroutine → LH → Prop) (Sc : Nat → Goroutine → LH → Prop) (Ss Sm S4 Se Sa Sx An : Goroutine → LH → Prop) : Prop where
 h1 : ∀ g g' L, g.status = .running → (∀ w, stepG Tryz.prog false g w = .go g' w #[mk .disable]) → Way Tryz.prog false (WgLive 180 W) Sl g' L → Sd g L
 h2 : ∀ g L, g.status = .running → (∃ g', (∀ w, WgAt 180 W w 0 0 → stepG Tryz.prog false g w = .go g' w #[rd (stA W)]) ∧ Way Tryz.prog false (WgLive 180 W) Se g' L) →
  (∀ v : Nat, 0 < v → v < 2147483648 → ∃ g', (∀ w, WgAt 180 W w ((v : Int) * KK) 0 → stepG Tryz.prog false g w = .go g' w #[rd (stA W)]) ∧ Way Tryz.prog false (WgLive 180 W) (Sc v) g' L) → Sl g L
 h3 : ∀ (vs : Nat) g L, g.status = .running → (∃ g', (∀ w, WgAt 180 W w ((vs : Int) * KK) 0 → stepG Tryz.prog false g w = .go g' (w.setCell (stA W) (.int .u64 ((vs : Int) * KK + 1))) #[rd (stA W), wr (stA W)]) ∧ Way Tryz.prog false (WgLive 180 W) Ss g' L) →
  (∃ g', (∀ w (v : Nat), v ≠ vs → v < 2147483648 → WgAt 180 W w ((v : Int) * KK) 0 → stepG Tryz.prog false g w = .go g' w #[rd (stA W)]) ∧ Way Tryz.prog false (WgLive 180 W) An g' L) → Sc vs g L
 h4 : ∀ g g' L, g.status = .running → (∀ w, stepG Tryz.prog false g w = .go g' w #[mk (.write (smA W))]) → Way Tryz.prog false (WgLive 180 W) Sm g' L → Ss g L
 h5 : ∀ g L, g.status = .running → g.offers = none → (∀ w st, WgAt 180 W w st 0 → stepG Tryz.prog false g w = .go { g with status := .blocked } w #[]) →
  (∃ g', (∀ w, WgAt 180 W w 0 1 → stepG Tryz.prog false g w = .go g' (w.setCell (smA W) (.int .u32 0)) (semEvents (smA W))) ∧ Way Tryz.prog false (WgLive 180 W) S4 g' L) → Sm g L
 h6 : ∀ g L, g.status = .running → (∃ g', (∀ w, WgAt 180 W w 0 0 → stepG Tryz.prog false g w = .go g' w #[rd (stA W)]) ∧ Way Tryz.prog false (WgLive 180 W) Se g' L) → S4 g L
 h7 : ∀ g g' L, g.status = .running → (∀ w, stepG Tryz.prog false g w = .go g' w #[mk .enable]) → Way Tryz.prog false (WgLive 180 W) Sa g' L → Se g L
 h8 : ∀ g g' L, g.status = .running → (∀ w, stepG Tryz.prog false g w = .go g' w #[mk (.acquire (stA W))]) → Way Tryz.prog false (WgLive 180 W) Sx g' L → Sa g L
variable {W0 : Nat} {Sd Sl : Goroutine → LH → Prop} {Sc : Nat → Goroutine → LH → Prop} {Ss Sm S4 Se Sa Sx An : Goroutine → LH → Prop}
abbrev LW (W0 : Nat) (S : Goroutine → LH → Prop) : Logic Tryz.prog := LWay Tryz.prog false (WgLive 180 W0) S
theorem uLoad_sp (H : WaitS W0 Sd Sl Sc Ss Sm S4 Se Sa Sx An) (L : LH) : SpX (LW W0 Sl) 158 [ptA (stA W0)] L
  (fun Y v L' => L' = L ∧ ((v = .int .u64 0 ∧ Y = LW W0 Se) ∨ ∃ m : Nat, 0 < m ∧ m < 2147483648 ∧ v = .int .u64 ((m : Int) * KK) ∧ Y = LW W0 (Sc m))) := by
 refine SpX.enter (n := 7) Tryz.func158 rfl rfl rfl rfl fun C hX _ hL0 r => ?_
 have hkd : C.kd ≠ .early := by rcases r.kd with e | e <;> rw [e] <;> decide
 refine W.go 99 rfl ?_
 refine W.atom hX r.ro rfl rfl rfl rfl fun T R g fin hev hwt ho' hg hfin hrun cont => ?_
 refine H.h2 _ _ hrun ⟨fin (.int .u64 0), fun w hw => ?_, ?_⟩ fun v hv0 hv => ⟨fin (.int .u64 ((v : Int) * KK)), fun w hw => ?_, ?_⟩
 ·rw [hg, hfin]
  exact stepG_load_atomic ho' hwt hkd rfl ext174.func ext174.name ext174.body ext174.next .u64 ext174.find (hev _ _ _ rfl rfl) hw.cellSt
 ·refine cont (LW W0 Se) _ ?_
  refine W.go 99 rfl ?_
  exact W.retX (r.to _) (.inr ⟨_, rfl⟩) rfl rfl ⟨rfl, .inl ⟨rfl, rfl⟩⟩
 ·rw [hg, hfin]
  exact stepG_load_atomic ho' hwt hkd rfl ext174.func ext174.name ext174.body ext174.next .u64 ext174.find (hev _ _ _ rfl rfl) hw.cellSt
 ·refine cont (LW W0 (Sc v)) _ ?_
  refine W.go 99 rfl ?_
  exact W.retX (r.to _) (.inr ⟨_, rfl⟩) rfl rfl ⟨rfl, .inr ⟨v, hv0, hv, rfl, rfl⟩⟩
theorem uLoad4_sp (H : WaitS W0 Sd Sl Sc Ss Sm S4 Se Sa Sx An) (L : LH) : SpX (LW W0 S4) 158 [ptA (stA W0)] L
  (fun Y v L' => L' = L ∧ v = .int .u64 0 ∧ Y = LW W0 Se) := by
 refine SpX.enter (n := 7) Tryz.func158 rfl rfl rfl rfl fun C hX _ hL0 r => ?_
 have hkd : C.kd ≠ .early := by rcases r.kd with e | e <;> rw [e] <;> decide
 refine W.go 99 rfl ?_
 refine W.atom hX r.ro rfl rfl rfl rfl fun T R g fin hev hwt ho' hg hfin hrun cont => ?_
 refine H.h6 _ _ hrun ⟨fin (.int .u64 0), fun w hw => ?_, ?_⟩
 ·rw [hg, hfin]
  exact stepG_load_atomic ho' hwt hkd rfl ext174.func ext174.name ext174.body ext174.next .u64 ext174.find (hev _ _ _ rfl rfl) hw.cellSt
 ·refine cont (LW W0 Se) _ ?_
  refine W.go 99 rfl ?_
  exact W.retX (r.to _) (.inr ⟨_, rfl⟩) rfl rfl ⟨rfl, rfl, rfl⟩
theorem uCas_sp (H : WaitS W0 Sd Sl Sc Ss Sm S4 Se Sa Sx An) (m : Nat) (hm0 : 0 < m) (hm : m < 2147483648) (L : LH) : SpX (LW W0 (Sc m)) 164 [ptA (stA W0), .int .u64 ((m : Int) * KK), .int .u64 ((m : Int) * KK + 1)] L
  (fun Y v L' => L' = L ∧ ((v = .bool true ∧ Y = LW W0 Ss) ∨ (v = .bool false ∧ Y = LW W0 An))) := by
 refine SpX.enter (n := 13) Tryz.func164 rfl rfl rfl rfl fun C hX _ hL0 r => ?_
 have hkd : C.kd ≠ .early := by rcases r.kd with e | e <;> rw [e] <;> decide
 refine W.go 99 rfl ?_
 refine W.atom hX r.ro rfl rfl rfl rfl fun T R g fin hev hwt ho' hg hfin hrun cont => ?_
 refine H.h3 m _ _ hrun ⟨fin (.bool true), fun w hw => ?_, ?_⟩ ⟨fin (.bool false), fun w v hne hv hw => ?_, ?_⟩
 ·rw [hg, hfin]
  exact stepG_cas_hit ho' hwt hkd rfl ext176.func ext176.name ext176.body ext176.next .u64 ext176.find (hev _ _ _ rfl rfl) (hev _ _ _ rfl rfl) (hev _ _ _ rfl rfl) hw.cellSt (hw.thaw 0)
 ·refine cont (LW W0 Ss) _ ?_
  refine W.go 99 rfl ?_
  exact W.retX (r.to _) (.inr ⟨_, rfl⟩) rfl rfl ⟨rfl, .inl ⟨rfl, rfl⟩⟩
 ·rw [hg, hfin]
  exact stepG_cas_miss ho' hwt hkd rfl ext176.func ext176.name ext176.body ext176.next .u64 ext176.find (hev _ _ _ rfl rfl) (hev _ _ _ rfl rfl) (hev _ _ _ rfl rfl) hw.cellSt (hw.thaw 0) (by simp only [KK]; omega)
 ·refine cont (LW W0 An) _ ?_
  refine W.go 99 rfl ?_
  exact W.retX (r.to _) (.inr ⟨_, rfl⟩) rfl rfl ⟨rfl, .inr ⟨rfl, rfl⟩⟩
noncomputable def wtC : Code := match Tryz.f129.body with | some (.seq _ (.block _ (.loop c))) => c | _ => .skip
noncomputable def wtK : List Item := [.inLoop wtC, .inBlock 0]
def AnW (W0 : Nat) (Sx : Goroutine → LH → Prop) (g : Goroutine) (R : LH) : Prop :=
 ∃ (T : Array Value) (kd : CallKind) (c : Frame) (cs : List Frame), T.size = 84 ∧ T.getD 0 undef = ptA (stA W0) ∧ (kd = .normal ∨ kd = .wrapped) ∧ g = G (Fr 129 T wtK [] .run kd none) (c :: cs) ∧ ∀ R', Le R R' → (LW W0 Sx).Go (G (c.finish (.tuple #[])) cs) R'
abbrev WaitQ (W0 : Nat) (Sx : Goroutine → LH → Prop) (L : LH) : Logic Tryz.prog → Value → LH → Prop := fun Y v L' => Y = LW W0 Sx ∧ v = .tuple #[] ∧ L' = L
theorem wait_round (H : WaitS W0 Sd Sl Sc Ss Sm S4 Se Sa Sx (AnW W0 Sx)) {C : Cx Tryz.prog} {L : LH} (hX : C.X = LW W0 Sl) (hf : C.f = 129) (hL : C.L0 = L) (r : RtX C Tryz.f129 (WaitQ W0 Sx L)) : W C 84 [] (.code wtC :: wtK) [(0, .v (ptA (stA W0)))] [] L := by
 have hkd : C.kd ≠ .early := by rcases r.kd with e | e <;> rw [e] <;> decide
 refine W.go 99 rfl ?_
 refine W.callX rfl rfl rfl rfl (by rw [hX]; exact uLoad_sp H L) ?_
 rintro Y v L' ⟨rfl, ⟨rfl, rfl⟩ | ⟨m, hm0, hm, rfl, rfl⟩⟩
 ·refine W.go 99 rfl ?_
  refine W.split rfl rfl rfl (fun c => ?_) (fun c => absurd c (by decide))
  refine W.go 99 rfl ?_
  refine W.mark0 .enable (by simp) ext151.func ext151.name ext151.body ext151.next ext151.find rfl r.ro hkd H.h7 rfl rfl rfl ?_
  refine W.go 99 rfl ?_
  refine W.convU rfl r.ro hkd Tryz.underlying215 Tryz.underlying202 (by kernel_rfl) (fun w ⟨st, sm, hw⟩ => ⟨_, hw.cellSt⟩) rfl rfl rfl rfl ?_
  refine W.markA .acquire (by simp) ext162.func ext162.name ext162.body ext162.next ext162.find rfl r.ro hkd H.h8 rfl rfl rfl rfl ?_
  refine W.go 99 rfl ?_
  refine W.split rfl rfl rfl (fun c => ?_) (fun c => absurd c (by decide))
  refine W.go 99 rfl ?_
  refine W.split rfl rfl rfl (fun c => absurd c (by decide)) (fun c => ?_)
  refine W.go 99 rfl ?_
  exact W.retX (r.to _) (.inr ⟨_, rfl⟩) rfl rfl ⟨rfl, rfl, rfl⟩
 ·have e32 : ((2 : Int) ^ min 32 IntKind.u64.bits) = 4294967296 := by decide
  have a1 : ((m : Int) * KK).fdiv (2 ^ min 32 IntKind.u64.bits) = m := by
   rw [e32, Int.fdiv_eq_ediv_of_nonneg _ (by decide)]; simp only [KK]; omega
  have c1 : IntKind.i32.wrap (m : Int) = m := by rw [IntKind.wrap_i32]; omega
  have b1 : IntKind.u64.wrap ((BitVec.ofInt IntKind.u64.bits ((m : Int) * KK) &&& BitVec.ofInt IntKind.u64.bits 2147483648).toNat : Int) = 0 := by
   have : bits .and .u64 ((m : Int) * KK) 2147483648 = 0 := by have := Go.ConcN.st_flag m 0 (by omega) (by omega); simpa [KK] using this
   exact this
  have b2 : IntKind.u64.wrap ((BitVec.ofInt IntKind.u64.bits ((m : Int) * KK) &&& BitVec.ofInt IntKind.u64.bits 2147483647).toNat : Int) = 0 := by
   have : bits .and .u64 ((m : Int) * KK) 2147483647 = 0 := by have := Go.ConcN.st_waiters m 0 (by omega) (by omega); simpa [KK] using this
   exact this
  have w1 : IntKind.u64.wrap ((m : Int) * KK + 1) = (m : Int) * KK + 1 := by rw [IntKind.wrap_u64]; simp only [KK]; omega
  refine W.go 99 rfl ?_
  rw [a1, c1, b2]
  refine W.split rfl rfl rfl (fun e => absurd e (by simp; omega)) (fun e => ?_)
  refine W.go 99 rfl ?_
  rw [w1]
  refine W.callX rfl rfl rfl rfl (uCas_sp H m hm0 hm L') ?_
  rintro Y v _ ⟨rfl, ⟨rfl, rfl⟩ | ⟨rfl, rfl⟩⟩
  ·refine W.go 99 rfl ?_
   refine W.split rfl rfl rfl (fun c => ?_) (fun c => absurd c (by decide))
   refine W.go 99 rfl ?_
   refine W.split rfl rfl rfl (fun c => ?_) (fun c => absurd c (by decide))
   refine W.go 99 rfl ?_
   refine W.convU rfl r.ro hkd Tryz.underlying221 Tryz.underlying202 (by kernel_rfl) (fun w ⟨st, sm, hw⟩ => ⟨_, hw.cellSm⟩) rfl rfl rfl rfl ?_
   refine W.markA (ad := smA W0) .write (by simp) ext165.func ext165.name ext165.body ext165.next ext165.find rfl r.ro hkd H.h4 rfl rfl rfl rfl ?_
   refine W.go 99 rfl ?_
   rw [b1]
   refine W.split rfl rfl rfl (fun c => absurd c (by decide)) (fun c => ?_)
   refine W.go 99 rfl ?_
   refine W.atom rfl r.ro rfl rfl rfl rfl fun T R g fin hev hwt ho' hg hfin hrun cont => ?_
   refine H.h5 _ _ hrun (by rw [hg]; rfl) (fun w st hw => ?_) ⟨fin (.tuple #[]), fun w hw => ?_, ?_⟩
   ·rw [hg]
    exact stepG_semacquire_wait (ad := smA W0) ho' hwt rfl ext166.func ext166.name ext166.body ext166.next ext166.find (by have h70 := hev (.tmp 70) _ _ rfl rfl; simp [h70]; rfl) hw.cellSm
   ·rw [hg, hfin]
    exact stepG_semacquire (ad := smA W0) (n := 1) ho' hwt hkd rfl ext166.func ext166.name ext166.body ext166.next ext166.find (by have h70 := hev (.tmp 70) _ _ rfl rfl; simp [h70]; rfl) hw.cellSm (by decide) (hw.thaw 1)
   ·refine cont (LW W0 S4) _ ?_
    refine W.go 99 rfl ?_
    refine W.callX rfl rfl rfl rfl (uLoad4_sp H _) ?_
    rintro Y v _ ⟨rfl, rfl, rfl⟩
    refine W.go 99 rfl ?_
    refine W.mark0 .enable (by simp) ext151.func ext151.name ext151.body ext151.next ext151.find rfl r.ro hkd H.h7 rfl rfl rfl ?_
    refine W.go 99 rfl ?_
    refine W.convU rfl r.ro hkd Tryz.underlying215 Tryz.underlying202 (by kernel_rfl) (fun w ⟨st, sm, hw⟩ => ⟨_, hw.cellSt⟩) rfl rfl rfl rfl ?_
    refine W.markA .acquire (by simp) ext162.func ext162.name ext162.body ext162.next ext162.find rfl r.ro hkd H.h8 rfl rfl rfl rfl ?_
    refine W.go 99 rfl ?_
    refine W.split rfl rfl rfl (fun c => absurd c (by decide)) (fun c => ?_)
    refine W.go 99 rfl ?_
    exact W.retX (r.to _) (.inr ⟨_, rfl⟩) rfl rfl ⟨rfl, rfl, rfl⟩
  ·refine W.go 99 rfl ?_
   refine W.split rfl rfl rfl (fun c => absurd c (by decide)) (fun c => ?_)
   refine W.go 99 rfl ?_
   refine W.stop rfl fun T R β hT hE hH => ?_
   obtain ⟨_, hro, hk, c, cs, hcs, h1⟩ := r
   refine ⟨T, C.kd, c, cs, hT, ?_, hk, ?_, fun R' hR => h1 (LW W0 Sx) _ R' _ ⟨rfl, rfl, rfl⟩ ⟨hH.post.le.trans hR, fun b x g1 g2 => hR _ _ (hH.post.keep b x g1 g2), hH.post.fresh, hH.post.dom⟩⟩
   ·exact (Option.some.inj (hE 0 _ rfl)).symm
   ·show G (Fr C.f T _ [] .run C.kd C.ro) C.cs = _
    rw [hf, hro, hcs]
theorem anW_way (H : WaitS W0 Sd Sl Sc Ss Sm S4 Se Sa Sx (AnW W0 Sx)) : ∀ g L, AnW W0 Sx g L → Way Tryz.prog false (WgLive 180 W0) Sl g L := by
 rintro _ R ⟨T, kd, c, cs, hT, h0, hk, rfl, hw⟩
 have r : RtX (⟨LW W0 Sl, 129, kd, none, c :: cs, R, R⟩ : Cx Tryz.prog) Tryz.f129 (WaitQ W0 Sx R) := ⟨Tryz.func129, rfl, hk, c, cs, rfl, by
  rintro Y v R' L' ⟨rfl, rfl, rfl⟩ hp
  exact hw R' hp.le⟩
 have key := wait_round H (C := ⟨LW W0 Sl, 129, kd, none, c :: cs, R, R⟩) (L := R) rfl rfl rfl r T R nm0 hT (fun s x hx => by
  rw [get_cons] at hx
  split at hx
  ·rename_i e; subst e; cases hx; exact congrArg some h0.symm
  ·cases hx) ⟨(fun _ _ _ h => by cases h), (fun _ _ h => by cases h), (fun _ _ h => by cases h), (fun k b x hk => by cases hk), Le.refl _, (fun b x h1 h2 => absurd (h1.symm.trans h2) (by simp)), fun b hb => .inl hb, fun b hb => hb⟩
 exact (LW W0 Sl).inLoop key
theorem wait_sp (H : WaitS W0 Sd Sl Sc Ss Sm S4 Se Sa Sx (AnW W0 Sx)) (L : LH) : SpX (LW W0 Sd) 129 [ptA (stA W0)] L (WaitQ W0 Sx L) := by
 refine SpX.enter (n := 84) Tryz.func129 rfl rfl rfl rfl fun C hX hf hL0 r => ?_
 have hkd : C.kd ≠ .early := by rcases r.kd with e | e <;> rw [e] <;> decide
 refine W.go 99 rfl ?_
 refine W.mark0 .disable (by simp) ext150.func ext150.name ext150.body ext150.next ext150.find hX r.ro hkd H.h1 rfl rfl rfl ?_
 refine W.go 99 rfl ?_
 intro T R β hT hE hH
 have key := wait_round H (C := C.to (LW W0 Sl)) (L := L) rfl hf hL0 (r.to _)
 have hE' : EnvOk nm0 (get [(0, SV.v (ptA (stA W0)))]) T := fun s x hx => by
  rw [get_cons] at hx
  split at hx
  ·rename_i e; subst e; cases hx; exact hE 0 _ rfl
  ·cases hx
 exact (LW W0 Sl).loop (key T R β hT (hE'.mono (nm0_le β)) hH)
end Go.Mz


set_option maxRecDepth 100000
namespace Go.Mz
open Go.Conc Go.ConcN
section
variable {P : Program} {n : Nat} {k : List Item} {E : Env} {B : List (Option Bx)} {L : LH}
structure RtO (C : Cx P) (fn : Func) (s : Nat) (Q : Value → LH → Prop) : Prop where
 ro : C.ro = none
 go : ∀ (T : Array Value) (k : List Item) (v : Value) (R L' : LH), T.getD s undef = v → Q v L' → Post C.L0 C.R0 L' R → C.X.Go (G (Fr C.f T k [] .returning C.kd none) C.cs) R
theorem W.retO {C : Cx P} {fn : Func} {s : Nat} {Q : Value → LH → Prop} {v : Value} (r : RtO C fn s Q) (hs : get E s = some (.v v)) (hq : Q v L) : W C n [] (.code .ret :: k) E B L := by
 intro T R β hT hE hH
 obtain ⟨hro, go⟩ := r
 rw [hro]
 exact C.X.ret (go _ _ v R L (Option.some.inj (hE s _ hs)).symm hq hH.post)
theorem FGo.leave1 {Post : Value → World → Prop} {W0 : World} {f : FuncId} {fn : Func} {s : Nat} {T : Array Value} (hf : P.funcs[f]? = some fn) (hr : fn.results = #[.tmp s]) (hin : P.inits.idxOf? f = none) (h : ∀ w, Sub L w → Same W0 w → Post (T.getD s undef) w) :
  FGo P Post W0 (G (Fr f T k [] .returning .normal none) []) L := by
 refine FGo.done rfl fun w hs hw => ⟨T.getD s undef, #[], ?_, fun e he => by simp at he, h w hs hw⟩
 simp [G, Fr, stepG, unwind, hf, doReturn, results, hr, hin, GStep.after, seen_none]
theorem root_enter {Post : Value → World → Prop} {W0 : World} {f : FuncId} {fn : Func} {body : Code} {args : List Value} {s : Nat} {Q : Value → LH → Prop} (hf : P.funcs[f]? = some fn) (hb : fn.body = some body) (hr : fn.results = #[.tmp s]) (hin : P.inits.idxOf? f = none) (hz : fn.ntmps = n) (hle : Nat.ble args.length n = true)
  (hQ : ∀ v L' w, Q v L' → Sub L' w → Same W0 w → Post v w)
  (h : ∀ C : Cx P, C.X = LFGo P Post W0 → C.f = f → C.L0 = L → RtO C fn s Q → W C n [] [.code body] (argEnv 0 args) [] L) : FGo P Post W0 (G (Frame.enter P f args.toArray .normal) []) L := by
 refine W.start (X := LFGo P Post W0) hf hb hz hle (h _ rfl rfl rfl ⟨rfl, fun T k v R L' hv hq hp => ?_⟩)
 refine FGo.leave1 hf hr hin fun w hs hw => ?_
 rw [hv]
 exact hQ v L' w hq (fun b o wr hb => hs b o wr (hp.le _ _ hb)) hw
end
end Go.Mz


namespace Go.Mz
open Go
structure Shelf where
 lift : Int
 room : Int
structure Cone where
 wet : Int
 cold : Int
 jump : Int
 most : Int
structure Stand where
 shelf : Int
 day : Int
deriving DecidableEq
structure St where
 shelves : List Shelf
 cones : List Cone
 days : Int
 now : Int
 rise : Int
 top : Int
def inB (n lo hi : Int) : Bool := decide (lo ≤ n) && decide (n ≤ hi)
theorem inB_iff {n lo hi : Int} : inB n lo hi = true ↔ lo ≤ n ∧ n ≤ hi := by unfold inB; simp
def sizedE (n lo hi : Int) : Int := if n < lo then 7 else if hi < n then 6 else 0
def coneE (x : Cone) : Int := if inB x.wet 1 20 && inB x.cold 0 9 && inB x.jump 0 9 && inB x.most 0 9 then 0 else 1
def firstE : List Int → Int
 | [] => 0
 | e :: l => if e ≠ 0 then e else firstE l
def shelvesE : List Shelf → Bool
 | [] => true
 | x :: l => inB x.lift 0 3 && inB x.room 1 2 && shelvesE l
def conesE : List Cone → Int
 | [] => 0
 | x :: l => if coneE x ≠ 0 then coneE x else conesE l
def checkE (s : St) : Int :=
 if sizedE s.shelves.length 1 3 ≠ 0 then sizedE s.shelves.length 1 3 else
 if !shelvesE s.shelves then 1 else
 if sizedE s.cones.length 0 3 ≠ 0 then sizedE s.cones.length 0 3 else
 if conesE s.cones ≠ 0 then conesE s.cones else
 if inB s.days 1 4 && inB s.now 0 5 && inB s.top 0 5 && inB s.rise 0 3 then 0 else 1
def heatsGo (top rise : Int) : Int → List Int → Int
 | _, [] => 0
 | b, h :: t => if !inB h 0 top then 1 else if IntKind.i64.wrap (b + rise) < h then 12 else heatsGo top rise h t
def heatsE (s : St) (l : List Int) : Int := if sizedE l.length s.days s.days ≠ 0 then sizedE l.length s.days s.days else heatsGo s.top s.rise s.now l
structure Ok (s : St) : Prop where
 s1 : 1 ≤ s.shelves.length
 s3 : s.shelves.length ≤ 3
 sh : ∀ x ∈ s.shelves, 0 ≤ x.lift ∧ x.lift ≤ 3 ∧ 1 ≤ x.room ∧ x.room ≤ 2
 c3 : s.cones.length ≤ 3
 co : ∀ c ∈ s.cones, (1 ≤ c.wet ∧ c.wet ≤ 20) ∧ (0 ≤ c.cold ∧ c.cold ≤ 9) ∧ (0 ≤ c.jump ∧ c.jump ≤ 9) ∧ (0 ≤ c.most ∧ c.most ≤ 9)
 d1 : 1 ≤ s.days
 d4 : s.days ≤ 4
 n0 : 0 ≤ s.now
 n5 : s.now ≤ 5
 t0 : 0 ≤ s.top
 t5 : s.top ≤ 5
 r0 : 0 ≤ s.rise
 r3 : s.rise ≤ 3
theorem sizedE_0 {n lo hi : Int} : sizedE n lo hi = 0 ↔ lo ≤ n ∧ n ≤ hi := by
 unfold sizedE
 split
 ·constructor
  ·intro h; cases h
  ·omega
 ·split
  ·constructor
   ·intro h; cases h
   ·omega
  ·constructor
   ·omega
   ·intro _; rfl
theorem coneE_0 {x : Cone} : coneE x = 0 ↔ (1 ≤ x.wet ∧ x.wet ≤ 20) ∧ (0 ≤ x.cold ∧ x.cold ≤ 9) ∧ (0 ≤ x.jump ∧ x.jump ≤ 9) ∧ (0 ≤ x.most ∧ x.most ≤ 9) := by
 unfold coneE
 split
 ·rename_i h
  simp only [Bool.and_eq_true, inB_iff] at h
  exact ⟨fun _ => ⟨h.1.1.1, h.1.1.2, h.1.2, h.2⟩, fun _ => rfl⟩
 ·rename_i h
  simp only [Bool.and_eq_true, inB_iff] at h
  constructor
  ·intro h'; cases h'
  ·rintro ⟨h1, h2, h3, h4⟩; exact absurd ⟨⟨⟨h1, h2⟩, h3⟩, h4⟩ h
theorem shelvesE_iff {l : List Shelf} : shelvesE l = true ↔ ∀ x ∈ l, 0 ≤ x.lift ∧ x.lift ≤ 3 ∧ 1 ≤ x.room ∧ x.room ≤ 2 := by
 induction l with
 | nil => simp [shelvesE]
 | cons x l ih =>
  simp only [shelvesE, Bool.and_eq_true, inB_iff, ih, List.mem_cons, forall_eq_or_imp]
  constructor
  ·rintro ⟨⟨⟨a, b⟩, c, d⟩, e⟩; exact ⟨⟨a, b, c, d⟩, e⟩
  ·rintro ⟨⟨a, b, c, d⟩, e⟩; exact ⟨⟨⟨a, b⟩, c, d⟩, e⟩
theorem conesE_0 {l : List Cone} : conesE l = 0 ↔ ∀ x ∈ l, coneE x = 0 := by
 induction l with
 | nil => simp [conesE]
 | cons x l ih =>
  simp only [conesE, List.mem_cons, forall_eq_or_imp]
  by_cases h : coneE x = 0
  ·simp [h, ih]
  ·simp [h]
theorem ok_iff {s : St} : checkE s = 0 ↔ Ok s := by
 unfold checkE
 constructor
 ·intro h
  split at h
  ·rename_i h1; exact absurd h h1
  ·rename_i h1
   split at h
   ·cases h
   ·rename_i h2
    split at h
    ·rename_i h3; exact absurd h h3
    ·rename_i h3
     split at h
     ·rename_i h4; exact absurd h h4
     ·rename_i h4
      split at h
      ·rename_i h5
       simp only [Bool.and_eq_true, inB_iff] at h5
       simp only [ne_eq, Decidable.not_not, sizedE_0] at h1 h3
       simp only [Bool.not_eq_true', Bool.not_eq_false, shelvesE_iff] at h2
       simp only [ne_eq, Decidable.not_not, conesE_0] at h4
       obtain ⟨⟨⟨⟨a1, a2⟩, a3, a4⟩, a5, a6⟩, a7, a8⟩ := h5
       exact ⟨by omega, by omega, h2, by omega, fun c hc => coneE_0.1 (h4 c hc), a1, a2, a3, a4, a5, a6, a7, a8⟩
      ·cases h
 ·intro h
  rw [if_neg (by simp only [ne_eq, Decidable.not_not, sizedE_0]; exact ⟨by have := h.s1; omega, by have := h.s3; omega⟩), if_neg (by simp only [Bool.not_eq_true', Bool.not_eq_false, shelvesE_iff]; exact h.sh),
   if_neg (by simp only [ne_eq, Decidable.not_not, sizedE_0]; exact ⟨by omega, by have := h.c3; omega⟩), if_neg (by simp only [ne_eq, Decidable.not_not, conesE_0]; exact fun c hc => coneE_0.2 (h.co c hc)),
   if_pos (by simp only [Bool.and_eq_true, inB_iff]; exact ⟨⟨⟨⟨h.d1, h.d4⟩, h.n0, h.n5⟩, h.t0, h.t5⟩, h.r0, h.r3⟩)]
structure HOk (s : St) (l : List Int) : Prop where
 len : (l.length : Int) = s.days
 r : ∀ h ∈ l, 0 ≤ h ∧ h ≤ s.top
theorem heatsGo_0 {top rise : Int} : ∀ {l : List Int} {b : Int}, heatsGo top rise b l = 0 → ∀ h ∈ l, 0 ≤ h ∧ h ≤ top
 | [], _, _, h, hm => by cases hm
 | x :: l, b, h, y, hm => by
  unfold heatsGo at h
  split at h
  ·cases h
  ·rename_i h1
   simp only [Bool.not_eq_true', Bool.not_eq_false, inB_iff] at h1
   split at h
   ·cases h
   ·rcases List.mem_cons.1 hm with rfl | hm
    ·exact h1
    ·exact heatsGo_0 h y hm
theorem hok_of {s : St} {l : List Int} (h : heatsE s l = 0) : HOk s l := by
 unfold heatsE at h
 split at h
 ·rename_i h1; exact absurd h h1
 ·rename_i h1
  simp only [ne_eq, Decidable.not_not, sizedE_0] at h1
  exact ⟨by omega, heatsGo_0 h⟩
def liftOf (s : St) (k : Int) : Int := ((s.shelves[k.toNat]?).map (·.lift)).getD 0
def roomOf (s : St) (k : Nat) : Int := ((s.shelves[k]?).map (·.room)).getD 0
def hotB (lift : Int) (c : Cone) (p : Option Int) (h : Int) : Bool :=
 decide (c.most < h + lift) || (match p with | none => decide (c.cold < h + lift) | some q => decide (q + lift + c.jump < h + lift))
def fateL (lift : Int) (c : Cone) : Option Int → Int → Int → List Int → Int × Int
 | _, d, _, [] => (2, d - 1)
 | p, d, sum, h :: t => if hotB lift c p h then (1, d) else if c.wet ≤ sum + (h + lift) then (0, d) else fateL lift c (some h) (d + 1) (sum + (h + lift)) t
def fateS (s : St) (hs : List Int) (c : Cone) (a : Stand) : Int × Int := fateL (liftOf s a.shelf) c none a.day 0 (hs.drop a.day.toNat)
theorem fateL_range {lift : Int} {c : Cone} : ∀ {l : List Int} {p : Option Int} {d sum : Int}, (0 < l.length → d ≤ (fateL lift c p d sum l).2) ∧ (fateL lift c p d sum l).2 ≤ d + l.length - 1 ∧ 0 ≤ (fateL lift c p d sum l).1 ∧ (fateL lift c p d sum l).1 ≤ 2
 | [], p, d, sum => by simp [fateL]
 | h :: t, p, d, sum => by
  unfold fateL
  split
  ·simp; omega
  ·split
   ·simp; omega
   ·obtain ⟨h1, h2, h3, h4⟩ := fateL_range (lift := lift) (c := c) (l := t) (p := some h) (d := d + 1) (sum := sum + (h + lift))
    refine ⟨fun _ => ?_, by simp; omega, h3, h4⟩
    cases t with
    | nil => simp [fateL]
    | cons x t => have := h1 (by simp); omega
def grid (s : St) : List Stand := (List.range s.shelves.length).flatMap fun (k : Nat) => (List.range s.days.toNat).map fun (d : Nat) => ⟨(k : Int), (d : Int)⟩
def standsS (s : St) (hs : List Int) (c : Cone) : List Stand := (grid s).filter fun a => (fateS s hs c a).1 == 0
def onB (s : St) (hs : List Int) (l : List Stand) (k d i : Nat) : Bool :=
 match l[i]?, s.cones[i]? with
 | some a, some c => a.shelf == (k : Int) && decide (a.day ≤ (d : Int)) && decide ((d : Int) ≤ (fateS s hs c a).2)
 | _, _ => false
def onS (s : St) (hs : List Int) (l : List Stand) (k d : Nat) : List Nat := (List.range s.cones.length).filter (onB s hs l k d)
def fitsS (s : St) (hs : List Int) (l : List Stand) : Bool :=
 (List.range s.shelves.length).all fun k => (List.range s.days.toNat).all fun d => decide (((onS s hs l k d).length : Int) ≤ roomOf s k)
def isStand (s : St) (a : Stand) : Bool := inB a.shelf 0 ((s.shelves.length : Int) - 1) && inB a.day 0 (s.days - 1)
def putE (s : St) (hs : List Int) (c : Cone) (a : Stand) : Int :=
 if a.shelf = -1 then (if a.day = 0 then 0 else 1) else
 if !isStand s a then 3 else
 if (fateS s hs c a).1 = 1 then 12 else if (fateS s hs c a).1 = 2 then 9 else 0
def putsE (s : St) (hs : List Int) : List Cone → List Stand → Int
 | c :: cs, a :: l => if putE s hs c a ≠ 0 then putE s hs c a else putsE s hs cs l
 | _, _ => 0
def planE (s : St) (hs : List Int) (l : List Stand) : Int :=
 if sizedE l.length s.cones.length s.cones.length ≠ 0 then sizedE l.length s.cones.length s.cones.length else
 if putsE s hs s.cones l ≠ 0 then putsE s hs s.cones l else
 if fitsS s hs l then 0 else 6
def grow (fit : List Stand → Bool) : List (List Stand) → List Stand → List (List Stand)
 | [], b => [b]
 | o :: os, b => o.flatMap fun a => if fit (b ++ [a]) then grow fit os (b ++ [a]) else []
def none1 : Stand := ⟨-1, 0⟩
def optS (s : St) (hs : List Int) (some each : Bool) (c : Cone) : List Stand := (if !each || !some then [none1] else []) ++ (if some then standsS s hs c else [])
def optsS (s : St) (hs : List Int) (some : Nat → Bool) (each : Bool) : List (List Stand) := s.cones.zipIdx.map fun x => optS s hs (some x.2) each x.1
def plansS (s : St) (hs : List Int) (some : Nat → Bool) (each : Bool) : List (List Stand) := grow (fitsS s hs) (optsS s hs some each) []
def allC : Nat → Bool := fun _ => true
def cnt (l : List Stand) : Int := (l.countP fun a => decide (0 ≤ a.shelf) : Nat)
def takeLess {α : Type} (f : α → Int) (b : Option α) (x : α) : Option α := match b with
 | none => some x
 | some y => if f x < f y then some x else some y
def firstMin {α : Type} (f : α → Int) (l : List α) : Option α := l.foldl (takeLess f) none
def mostS (s : St) (hs : List Int) : List Stand := (firstMin (fun p => - cnt p) (plansS s hs allC false)).getD []
def allS (s : St) (hs : List Int) : Option (List Stand) := (plansS s hs allC true).head?
def lastS (s : St) (hs : List Int) (l : List Stand) : Int := (s.cones.zip l).foldl (fun n x => max n (fateS s hs x.1 x.2).2) (-1)
def soonS (s : St) (hs : List Int) : Option (List Stand) := firstMin (lastS s hs) (plansS s hs allC true)
def canS (s : St) (hs : List Int) : Bool := !(plansS s hs allC true).isEmpty
def driesS (s : St) (hs : List Int) (some : Nat → Bool) : Bool := !(plansS s hs some true).isEmpty
def lostS (s : St) (hs : List Int) : List Nat := (List.range s.cones.length).filter fun i => match s.cones[i]? with | some c => (standsS s hs c).isEmpty | none => false
def verdictS (s : St) (hs : List Int) (i : Nat) : Int :=
 let l := (plansS s hs allC false).filter fun p => cnt p == cnt (mostS s hs)
 let isIn (p : List Stand) : Bool := match p[i]? with | some a => decide (0 ≤ a.shelf) | none => false
 if l.all isIn then 1 else if l.any isIn then 3 else 2
def heatsAll (top rise : Int) : Nat → Int → List (List Int)
 | 0, _ => [[]]
 | n + 1, b => (List.range (min top (b + rise) + 1).toNat).flatMap fun (h : Nat) => (heatsAll top rise n h).map ((h : Int) :: ·)
def heatsS (s : St) : List (List Int) := heatsAll s.top s.rise s.days.toNat s.now
def sumL (l : List Int) : Int := l.foldl (· + ·) 0
def fireS (s : St) : Option (List Int) := firstMin sumL ((heatsS s).filter (canS s))
def daysS (s : St) : Option Nat := ((List.range s.days.toNat).map (· + 1)).find? fun n => (fireS { s with days := n }).isSome
def withS (l : List Int) (d : Nat) (h : Int) : List Int := l.set d h
def spareS (s : St) (hs : List Int) (d : Nat) : Option Nat := (List.range (s.top + 1).toNat).reverse.find? fun h => heatsE s (withS hs d h) == 0 && canS s (withS hs d h)
def moreS (s : St) (c : Cone) : St := { s with cones := s.cones ++ [c] }
end Go.Mz


set_option maxRecDepth 100000
namespace Go.Mz
open Go.Conc Go.Proofs
variable {X : Logic Tryz.prog}
def encSh (x : Shelf) : List Value := [.int .i64 x.lift, .int .i64 x.room]
def encCo (x : Cone) : List Value := [.int .i64 x.wet, .int .i64 x.cold, .int .i64 x.jump, .int .i64 x.most]
def encSt (x : Stand) : List Value := [.int .i64 x.shelf, .int .i64 x.day]
structure Pt where
 sa : Option Addr
 ca : Option Addr
 c1 : Nat
 c2 : Nat
def stA (s : St) (p : Pt) : Value := .agg #[.slice p.sa s.shelves.length p.c1, .slice p.ca s.cones.length p.c2, .int .i64 s.days, .int .i64 s.now, .int .i64 s.rise, .int .i64 s.top]
structure StAt (L : LH) (s : St) (p : Pt) : Prop where
 sh : SlAt L p.sa 2 encSh s.shelves
 co : SlAt L p.ca 4 encCo s.cones
 l1 : s.shelves.length ≤ 140737488355328
 l2 : s.cones.length ≤ 140737488355328
theorem StAt.le {L L' : LH} {s : St} {p : Pt} (h : StAt L s p) (hl : Le L L') : StAt L' s p := ⟨h.sh.le hl, h.co.le hl, h.l1, h.l2⟩
theorem within_sp (n lo hi : Int) (L : LH) : Sp X 83 [.int .i64 n, .int .i64 lo, .int .i64 hi] L (fun v L' => v = .bool (inB n lo hi) ∧ L = L') := by
 refine Sp.enter (n := 15) Tryz.func83 rfl rfl rfl rfl fun C hX _ hL0 r => ?_
 refine W.go 99 rfl ?_
 refine W.split rfl rfl rfl (fun c => ?_) (fun c => ?_)
 ·refine W.go 99 rfl ?_
  exact W.ret r rfl rfl ⟨by unfold inB; rw [c]; rfl, rfl⟩
 ·refine W.go 99 rfl ?_
  exact W.ret r rfl rfl ⟨by unfold inB; rw [c]; rfl, rfl⟩
theorem sized_sp (n lo hi : Int) (L : LH) : Sp X 89 [.int .i64 n, .int .i64 lo, .int .i64 hi] L (fun v L' => v = .int .i64 (sizedE n lo hi) ∧ L = L') := by
 refine Sp.enter (n := 15) Tryz.func89 rfl rfl rfl rfl fun C hX _ hL0 r => ?_
 refine W.go 99 rfl ?_
 refine W.split rfl rfl rfl (fun c => ?_) (fun c => ?_)
 ·refine W.go 99 rfl ?_
  exact W.ret r rfl rfl ⟨by unfold sizedE; rw [if_pos (by simpa using c)]; rfl, rfl⟩
 refine W.go 99 rfl ?_
 refine W.split rfl rfl rfl (fun c2 => ?_) (fun c2 => ?_)
 ·refine W.go 99 rfl ?_
  exact W.ret r rfl rfl ⟨by unfold sizedE; rw [if_neg (by simpa using c), if_pos (by simpa using c2)]; rfl, rfl⟩
 ·refine W.go 99 rfl ?_
  exact W.ret r rfl rfl ⟨by unfold sizedE; rw [if_neg (by simpa using c), if_neg (by simpa using c2)]; rfl, rfl⟩
theorem checkCone_sp (x : Cone) (L : LH) : Sp X 90 [.agg (encCo x).toArray] L (fun v L' => v = .int .i64 (coneE x) ∧ L = L') := by
 refine Sp.enter (n := 25) Tryz.func90 rfl rfl rfl rfl fun C hX _ hL0 r => ?_
 refine W.go 99 rfl ?_
 refine W.eff rfl rfl rfl (Ef.call rfl (within_sp _ _ _ _)) ?_
 rintro _ _ _ ⟨_, rfl, rfl, rfl, rfl⟩
 refine W.go 99 rfl ?_
 refine W.split rfl rfl rfl (fun c1 => ?_) (fun c1 => ?_)
 ·refine W.go 99 rfl ?_
  exact W.ret r rfl rfl ⟨by unfold coneE; simp_all [retV], rfl⟩
 refine W.go 99 rfl ?_
 refine W.eff rfl rfl rfl (Ef.call rfl (within_sp _ _ _ _)) ?_
 rintro _ _ _ ⟨_, rfl, rfl, rfl, rfl⟩
 refine W.go 99 rfl ?_
 refine W.split rfl rfl rfl (fun c2 => ?_) (fun c2 => ?_)
 ·refine W.go 99 rfl ?_
  exact W.ret r rfl rfl ⟨by unfold coneE; simp_all [retV], rfl⟩
 refine W.go 99 rfl ?_
 refine W.eff rfl rfl rfl (Ef.call rfl (within_sp _ _ _ _)) ?_
 rintro _ _ _ ⟨_, rfl, rfl, rfl, rfl⟩
 refine W.go 99 rfl ?_
 refine W.split rfl rfl rfl (fun c3 => ?_) (fun c3 => ?_)
 ·refine W.go 99 rfl ?_
  exact W.ret r rfl rfl ⟨by unfold coneE; simp_all [retV], rfl⟩
 refine W.go 99 rfl ?_
 refine W.eff rfl rfl rfl (Ef.call rfl (within_sp _ _ _ _)) ?_
 rintro _ _ _ ⟨_, rfl, rfl, rfl, rfl⟩
 refine W.go 99 rfl ?_
 refine W.split rfl rfl rfl (fun c4 => ?_) (fun c4 => ?_)
 ·refine W.go 99 rfl ?_
  exact W.ret r rfl rfl ⟨by unfold coneE; simp_all [retV], rfl⟩
 ·refine W.go 99 rfl ?_
  exact W.ret r rfl rfl ⟨by unfold coneE; simp_all [retV], rfl⟩
theorem first_sp (ad : Option Addr) (c : Nat) (l : List Int) (L : LH) (hl : IntsAt L ad l) (hn : l.length ≤ 140737488355328) : Sp X 121 [.slice ad l.length c] L (fun v L' => v = .int .i64 (firstE l) ∧ L = L') := by
 refine Sp.enter (n := 15) Tryz.func121 rfl rfl rfl rfl fun C hX _ hL0 r => ?_
 refine W.go 99 rfl ?_
 refine W.loop (fun m E B L' => ∃ i : Nat, m = l.length - i ∧ i ≤ l.length ∧ firstE (l.drop i) = firstE l ∧ E = [(5, .v (.slice ad l.length c)), (6, .v (.int .i64 l.length)), (7, .v (.int .i64 i))] ∧ B = [] ∧ L = L')
  ⟨0, rfl, by omega, by simp, rfl, rfl, rfl⟩ ⟨rfl, rfl, rfl, trivial⟩ trivial ?_
 rintro _ _ _ _ ⟨i, rfl, h1, hg, rfl, rfl, rfl⟩ again
 refine W.go 99 rfl ?_
 refine W.split rfl rfl rfl (fun c1 => ?_) (fun c1 => ?_)
 ·refine W.go 99 rfl ?_
  have hi : i < l.length := by simpa using c1
  have hd := List.drop_eq_getElem_cons hi
  obtain ⟨a, rfl⟩ := hl.addr hi
  refine W.vf rfl rfl rfl rfl (Vf.idx1 rfl rfl rfl rfl rfl rfl rfl (hi)) ?_
  refine W.go 99 rfl ?_
  refine W.vf rfl rfl rfl rfl (Vf.load rfl rfl rfl (hl.int (List.getElem?_eq_getElem hi))) ?_
  refine W.go 99 rfl ?_
  refine W.split rfl rfl rfl (fun c2 => ?_) (fun c2 => ?_)
  ·refine W.go 99 rfl ?_
   exact W.ret r rfl rfl ⟨by rw [← hg, hd, firstE, if_pos (by simpa using c2)]; rfl, rfl⟩
  ·refine W.go 99 rfl ?_
   exact W.again (again _ _ _ _ (by omega) ⟨i + 1, rfl, by omega, by rw [← hg, hd, firstE, if_neg (by simpa using c2)], rfl, rfl, rfl⟩) ⟨rfl, rfl, congrArg some (inc64 (by omega)), trivial⟩ trivial
 ·refine W.go 99 rfl ?_
  exact W.ret r rfl rfl ⟨by rw [← hg, List.drop_of_length_le (by simp at c1; omega)]; rfl, rfl⟩
theorem Check_sp (s : St) (p : Pt) (L : LH) (hs : StAt L s p) : Sp X 30 [stA s p] L (fun v L' => v = .int .i64 (checkE s) ∧ L = L') := by
 refine Sp.enter (n := 77) Tryz.func30 rfl rfl rfl rfl fun C hX _ hL0 r => ?_
 refine W.go 99 rfl ?_
 refine W.eff rfl rfl rfl (Ef.call rfl (sized_sp _ _ _ _)) ?_
 rintro _ _ _ ⟨_, rfl, rfl, rfl, rfl⟩
 refine W.go 99 rfl ?_
 refine W.split rfl rfl rfl (fun c1 => ?_) (fun c1 => ?_)
 ·refine W.go 99 rfl ?_
  exact W.ret r rfl rfl ⟨by unfold checkE; rw [if_pos (by simpa using c1)]; rfl, rfl⟩
 refine W.go 99 rfl ?_
 have l1 := hs.l1
 have l2 := hs.l2
 refine W.loop (fun m E B L' => ∃ i : Nat, m = s.shelves.length - i ∧ i ≤ s.shelves.length ∧ shelvesE (s.shelves.drop i) = shelvesE s.shelves ∧ E = [(1, .p 0 0), (18, .v (.slice p.sa s.shelves.length p.c1)), (19, .v (.int .i64 s.shelves.length)), (20, .v (.int .i64 i))] ∧ B = [some ⟨cellsS (.v (stA s p)), 25⟩] ∧ L = L')
  ⟨0, rfl, by omega, by simp, rfl, rfl, rfl⟩ ⟨rfl, rfl, rfl, rfl, trivial⟩ ⟨rfl, trivial⟩ ?_
 rintro _ _ _ _ ⟨i, rfl, h1, hg, rfl, rfl, rfl⟩ again
 refine W.go 99 rfl ?_
 refine W.split rfl rfl rfl (fun d1 => ?_) (fun d1 => ?_)
 ·refine W.go 99 rfl ?_
  have hi : i < s.shelves.length := by simpa using d1
  have hd := List.drop_eq_getElem_cons hi
  obtain ⟨a, ha⟩ := hs.sh.addr hi
  obtain ⟨sa, ca, n1, n2⟩ := p
  obtain rfl : sa = some a := ha
  refine W.vf rfl rfl rfl rfl (Vf.idx rfl rfl rfl rfl rfl rfl (hi)) ?_
  refine W.go 99 rfl ?_
  refine W.vf rfl rfl rfl rfl (Vf.loadN rfl rfl rfl (hs.sh.whole (List.getElem?_eq_getElem hi) rfl)) ?_
  refine W.go 99 rfl ?_
  refine W.eff rfl rfl rfl (Ef.call rfl (within_sp _ _ _ _)) ?_
  rintro _ _ _ ⟨_, rfl, rfl, rfl, rfl⟩
  refine W.go 99 rfl ?_
  refine W.split rfl rfl rfl (fun d2 => ?_) (fun d2 => ?_)
  ·refine W.go 99 rfl ?_
   exact W.ret r rfl rfl ⟨by unfold checkE; rw [if_neg (by simpa using c1), ← hg, hd, shelvesE, if_pos (by simp at d2; simp [d2])]; rfl, rfl⟩
  refine W.go 99 rfl ?_
  refine W.eff rfl rfl rfl (Ef.call rfl (within_sp _ _ _ _)) ?_
  rintro _ _ _ ⟨_, rfl, rfl, rfl, rfl⟩
  refine W.go 99 rfl ?_
  refine W.split rfl rfl rfl (fun d3 => ?_) (fun d3 => ?_)
  ·refine W.go 99 rfl ?_
   exact W.ret r rfl rfl ⟨by unfold checkE; rw [if_neg (by simpa using c1), ← hg, hd, shelvesE, if_pos (by simp at d3; simp [d3])]; rfl, rfl⟩
  ·refine W.go 99 rfl ?_
   exact W.again (again _ _ _ _ (by omega) ⟨i + 1, rfl, by omega, by rw [← hg, hd, shelvesE]; simp at d2 d3; simp [d2, d3], rfl, rfl, rfl⟩) ⟨rfl, rfl, rfl, congrArg some (inc64 (by omega)), trivial⟩ ⟨rfl, trivial⟩
 refine W.go 99 rfl ?_
 have hsh : shelvesE s.shelves = true := by rw [← hg, List.drop_of_length_le (by simp at d1; omega)]; rfl
 clear again hg
 refine W.eff rfl rfl rfl (Ef.call rfl (sized_sp _ _ _ _)) ?_
 rintro _ _ _ ⟨_, rfl, rfl, rfl, rfl⟩
 refine W.go 99 rfl ?_
 refine W.split rfl rfl rfl (fun c2 => ?_) (fun c2 => ?_)
 ·refine W.go 99 rfl ?_
  exact W.ret r rfl rfl ⟨by unfold checkE; rw [if_neg (by simpa using c1), if_neg (by simp [hsh]), if_pos (by simpa using c2)]; rfl, rfl⟩
 refine W.go 99 rfl ?_
 refine W.loop (fun m E B L' => ∃ i : Nat, m = s.cones.length - i ∧ i ≤ s.cones.length ∧ conesE (s.cones.drop i) = conesE s.cones ∧ E = [(1, .p 0 0), (43, .v (.slice p.ca s.cones.length p.c2)), (44, .v (.int .i64 s.cones.length)), (45, .v (.int .i64 i))] ∧ B = [some ⟨cellsS (.v (stA s p)), 25⟩] ∧ L = L')
  ⟨0, rfl, by omega, by simp, rfl, rfl, rfl⟩ ⟨rfl, rfl, rfl, rfl, trivial⟩ ⟨rfl, trivial⟩ ?_
 rintro _ _ _ _ ⟨i, rfl, h1, hg, rfl, rfl, rfl⟩ again
 refine W.go 99 rfl ?_
 refine W.split rfl rfl rfl (fun d1 => ?_) (fun d1 => ?_)
 ·refine W.go 99 rfl ?_
  have hi : i < s.cones.length := by simpa using d1
  have hd := List.drop_eq_getElem_cons hi
  obtain ⟨a, ha⟩ := hs.co.addr hi
  obtain ⟨sa, ca, n1, n2⟩ := p
  obtain rfl : ca = some a := ha
  refine W.vf rfl rfl rfl rfl (Vf.idx rfl rfl rfl rfl rfl rfl (hi)) ?_
  refine W.go 99 rfl ?_
  refine W.vf rfl rfl rfl rfl (Vf.loadN rfl rfl rfl (hs.co.whole (List.getElem?_eq_getElem hi) rfl)) ?_
  refine W.go 99 rfl ?_
  refine W.eff rfl rfl rfl (Ef.call rfl (checkCone_sp _ _)) ?_
  rintro _ _ _ ⟨_, rfl, rfl, rfl, rfl⟩
  refine W.go 99 rfl ?_
  refine W.split rfl rfl rfl (fun d2 => ?_) (fun d2 => ?_)
  ·refine W.go 99 rfl ?_
   exact W.ret r rfl rfl ⟨by unfold checkE; rw [if_neg (by simpa using c1), if_neg (by simp [hsh]), if_neg (by simpa using c2), ← hg, hd, conesE, if_pos (show coneE s.cones[i] ≠ 0 by simpa using d2), if_pos (show coneE s.cones[i] ≠ 0 by simpa using d2)]; rfl, rfl⟩
  ·refine W.go 99 rfl ?_
   exact W.again (again _ _ _ _ (by omega) ⟨i + 1, rfl, by omega, by rw [← hg, hd, conesE, if_neg (by simpa using d2)], rfl, rfl, rfl⟩) ⟨rfl, rfl, rfl, congrArg some (inc64 (by omega)), trivial⟩ ⟨rfl, trivial⟩
 refine W.go 99 rfl ?_
 have hco : conesE s.cones = 0 := by rw [← hg, List.drop_of_length_le (by simp at d1; omega)]; rfl
 clear again hg
 refine W.eff rfl rfl rfl (Ef.call rfl (within_sp _ _ _ _)) ?_
 rintro _ _ _ ⟨_, rfl, rfl, rfl, rfl⟩
 refine W.go 99 rfl ?_
 refine W.split rfl rfl rfl (fun e1 => ?_) (fun e1 => ?_)
 ·refine W.go 99 rfl ?_
  exact W.ret r rfl rfl ⟨by unfold checkE; rw [if_neg (by simpa using c1), if_neg (by simp [hsh]), if_neg (by simpa using c2), if_neg (by simp [hco])]; (try simp at e1); (try simp at e2); (try simp at e3); (try simp at e4); simp [retV, *], rfl⟩
 refine W.go 99 rfl ?_
 refine W.eff rfl rfl rfl (Ef.call rfl (within_sp _ _ _ _)) ?_
 rintro _ _ _ ⟨_, rfl, rfl, rfl, rfl⟩
 refine W.go 99 rfl ?_
 refine W.split rfl rfl rfl (fun e2 => ?_) (fun e2 => ?_)
 ·refine W.go 99 rfl ?_
  exact W.ret r rfl rfl ⟨by unfold checkE; rw [if_neg (by simpa using c1), if_neg (by simp [hsh]), if_neg (by simpa using c2), if_neg (by simp [hco])]; (try simp at e1); (try simp at e2); (try simp at e3); (try simp at e4); simp [retV, *], rfl⟩
 refine W.go 99 rfl ?_
 refine W.eff rfl rfl rfl (Ef.call rfl (within_sp _ _ _ _)) ?_
 rintro _ _ _ ⟨_, rfl, rfl, rfl, rfl⟩
 refine W.go 99 rfl ?_
 refine W.split rfl rfl rfl (fun e3 => ?_) (fun e3 => ?_)
 ·refine W.go 99 rfl ?_
  exact W.ret r rfl rfl ⟨by unfold checkE; rw [if_neg (by simpa using c1), if_neg (by simp [hsh]), if_neg (by simpa using c2), if_neg (by simp [hco])]; (try simp at e1); (try simp at e2); (try simp at e3); (try simp at e4); simp [retV, *], rfl⟩
 refine W.go 99 rfl ?_
 refine W.eff rfl rfl rfl (Ef.call rfl (within_sp _ _ _ _)) ?_
 rintro _ _ _ ⟨_, rfl, rfl, rfl, rfl⟩
 refine W.go 99 rfl ?_
 refine W.split rfl rfl rfl (fun e4 => ?_) (fun e4 => ?_)
 ·refine W.go 99 rfl ?_
  exact W.ret r rfl rfl ⟨by unfold checkE; rw [if_neg (by simpa using c1), if_neg (by simp [hsh]), if_neg (by simpa using c2), if_neg (by simp [hco])]; (try simp at e1); (try simp at e2); (try simp at e3); (try simp at e4); simp [retV, *], rfl⟩
 ·refine W.go 99 rfl ?_
  exact W.ret r rfl rfl ⟨by unfold checkE; rw [if_neg (by simpa using c1), if_neg (by simp [hsh]), if_neg (by simpa using c2), if_neg (by simp [hco])]; (try simp at e1); (try simp at e2); (try simp at e3); (try simp at e4); simp [retV, *], rfl⟩
theorem checkHeats_sp (s : St) (p : Pt) (ad : Option Addr) (c : Nat) (l : List Int) (L : LH) (hl : IntsAt L ad l) (hn : l.length ≤ 140737488355328) : Sp X 110 [stA s p, .slice ad l.length c] L (fun v L' => v = .int .i64 (heatsE s l) ∧ L = L') := by
 refine Sp.enter (n := 40) Tryz.func110 rfl rfl rfl rfl fun C hX _ hL0 r => ?_
 refine W.go 99 rfl ?_
 refine W.eff rfl rfl rfl (Ef.call rfl (sized_sp _ _ _ _)) ?_
 rintro _ _ _ ⟨_, rfl, rfl, rfl, rfl⟩
 refine W.go 99 rfl ?_
 refine W.split rfl rfl rfl (fun c1 => ?_) (fun c1 => ?_)
 ·refine W.go 99 rfl ?_
  exact W.ret r rfl rfl ⟨by unfold heatsE; rw [if_pos (by simpa using c1)]; rfl, rfl⟩
 refine W.go 99 rfl ?_
 refine W.loop (fun m E B L' => ∃ (i : Nat) (b : Int), m = l.length - i ∧ i ≤ l.length ∧ heatsGo s.top s.rise b (l.drop i) = heatsGo s.top s.rise s.now l ∧ E = [(2, .p 0 0), (6, .v (.int .i64 b)), (21, .v (.slice ad l.length c)), (22, .v (.int .i64 l.length)), (23, .v (.int .i64 i))] ∧ B = [some ⟨cellsS (.v (stA s p)), 25⟩] ∧ L = L')
  ⟨0, s.now, rfl, by omega, by simp, rfl, rfl, rfl⟩ ⟨rfl, rfl, rfl, rfl, rfl, trivial⟩ ⟨rfl, trivial⟩ ?_
 rintro _ _ _ _ ⟨i, b, rfl, h1, hg, rfl, rfl, rfl⟩ again
 refine W.go 99 rfl ?_
 refine W.split rfl rfl rfl (fun d1 => ?_) (fun d1 => ?_)
 ·refine W.go 99 rfl ?_
  have hi : i < l.length := by simpa using d1
  have hd := List.drop_eq_getElem_cons hi
  obtain ⟨a, rfl⟩ := hl.addr hi
  refine W.vf rfl rfl rfl rfl (Vf.idx1 rfl rfl rfl rfl rfl rfl rfl (hi)) ?_
  refine W.go 99 rfl ?_
  refine W.vf rfl rfl rfl rfl (Vf.load rfl rfl rfl (hl.int (List.getElem?_eq_getElem hi))) ?_
  refine W.go 99 rfl ?_
  refine W.eff rfl rfl rfl (Ef.call rfl (within_sp _ _ _ _)) ?_
  rintro _ _ _ ⟨_, rfl, rfl, rfl, rfl⟩
  refine W.go 99 rfl ?_
  refine W.split rfl rfl rfl (fun d2 => ?_) (fun d2 => ?_)
  ·refine W.go 99 rfl ?_
   exact W.ret r rfl rfl ⟨by unfold heatsE; rw [if_neg (by simpa using c1), ← hg, hd, heatsGo, if_pos (by simpa using d2)]; rfl, rfl⟩
  refine W.go 99 rfl ?_
  refine W.split rfl rfl rfl (fun d3 => ?_) (fun d3 => ?_)
  ·refine W.go 99 rfl ?_
   exact W.ret r rfl rfl ⟨by unfold heatsE; rw [if_neg (by simpa using c1), ← hg, hd, heatsGo, if_neg (by simpa using d2), if_pos (by simpa using d3)]; rfl, rfl⟩
  ·refine W.go 99 rfl ?_
   exact W.again (again _ _ _ _ (by omega) ⟨i + 1, l[i], rfl, by omega, by rw [← hg, hd, heatsGo, if_neg (by simpa using d2), if_neg (by simpa using d3)], rfl, rfl, rfl⟩) ⟨rfl, rfl, rfl, rfl, congrArg some (inc64 (by omega)), trivial⟩ ⟨rfl, trivial⟩
 ·refine W.go 99 rfl ?_
  exact W.ret r rfl rfl ⟨by unfold heatsE; rw [if_neg (by simpa using c1), ← hg, List.drop_of_length_le (by simp at d1; omega)]; rfl, rfl⟩
end Go.Mz


set_option maxRecDepth 100000
namespace Go.Mz
open Go.Conc Go.Proofs
variable {X : Logic Tryz.prog}
theorem lt8 {m : Nat} (h : m < 8) : m = 0 ∨ m = 1 ∨ m = 2 ∨ m = 3 ∨ m = 4 ∨ m = 5 ∨ m = 6 ∨ m = 7 := by omega
theorem lt3 {m : Nat} (h : m < 3) : m = 0 ∨ m = 1 ∨ m = 2 := by omega
theorem has_sp (m i : Nat) (hm : m < 8) (hi : i < 3) (L : LH) : Sp X 134 [.int .u8 m, .int .i64 i] L (fun v L' => v = .bool (m.testBit i) ∧ L = L') := by
 refine Sp.enter (n := 10) Tryz.func134 rfl rfl rfl rfl fun C hX _ hL0 r => ?_
 refine W.go 99 rfl ?_
 exact W.ret r rfl rfl ⟨by rcases lt8 hm with rfl | rfl | rfl | rfl | rfl | rfl | rfl | rfl <;> rcases lt3 hi with rfl | rfl | rfl <;> rfl, rfl⟩
theorem with_sp (m i : Nat) (hm : m < 8) (hi : i < 3) (L : LH) : Sp X 112 [.int .u8 m, .int .i64 i] L (fun v L' => v = .int .u8 ((m ||| 2 ^ i : Nat) : Int) ∧ L = L') := by
 refine Sp.enter (n := 9) Tryz.func112 rfl rfl rfl rfl fun C hX _ hL0 r => ?_
 refine W.go 99 rfl ?_
 exact W.ret r rfl rfl ⟨by rcases lt8 hm with rfl | rfl | rfl | rfl | rfl | rfl | rfl | rfl <;> rcases lt3 hi with rfl | rfl | rfl <;> rfl, rfl⟩
def bitsL (m : Nat) : List Nat := (List.range 3).filter (m.testBit ·)
def natI (l : List Nat) : List Int := l.map fun (n : Nat) => (n : Int)
theorem encI_len (x : Int) : (encI x).length = 1 := rfl
theorem encI_sg (x : Int) : ∀ u ∈ encI x, single u = true := fun u hu => by cases List.mem_singleton.1 hu; rfl
def NewSl {α : Type} (L : LH) (k : Nat) (enc : α → List Value) (l : List α) (v : Value) (L' : LH) : Prop := ∃ ad cap, v = .slice ad l.length cap ∧ Le L L' ∧ SlAt L' ad k enc l ∧ l.length ≤ cap
theorem Grow.new_sl {α : Type} {I L : LH} {k : Nat} {e : TypeId} {enc : α → List Value} {v : Value} {l : List α} (h : Grow I k e enc L v l) (hk : ∀ x, (enc x).length = k) : NewSl I k enc l v L := by
 obtain ⟨ad, cap, rfl, hc⟩ := h.slice
 exact ⟨ad, cap, rfl, h.1, (h.at hk).2, hc⟩
theorem range_filter (p : Nat → Bool) (i : Nat) : (List.range (i + 1)).filter p = (List.range i).filter p ++ if p i then [i] else [] := by
 rw [List.range_succ, List.filter_append]
 congr 1
 by_cases h : p i <;> simp [h]
theorem natI_snoc (l : List Nat) (i : Nat) : natI (l ++ [i]) = natI l ++ [(i : Int)] := by simp [natI]
theorem natI_flt (p : Nat → Bool) (i : Nat) : (natI ((List.range i).filter p)).length ≤ i := by
 unfold natI; rw [List.length_map]
 have := List.length_filter_le p (List.range i)
 simpa using this
theorem list_sp (m : Nat) (hm : m < 8) (L : LH) : Sp X 106 [.int .u8 m] L (NewSl L 1 encI (natI (bitsL m))) := by
 refine Sp.enter (n := 20) Tryz.func106 rfl rfl rfl rfl fun C hX _ hL0 r => ?_
 refine W.go 99 rfl ?_
 refine W.loop (fun n E B L' => ∃ (i : Nat) (v : Value), n = 3 - i ∧ i ≤ 3 ∧ Grow L 1 3 encI L' v (natI ((List.range i).filter (m.testBit ·))) ∧ E = [(3, .v v), (4, .f (.func 134) [.v (.int .u8 m)] []), (8, .v (.int .i64 i))] ∧ B = [])
  ⟨0, _, rfl, by omega, Grow.nil (Le.refl _), rfl, rfl⟩ ⟨rfl, rfl, rfl, trivial⟩ trivial ?_
 rintro _ _ _ L1 ⟨i, v, rfl, h1, hg, rfl, rfl⟩ again
 refine W.go 99 rfl ?_
 refine W.split rfl rfl rfl (fun c1 => W.go 99 rfl ?_) (fun c1 => W.go 99 rfl ?_)
 ·have hi : i < 3 := by simp at c1; omega
  have hb := range_filter (m.testBit ·) i
  refine W.eff rfl rfl rfl (Ef.callS rfl rfl rfl (Sp.toV (f1 := [.int .u8 m]) (f2 := []) (has_sp m i hm hi L1))) ?_
  rintro _ _ _ ⟨_, rfl, rfl, rfl, rfl⟩
  refine W.go 99 rfl ?_
  refine W.split rfl rfl rfl (fun c2 => W.go 99 rfl ?_) (fun c2 => W.go 99 rfl ?_)
  ·refine W.eff rfl rfl rfl (Ef.grow rfl rfl rfl rfl rfl rfl rfl rfl rfl encI_len encI_sg hg (ls := [(i : Int)]) (.own rfl rfl rfl rfl) (by have := natI_flt (m.testBit ·) i; simp only [List.length_singleton]; omega)) ?_
   rintro _ _ _ ⟨v', rfl, rfl, hg', _⟩
   refine W.go 99 rfl ?_
   exact W.again (again _ _ _ _ (by omega) ⟨i + 1, v', rfl, by omega, by rw [hb, if_pos c2, natI_snoc]; exact hg', rfl, rfl⟩) ⟨rfl, rfl, congrArg some (inc64 (by omega)), trivial⟩ trivial
  ·exact W.again (again _ _ _ _ (by omega) ⟨i + 1, v, rfl, by omega, by rw [hb]; simpa [c2] using hg, rfl, rfl⟩) ⟨rfl, rfl, congrArg some (inc64 (by omega)), trivial⟩ trivial
 ·have hi : i = 3 := by simp at c1; omega
  subst hi
  refine W.ret r rfl rfl ?_
  exact hg.new_sl encI_len
theorem isNaN_sp (a : Int) (L : LH) : Sp X 167 [.int .i64 a] L (fun v L' => v = .bool false ∧ L = L') := by
 refine Sp.enter (n := 6) Tryz.func167 rfl rfl rfl rfl fun C hX _ hL0 r => ?_
 refine W.go 99 rfl ?_
 exact W.ret r rfl rfl ⟨by simp [retV], rfl⟩
def cmpI (a b : Int) : Int := if a < b then -1 else if b < a then 1 else 0
theorem cmp_sp (a b : Int) (L : LH) : Sp X 139 [.int .i64 a, .int .i64 b] L (fun v L' => v = .int .i64 (cmpI a b) ∧ L = L') := by
 refine Sp.enter (n := 20) Tryz.func139 rfl rfl rfl rfl fun C hX _ hL0 r => ?_
 refine W.go 99 rfl ?_
 refine W.eff rfl rfl rfl (Ef.call rfl (isNaN_sp _ _)) ?_
 rintro _ _ _ ⟨_, rfl, rfl, rfl, rfl⟩
 refine W.go 99 rfl ?_
 refine W.eff rfl rfl rfl (Ef.call rfl (isNaN_sp _ _)) ?_
 rintro _ _ _ ⟨_, rfl, rfl, rfl, rfl⟩
 refine W.go 99 rfl ?_
 refine W.split rfl rfl rfl (fun c => absurd c (by decide)) (fun c => ?_)
 refine W.go 99 rfl ?_
 refine W.split rfl rfl rfl (fun c => absurd c (by decide)) (fun c => ?_)
 refine W.go 99 rfl ?_
 refine W.split rfl rfl rfl (fun c => W.go 99 rfl ?_) (fun c => W.go 99 rfl ?_)
 ·exact W.ret r rfl rfl ⟨by unfold cmpI; rw [if_pos (by simpa using c)]; rfl, rfl⟩
 refine W.split rfl rfl rfl (fun c2 => W.go 99 rfl ?_) (fun c2 => W.go 99 rfl ?_)
 ·exact W.ret r rfl rfl ⟨by unfold cmpI; rw [if_neg (by simpa using c), if_pos (by simpa using c2)]; rfl, rfl⟩
 ·exact W.ret r rfl rfl ⟨by unfold cmpI; rw [if_neg (by simpa using c), if_neg (by simpa using c2)]; rfl, rfl⟩
def cmpL : List Int → List Int → Int
 | [], [] => 0
 | [], _ :: _ => -1
 | _ :: _, [] => 1
 | a :: l, b :: k => if cmpI a b ≠ 0 then cmpI a b else cmpL l k
theorem Compare_sp (ad bd : Option Addr) (c1 c2 : Nat) (a b : List Int) (L : LH) (ha : IntsAt L ad a) (hb : IntsAt L bd b) (na : a.length ≤ 1000000) (nb : b.length ≤ 1000000) : Sp X 108 [.slice ad a.length c1, .slice bd b.length c2] L (fun v L' => v = .int .i64 (cmpL a b) ∧ L = L') := by
 refine Sp.enter (n := 36) Tryz.func108 rfl rfl rfl rfl fun C hX _ hL0 r => ?_
 refine W.go 99 rfl ?_
 refine W.loop (fun m E B L' => ∃ i : Nat, m = a.length - i ∧ i ≤ a.length ∧ i ≤ b.length ∧ cmpL (a.drop i) (b.drop i) = cmpL a b ∧ E = [(0, .v (.slice ad a.length c1)), (1, .v (.slice bd b.length c2)), (9, .v (.slice ad a.length c1)), (10, .v (.int .i64 a.length)), (11, .v (.int .i64 i))] ∧ B = [] ∧ L = L')
  ⟨0, rfl, by omega, by omega, by simp, rfl, rfl, rfl⟩ ⟨rfl, rfl, rfl, rfl, rfl, trivial⟩ trivial ?_
 rintro _ _ _ _ ⟨i, rfl, h1, h2, hg, rfl, rfl, rfl⟩ again
 refine W.go 99 rfl ?_
 refine W.split rfl rfl rfl (fun d1 => W.go 99 rfl ?_) (fun d1 => W.go 99 rfl ?_)
 ·have hi : i < a.length := by simpa using d1
  have hd := List.drop_eq_getElem_cons hi
  obtain ⟨aa, rfl⟩ := ha.addr hi
  refine W.vf rfl rfl rfl rfl (Vf.idx1 rfl rfl rfl rfl rfl rfl rfl (hi)) ?_
  refine W.go 99 rfl ?_
  refine W.vf rfl rfl rfl rfl (Vf.load rfl rfl rfl (ha.int (List.getElem?_eq_getElem hi))) ?_
  refine W.go 99 rfl ?_
  refine W.split rfl rfl rfl (fun d2 => W.go 99 rfl ?_) (fun d2 => W.go 99 rfl ?_)
  ·have hn : b.drop i = [] := List.drop_of_length_le (by simp at d2; omega)
   exact W.ret r rfl rfl ⟨by rw [← hg, hd, hn]; rfl, rfl⟩
  have hj : i < b.length := by simp at d2; omega
  have he := List.drop_eq_getElem_cons hj
  obtain ⟨bb, rfl⟩ := hb.addr hj
  refine W.vf rfl rfl rfl rfl (Vf.idx1 rfl rfl rfl rfl rfl rfl rfl (hj)) ?_
  refine W.go 99 rfl ?_
  refine W.vf rfl rfl rfl rfl (Vf.load rfl rfl rfl (hb.int (List.getElem?_eq_getElem hj))) ?_
  refine W.go 99 rfl ?_
  refine W.eff rfl rfl rfl (Ef.call rfl (cmp_sp _ _ _)) ?_
  rintro _ _ _ ⟨_, rfl, rfl, rfl, rfl⟩
  refine W.go 99 rfl ?_
  refine W.split rfl rfl rfl (fun d3 => W.go 99 rfl ?_) (fun d3 => W.go 99 rfl ?_)
  ·exact W.ret r rfl rfl ⟨by rw [← hg, hd, he, cmpL, if_pos (by simpa using d3)]; rfl, rfl⟩
  ·exact W.again (again _ _ _ _ (by omega) ⟨i + 1, rfl, by omega, by omega, by rw [← hg, hd, he, cmpL, if_neg (by simpa using d3)], rfl, rfl, rfl⟩) ⟨rfl, rfl, rfl, rfl, congrArg some (inc64 (by omega)), trivial⟩ trivial
 ·have hi : a.drop i = [] := List.drop_of_length_le (by simp at d1; omega)
  have hl : i = a.length := by simp at d1; omega
  refine W.split rfl rfl rfl (fun d2 => W.go 99 rfl ?_) (fun d2 => W.go 99 rfl ?_)
  ·have hj : i < b.length := by simp at d2; omega
   exact W.ret r rfl rfl ⟨by rw [← hg, hi, List.drop_eq_getElem_cons hj]; rfl, rfl⟩
  ·have hj : b.drop i = [] := List.drop_of_length_le (by simp at d2; omega)
   exact W.ret r rfl rfl ⟨by rw [← hg, hi, hj]; rfl, rfl⟩
end Go.Mz


set_option maxRecDepth 100000
namespace Go.Mz
open Go.Conc Go.Proofs
variable {X : Logic Tryz.prog}
theorem SlAt.nil {α : Type} {L : LH} {k : Nat} {enc : α → List Value} {l : List α} (h : SlAt L none k enc l) : l = [] := by
 cases l with
 | nil => rfl
 | cons x l => obtain ⟨a, h1⟩ := h.addr (i := 0) (by simp); cases h1
theorem SlAt.empty {α : Type} {L : LH} {ad : Option Addr} {k : Nat} {enc : α → List Value} : SlAt L ad k enc ([] : List α) := fun i x hx => by simp at hx
theorem encSt_len (x : Stand) : (encSt x).length = 2 := rfl
theorem encSt_sg (x : Stand) : ∀ u ∈ encSt x, single u = true := fun u hu => by
 simp only [encSt, List.mem_cons, List.not_mem_nil, or_false] at hu
 rcases hu with rfl | rfl <;> rfl
theorem encSh_len (x : Shelf) : (encSh x).length = 2 := rfl
theorem encSh_sg (x : Shelf) : ∀ u ∈ encSh x, single u = true := fun u hu => by
 simp only [encSh, List.mem_cons, List.not_mem_nil, or_false] at hu
 rcases hu with rfl | rfl <;> rfl
theorem encCo_len (x : Cone) : (encCo x).length = 4 := rfl
theorem encCo_sg (x : Cone) : ∀ u ∈ encCo x, single u = true := fun u hu => by
 simp only [encCo, List.mem_cons, List.not_mem_nil, or_false] at hu
 rcases hu with rfl | rfl | rfl | rfl <;> rfl
theorem CloneSt_sp (ad : Option Addr) (c : Nat) (l : List Stand) (L : LH) (h : SlAt L ad 2 encSt l) (hn : l.length ≤ 1000000) : Sp X 137 [.slice ad l.length c] L (NewSl L 2 encSt l) := by
 refine Sp.enter (n := 8) Tryz.func137 rfl rfl rfl rfl fun C hX _ hL0 r => ?_
 refine W.go 99 rfl ?_
 refine W.split rfl rfl rfl (fun d1 => W.go 99 rfl ?_) (fun d1 => W.go 99 rfl ?_)
 ·have e : ad = none := by cases ad with | none => rfl | some a => simp at d1
  subst e
  obtain rfl := h.nil
  refine W.ret r rfl rfl ?_
  exact ⟨none, 0, rfl, Le.refl _, SlAt.empty, Nat.le_refl _⟩
 refine W.pub 5 (.inr ⟨_, _, _, rfl⟩) rfl rfl ?_
 intro b hb _
 refine W.eff rfl rfl rfl (Ef.grow rfl rfl rfl rfl rfl rfl rfl rfl rfl encSt_len encSt_sg (Grow.new (Le.put hb _) (put_same _ _ _) hb) (ls := l) (.sl (h.le (Le.put hb _)) encSt_len rfl) (by simp; omega)) ?_
 rintro _ _ _ ⟨v', rfl, rfl, hg', _⟩
 refine W.go 99 rfl ?_
 refine W.ret r rfl rfl ?_
 exact hg'.new_sl encSt_len
end Go.Mz


set_option maxRecDepth 100000
namespace Go.Mz
open Go.Conc Go.Proofs
variable {X : Logic Tryz.prog}
def svO (s : St) (p : Pt) (ha : Option Addr) (hc : Nat) (hs : List Int) (t0 t1 t2 mv : Value) : Array Value :=
 #[.slice p.sa s.shelves.length p.c1, .slice p.ca s.cones.length p.c2, .int .i64 s.days, .int .i64 s.now, .int .i64 s.rise, .int .i64 s.top, .slice ha hs.length hc, t0, t1, t2, mv]
structure SvAt (L : LH) (b : Nat) (s : St) (p : Pt) (ha : Option Addr) (hc : Nat) (hs : List Int) (t0 t1 t2 mv : Value) : Prop where
 blk : ∃ wr, L b = some (.cells (svO s p ha hc hs t0 t1 t2 mv) 142 (0, 0), wr)
 st : StAt L s p
 he : IntsAt L ha hs
 ok : Ok s
 hok : HOk s hs
section
variable {L L' : LH} {b : Nat} {s : St} {p : Pt} {ha : Option Addr} {hc : Nat} {hs : List Int} {t0 t1 t2 mv : Value}
theorem SvAt.le (h : SvAt L b s p ha hc hs t0 t1 t2 mv) (hl : Le L L') : SvAt L' b s p ha hc hs t0 t1 t2 mv := ⟨let ⟨wr, h1⟩ := h.blk; ⟨wr, hl _ _ h1⟩, h.st.le hl, h.he.le hl, h.ok, h.hok⟩
theorem SvAt.cell (h : SvAt L b s p ha hc hs t0 t1 t2 mv) (i : Nat) {v : Value} (hv : (svO s p ha hc hs t0 t1 t2 mv)[i]? = some v) : L.cell? ⟨b, i, none⟩ = some v := let ⟨_, h1⟩ := h.blk; cell_of h1 hv
theorem SvAt.len (h : SvAt L b s p ha hc hs t0 t1 t2 mv) : hs.length = s.days.toNat := by have := h.hok.len; omega
end
def prevH (hs : List Int) (d0 d : Nat) : Option Int := if d = d0 then none else hs[d - 1]?
theorem SlAt.fld {α : Type} {L : LH} {a : Addr} {n : Nat} {enc : α → List Value} {l : List α} (h : SlAt L (some a) n enc l) {i : Nat} {x : α} (hx : l[i]? = some x) (j : Nat) {v : Value} (hv : (enc x)[j]? = some v) : L.cell? ((a.add (i * n)).add j) = some v := by
 rw [add_add]; exact h.get hx hv
theorem bears_sp (b : Nat) (s : St) (p : Pt) (ha : Option Addr) (hc : Nat) (hs : List Int) (t0 t1 t2 mv : Value) (c : Cone) (sh : Shelf) (i k d0 d : Nat) (hd : d0 ≤ d) (hdn : d < hs.length) (hi : s.cones[i]? = some c) (hk : s.shelves[k]? = some sh) (L : LH) (h : SvAt L b s p ha hc hs t0 t1 t2 mv) :
  Sp X 123 [.pointer (some ⟨b, 0, none⟩), .int .i64 i, .agg #[.int .i64 k, .int .i64 d0], .int .i64 d] L (fun v L' => v = (if hotB sh.lift c (prevH hs d0 d) hs[d] then .iface 158 (.agg #[.int .i64 d]) else .nilIface) ∧ L = L') := by
 have hil := (List.getElem?_eq_some_iff.1 hi).1
 have hkl := (List.getElem?_eq_some_iff.1 hk).1
 obtain ⟨sa, hsa⟩ := h.st.sh.addr hkl
 obtain ⟨ca, hca⟩ := h.st.co.addr hil
 obtain ⟨aa, rfl⟩ := h.he.addr hdn
 obtain ⟨p1, p2, n1, n2⟩ := p
 obtain rfl : p1 = some sa := hsa
 obtain rfl : p2 = some ca := hca
 have hcm := h.ok.co c (List.mem_of_getElem? hi)
 have hsm := h.ok.sh sh (List.mem_of_getElem? hk)
 have hhm := h.hok.r hs[d] (List.getElem_mem hdn)
 have ht5 := h.ok.t5
 have hlen : hs.length ≤ 4 := by have := h.hok.len; have := h.ok.d4; omega
 refine Sp.enter (n := 81) Tryz.func123 rfl rfl rfl rfl fun C hX _ hL0 r => ?_
 refine W.go 99 rfl ?_
 refine W.drawn (by kernel_rfl) _ (Le.refl _) ?_
 refine DD.run' [0, 1, 2, 3] rfl ?_
 refine DD.vf 4 rfl rfl rfl rfl rfl (Vf.load rfl rfl rfl (h.cell 1 rfl)) ?_
 refine DD.run' [5] rfl ?_
 refine DD.vf 6 rfl rfl rfl rfl rfl (Vf.idx rfl rfl rfl rfl rfl rfl (hil)) ?_
 refine DD.vf 7 rfl rfl rfl rfl rfl (Vf.loadN rfl rfl rfl (h.st.co.whole hi rfl)) ?_
 refine DD.run' [8, 9, 10] rfl ?_
 refine DD.vf 11 rfl rfl rfl rfl rfl (Vf.load rfl rfl rfl (h.cell 6 rfl)) ?_
 refine DD.run' [12] rfl ?_
 refine DD.vf 13 rfl rfl rfl rfl rfl (Vf.idx1 rfl rfl rfl rfl rfl rfl rfl (hdn)) ?_
 refine DD.vf 14 rfl rfl rfl rfl rfl (Vf.load rfl rfl rfl (h.he.int (List.getElem?_eq_getElem hdn))) ?_
 refine DD.run' [15, 16, 17, 18] rfl ?_
 refine DD.vf 19 rfl rfl rfl rfl rfl (Vf.load rfl rfl rfl (h.cell 0 rfl)) ?_
 refine DD.run' [20, 21] rfl ?_
 refine DD.vf 22 rfl rfl rfl rfl rfl (Vf.idx rfl rfl rfl rfl rfl rfl (hkl)) ?_
 refine DD.run' [23] rfl ?_
 refine DD.vf 24 rfl rfl rfl rfl rfl (Vf.load rfl rfl rfl (h.st.sh.fld hk 0 rfl)) ?_
 refine DD.run' [25, 26] rfl ?_
 rw [wrap64_in (hs[d] + sh.lift) (by omega) (by omega)]
 refine DD.act 27 rfl rfl rfl rfl rfl (Ef.sto rfl) (by rintro _ _ _ ⟨rfl, rfl, rfl⟩; exact ⟨Le.refl _, rfl, .inl rfl⟩) ?_
 rintro _ _ _ ⟨rfl, rfl, rfl⟩
 refine DD.run' [28, 29] rfl ?_
 refine .fin rfl ?_
 refine W.go 99 rfl ?_
 refine W.split rfl rfl rfl (fun c1 => W.go 99 rfl ?_) (fun c1 => W.go 99 rfl ?_)
 ·have hlt : d0 < d := by simp at c1; omega
  have hd1 : d - 1 < hs.length := by omega
  have hhm' := h.hok.r hs[d - 1] (List.getElem_mem hd1)
  refine W.drawn (by kernel_rfl) _ (Le.refl _) ?_
  refine DD.run' [0, 1, 2] rfl ?_
  refine DD.vf 3 rfl rfl rfl rfl rfl (Vf.load rfl rfl rfl (h.cell 6 rfl)) ?_
  refine DD.run' [4, 5] rfl ?_
  rw [wrap64_in ((d : Int) - 1) (by omega) (by omega), show (d : Int) - 1 = ((d - 1 : Nat) : Int) by omega]
  refine DD.vf 6 rfl rfl rfl rfl rfl (Vf.idx1 rfl rfl rfl rfl rfl rfl rfl (hd1)) ?_
  refine DD.vf 7 rfl rfl rfl rfl rfl (Vf.load rfl rfl rfl (h.he.int (List.getElem?_eq_getElem hd1))) ?_
  refine DD.run' [8, 9, 10, 11] rfl ?_
  refine DD.vf 12 rfl rfl rfl rfl rfl (Vf.load rfl rfl rfl (h.cell 0 rfl)) ?_
  refine DD.run' [13, 14] rfl ?_
  refine DD.vf 15 rfl rfl rfl rfl rfl (Vf.idx rfl rfl rfl rfl rfl rfl (hkl)) ?_
  refine DD.run' [16] rfl ?_
  refine DD.vf 17 rfl rfl rfl rfl rfl (Vf.load rfl rfl rfl (h.st.sh.fld hk 0 rfl)) ?_
  refine DD.run' [18] rfl ?_
  rw [wrap64_in (hs[d - 1] + sh.lift) (by omega) (by omega)]
  refine DD.run' [19, 20, 21] rfl ?_
  rw [wrap64_in (hs[d - 1] + sh.lift + c.jump) (by omega) (by omega)]
  refine DD.run' [22] rfl ?_
  refine .fin rfl ?_
  refine W.go 99 rfl ?_
  refine W.split rfl rfl rfl (fun e => absurd e (by simp; omega)) (fun _ => W.go 99 rfl ?_)
  have hp : prevH hs d0 d = some hs[d - 1] := by unfold prevH; rw [if_neg (by omega), List.getElem?_eq_getElem hd1]
  refine W.split rfl rfl rfl (fun c2 => W.go 99 rfl ?_) (fun c2 => W.go 99 rfl ?_)
  ·refine W.ret r rfl rfl ?_
   refine ⟨?_, rfl⟩
   rw [if_pos]
   ·rfl
   ·unfold hotB; rw [hp]; simp at c2 ⊢; omega
  ·refine W.ret r rfl rfl ?_
   refine ⟨?_, rfl⟩
   rw [if_neg]
   ·rfl
   ·unfold hotB; rw [hp]; simp at c2 ⊢; omega
 ·have heq : d = d0 := by simp at c1; omega
  refine W.split rfl rfl rfl (fun _ => W.go 99 rfl ?_) (fun e => absurd e (by simp; omega))
  have hp : prevH hs d0 d = none := by unfold prevH; rw [if_pos heq]
  refine W.split rfl rfl rfl (fun c2 => W.go 99 rfl ?_) (fun c2 => W.go 99 rfl ?_)
  ·refine W.ret r rfl rfl ?_
   refine ⟨?_, rfl⟩
   rw [if_pos]
   ·rfl
   ·unfold hotB; rw [hp]; simp at c2 ⊢; omega
  ·refine W.ret r rfl rfl ?_
   refine ⟨?_, rfl⟩
   rw [if_neg]
   ·rfl
   ·unfold hotB; rw [hp]; simp at c2 ⊢; omega
end Go.Mz

