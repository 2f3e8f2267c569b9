/- Lemmas on which the claim leans. -/
import Derived.Test.YtfnjganjlkoehaaGreatDoorMzAn
import Derived.Conc.WgGenN3
set_option maxRecDepth 100000
namespace Go.Mz
open Go.Conc Go.ConcN Go.Proofs
open Go.ConcR (KK wgBlock WgAt stA smA rd wr mk)
abbrev lnk : Go.Conc.Lib.WgLink := { add := 129, done := 131, wait := 133, relMerge := 143, disable := 144, enable := 145, inBubble := 146, associate := 147, fatal := 148, uOr := 149, uAdd := 150, raceRead := 151, uLoad := 152, uStore := 153, disassociate := 154, semrelease := 155, acquire := 156, isAssociated := 157, uCas := 158, raceWrite := 159, semacquire := 160, orU64 := 164, addU64 := 165, loadU64 := 166, storeU64 := 167, casU64 := 168, tWgP := 171, tUP := 173, tAssoc := 174, tWg := 153, tAU := 150, tU64 := 77, tUint := 133, tU32 := 151, tPU32 := 178, tPAU := 196, tPU64 := 198, tNoCopy := 146, tANoCopy := 147, tAlign64 := 148 }
theorem wgLib : Go.Conc.Lib.WgLib Tryz.prog lnk :=
 ⟨Tryz.func129, Tryz.func131, Tryz.func133, Tryz.func143, Tryz.func144, Tryz.func145, Tryz.func146, Tryz.func147, Tryz.func148, Tryz.func149, Tryz.func150, Tryz.func151, Tryz.func152, Tryz.func153, Tryz.func154, Tryz.func155, Tryz.func156, Tryz.func157, Tryz.func158, Tryz.func159, Tryz.func160, Tryz.func164, Tryz.func165, Tryz.func166, Tryz.func167, Tryz.func168, Tryz.underlying171, Tryz.runUnderlying171, Tryz.sizeOf171, Tryz.isAgg171, Tryz.zeroValue171, Tryz.underlying173, Tryz.runUnderlying173, Tryz.sizeOf173, Tryz.isAgg173, Tryz.zeroValue173, Tryz.underlying174, Tryz.runUnderlying174, Tryz.sizeOf174, Tryz.isAgg174, Tryz.zeroValue174, Tryz.underlying153, Tryz.runUnderlying153, Tryz.sizeOf153, Tryz.isAgg153, Tryz.zeroValue153, Tryz.underlying150, Tryz.runUnderlying150, Tryz.sizeOf150, Tryz.isAgg150, Tryz.zeroValue150, Tryz.underlying77, Tryz.runUnderlying77, Tryz.sizeOf77, Tryz.isAgg77, Tryz.zeroValue77, Tryz.underlying133, Tryz.runUnderlying133, Tryz.sizeOf133, Tryz.isAgg133, Tryz.zeroValue133, Tryz.underlying151, Tryz.runUnderlying151, Tryz.sizeOf151, Tryz.isAgg151, Tryz.zeroValue151, Tryz.underlying178, Tryz.runUnderlying178, Tryz.sizeOf178, Tryz.isAgg178, Tryz.zeroValue178, Tryz.underlying196, Tryz.runUnderlying196, Tryz.sizeOf196, Tryz.isAgg196, Tryz.zeroValue196, Tryz.underlying198, Tryz.runUnderlying198, Tryz.sizeOf198, Tryz.isAgg198, Tryz.zeroValue198, Tryz.underlying0, Tryz.runUnderlying0, Tryz.sizeOf0, Tryz.isAgg0, Tryz.zeroValue0, Tryz.underlying3, Tryz.runUnderlying3, Tryz.sizeOf3, Tryz.isAgg3, Tryz.zeroValue3, Tryz.underlying4, Tryz.runUnderlying4, Tryz.sizeOf4, Tryz.isAgg4, Tryz.zeroValue4, Tryz.underlying9, Tryz.runUnderlying9, Tryz.sizeOf9, Tryz.isAgg9, Tryz.zeroValue9, Tryz.underlying20, Tryz.runUnderlying20, Tryz.sizeOf20, Tryz.isAgg20, Tryz.zeroValue20, Tryz.underlying21, Tryz.runUnderlying21, Tryz.sizeOf21, Tryz.isAgg21, Tryz.zeroValue21, (by kernel_rfl), (by kernel_rfl)⟩
open Extern in
def x144 : Array Value → Sem Value := fun _ => do mark .disable; pure Race.none_
open Extern in
def x145 : Array Value → Sem Value := fun _ => do mark .enable; pure Race.none_
open Extern in
def x151 : Array Value → Sem Value := Race.marked .read
open Extern in
def x156 : Array Value → Sem Value := Race.marked .acquire
open Extern in
def x159 : Array Value → Sem Value := Race.marked .write
open Extern in
def x165 : Array Value → Sem Value := Atomic.update (Op.intArith .add) .u64 true
open Extern in
def x166 : Array Value → Sem Value := Atomic.loadT (.int .u64)
open Extern in
def x168 : Array Value → Sem Value := Atomic.casT (.int .u64)
open Extern in
def x160 : Array Value → Sem Value := Sync.semacquire
def x146 : Array Value → Sem Value := fun _ => pure (.bool false)
theorem ext146 : Ext Tryz.prog 146 Tryz.f146 x146 := ⟨Tryz.func146, by kernel_rfl, rfl, by kernel_rfl, by kernel_rfl⟩
theorem ext144 : Ext Tryz.prog 144 Tryz.f144 x144 := ⟨Tryz.func144, by kernel_rfl, rfl, by kernel_rfl, by kernel_rfl⟩
theorem ext145 : Ext Tryz.prog 145 Tryz.f145 x145 := ⟨Tryz.func145, by kernel_rfl, rfl, by kernel_rfl, by kernel_rfl⟩
theorem ext151 : Ext Tryz.prog 151 Tryz.f151 x151 := ⟨Tryz.func151, by kernel_rfl, rfl, by kernel_rfl, by kernel_rfl⟩
theorem ext156 : Ext Tryz.prog 156 Tryz.f156 x156 := ⟨Tryz.func156, by kernel_rfl, rfl, by kernel_rfl, by kernel_rfl⟩
theorem ext159 : Ext Tryz.prog 159 Tryz.f159 x159 := ⟨Tryz.func159, by kernel_rfl, rfl, by kernel_rfl, by kernel_rfl⟩
theorem ext165 : Ext Tryz.prog 165 Tryz.f165 x165 := ⟨Tryz.func165, by kernel_rfl, rfl, by kernel_rfl, by kernel_rfl⟩
theorem ext166 : Ext Tryz.prog 166 Tryz.f166 x166 := ⟨Tryz.func166, by kernel_rfl, rfl, by kernel_rfl, by kernel_rfl⟩
theorem ext168 : Ext Tryz.prog 168 Tryz.f168 x168 := ⟨Tryz.func168, by kernel_rfl, rfl, by kernel_rfl, by kernel_rfl⟩
theorem ext160 : Ext Tryz.prog 160 Tryz.f160 x160 := ⟨Tryz.func160, by kernel_rfl, rfl, by kernel_rfl, by kernel_rfl⟩
abbrev ptA (a : Addr) : Value := .pointer (some a)
structure AddS (W : Nat) (S1 S2 S3 S4 S5 : Goroutine → LH → Prop) : Prop where
 h1 : ∀ g g' L, g.status = .running → (∀ w, stepG Tryz.prog true g w = .go g' w #[mk .disable]) → Way Tryz.prog true (WgLive 153 W) S2 g' L → S1 g L
 h2 : ∀ g L, g.status = .running → (∀ v : Nat, v < 2147483647 → ∃ g', (∀ w, WgAt 153 W w ((v : Int) * KK) 0 → stepG Tryz.prog true g w = .go g' (w.setCell (stA W) (.int .u64 (((v : Int) + 1) * KK))) #[rd (stA W), wr (stA W)]) ∧
  (Way Tryz.prog true (WgLive 153 W) S3 g' L ∨ Way Tryz.prog true (WgLive 153 W) S4 g' L)) → S2 g L
 h3 : ∀ g g' L, g.status = .running → (∀ w, stepG Tryz.prog true g w = .go g' w #[mk (.read (smA W))]) → Way Tryz.prog true (WgLive 153 W) S4 g' L → S3 g L
 h4 : ∀ g g' L, g.status = .running → (∀ w, stepG Tryz.prog true g w = .go g' w #[mk .enable]) → Way Tryz.prog true (WgLive 153 W) S5 g' L → S4 g L
theorem kk_add (v : Nat) (hv : v < 2147483647) : IntKind.u64.wrap ((v : Int) * KK + 4294967296) = ((v : Int) + 1) * KK := by
 rw [IntKind.wrap_u64]; simp only [KK]; omega
variable {W0 : Nat} {S1 S2 S3 S4 S5 : Goroutine → LH → Prop}
theorem uAdd_sp (H : AddS W0 S1 S2 S3 S4 S5) (L : LH) : SpX (LWay Tryz.prog true (WgLive 153 W0) S2) 150 [ptA (stA W0), .int .u64 4294967296] L
  (fun Y v L' => ∃ m : Nat, m < 2147483647 ∧ v = .int .u64 (((m : Int) + 1) * KK) ∧ L' = L ∧ (m = 0 → Y = LWay Tryz.prog true (WgLive 153 W0) S3) ∧ (m ≠ 0 → Y = LWay Tryz.prog true (WgLive 153 W0) S4)) := by
 refine SpX.enter (n := 10) Tryz.func150 rfl rfl rfl rfl fun C hX _ hL0 r => ?_
 have hkd : C.kd ≠ .early := by rcases r.kd with e | e <;> rw [e] <;> decide
 refine W.go 99 rfl ?_
 refine W.atom hX r.ro rfl rfl rfl rfl fun T R g fin hev hwt ho' hg hfin hrun cont => ?_
 refine H.h2 _ _ hrun fun v hv => ⟨fin (.int .u64 (((v : Int) + 1) * KK)), fun w hw => ?_, ?_⟩
 ·rw [hg, hfin]
  exact (stepG_add_atomic ho' hwt hkd rfl ext165.func ext165.name ext165.body ext165.next .u64 ext165.find (hev _ _ _ rfl rfl) (hev _ _ _ rfl rfl) hw.cellSt (hw.thaw 0)).trans (by rw [kk_add v hv]; rfl)
 ·by_cases e : v = 0
  ·refine .inl (cont (LWay Tryz.prog true (WgLive 153 W0) S3) _ ?_)
   refine W.go 99 rfl ?_
   exact W.retX (r.to _) (.inr ⟨_, rfl⟩) rfl rfl ⟨v, hv, rfl, rfl, fun _ => rfl, fun h => absurd e h⟩
  ·refine .inr (cont (LWay Tryz.prog true (WgLive 153 W0) S4) _ ?_)
   refine W.go 99 rfl ?_
   exact W.retX (r.to _) (.inr ⟨_, rfl⟩) rfl rfl ⟨v, hv, rfl, rfl, fun h => absurd h e, fun _ => rfl⟩
end Go.Mz


set_option maxRecDepth 100000
namespace Go.Mz
open Go.Conc Go.ConcN Go.Proofs
open Go.ConcR (KK wgBlock WgAt stA smA rd wr mk)
variable {W0 : Nat} {S1 S2 S3 S4 S5 : Goroutine → LH → Prop}
theorem add_sp (H : AddS W0 S1 S2 S3 S4 S5) (L : LH) : SpX (LWay Tryz.prog true (WgLive 153 W0) S1) 129 [ptA (stA W0), .int .i64 1] L
  (fun Y v L' => Y = LWay Tryz.prog true (WgLive 153 W0) S5 ∧ v = .tuple #[] ∧ L' = L) := by
 refine SpX.enter (n := 117) Tryz.func129 rfl rfl rfl rfl fun C hX _ hL0 r => ?_
 have hkd : C.kd ≠ .early := by rcases r.kd with e | e <;> rw [e] <;> decide
 refine W.go 99 rfl ?_
 refine W.split rfl rfl rfl (fun c => absurd c (by decide)) (fun c => ?_)
 refine W.go 99 rfl ?_
 refine W.mark0 .disable (by simp) ext144.func ext144.name ext144.body ext144.next ext144.find hX r.ro hkd H.h1 rfl rfl rfl ?_
 refine W.go 99 rfl ?_
 refine W.deferF r.ro rfl rfl rfl ?_
 refine W.go 99 rfl ?_
 refine W.eff rfl rfl rfl (Ef.ext rfl (SpE.pure ext146 fun _ _ _ => rfl)) ?_
 rintro _ _ _ ⟨_, rfl, rfl, rfl, rfl⟩
 refine W.go 99 rfl ?_
 refine W.split rfl rfl rfl (fun c => absurd c (by decide)) (fun c => ?_)
 refine W.go 99 rfl ?_
 refine W.callX (args := [ptA (stA W0), .int .u64 4294967296]) rfl rfl rfl rfl (uAdd_sp H L) ?_
 rintro Y v _ ⟨m, hm, rfl, rfl, hY1, hY2⟩
 obtain ⟨V, hV⟩ : ∃ V : Int, V = (m : Int) + 1 := ⟨_, rfl⟩
 obtain ⟨S, hS⟩ : ∃ S : Int, S = V * KK := ⟨_, rfl⟩
 rw [← hV, ← hS]
 have a1 : S.fdiv (2 ^ min 32 IntKind.u64.bits) = V := by
  have e : ((2 : Int) ^ min 32 IntKind.u64.bits) = 4294967296 := by decide
  rw [e, Int.fdiv_eq_ediv_of_nonneg _ (by decide), hS]; simp only [KK]; omega
 have b1 : IntKind.u64.wrap ((BitVec.ofInt IntKind.u64.bits S &&& BitVec.ofInt IntKind.u64.bits 2147483648).toNat : Int) = 0 := by
  have : bits .and .u64 S 2147483648 = 0 := by rw [hS, hV]; have := Go.ConcN.st_flag (m + 1) 0 (by omega) (by omega); simpa [KK] using this
  exact this
 have b2 : IntKind.u64.wrap ((BitVec.ofInt IntKind.u64.bits S &&& BitVec.ofInt IntKind.u64.bits 2147483647).toNat : Int) = 0 := by
  have : bits .and .u64 S 2147483647 = 0 := by rw [hS, hV]; have := Go.ConcN.st_waiters (m + 1) 0 (by omega) (by omega); simpa [KK] using this
  exact this
 have c1 : IntKind.i32.wrap V = V := by rw [IntKind.wrap_i32]; omega
 refine W.go 99 rfl ?_
 rw [b1]
 refine W.split rfl rfl rfl (fun c => absurd c (by decide)) (fun c => ?_)
 refine W.go 99 rfl ?_
 rw [b2, a1]
 refine W.split rfl rfl rfl (fun c => ?_) (fun c => absurd c (by decide))
 refine W.go 99 rfl ?_
 rw [c1]
 refine W.split rfl rfl rfl (fun e => ?_) (fun e => ?_)
 ·have e0 : m = 0 := by simp at e; rw [show IntKind.i32.wrap 1 = 1 by decide] at e; omega
  have hY := hY1 e0
  subst hY
  refine W.go 99 rfl ?_
  refine W.convU rfl r.ro hkd Tryz.underlying178 Tryz.underlying173 (by kernel_rfl) (fun w ⟨st, sm, hw⟩ => ⟨_, hw.cellSm⟩) rfl rfl rfl rfl ?_
  refine W.markA (ad := smA W0) .read (by simp) ext151.func ext151.name ext151.body ext151.next ext151.find rfl r.ro hkd H.h3 rfl rfl rfl rfl ?_
  refine W.go 99 rfl ?_
  refine W.split rfl rfl rfl (fun e => absurd e (by simp; omega)) (fun e => ?_)
  refine W.go 99 rfl ?_
  refine W.split rfl rfl rfl (fun c => absurd c (by decide)) (fun c => ?_)
  refine W.go 99 rfl ?_
  refine W.split rfl rfl rfl (fun e => ?_) (fun e => absurd e (by simp; omega))
  refine W.go 99 rfl ?_
  refine W.out r.ro (.inr .ret) ?_
  refine WM.mark0 .enable (by simp) ext145.func ext145.name ext145.body ext145.next ext145.find rfl r.ro H.h4 ?_
  exact WM.retX (r.to _) rfl rfl ⟨rfl, rfl, rfl⟩
 ·have e0 : m ≠ 0 := fun e0 => by subst e0; rw [hV] at e; revert e; decide
  have hY := hY2 e0
  subst hY
  refine W.go 99 rfl ?_
  refine W.split rfl rfl rfl (fun e => absurd e (by simp; omega)) (fun e => ?_)
  refine W.go 99 rfl ?_
  refine W.split rfl rfl rfl (fun c => absurd c (by decide)) (fun c => ?_)
  refine W.go 99 rfl ?_
  refine W.split rfl rfl rfl (fun e => ?_) (fun e => absurd e (by simp; omega))
  refine W.go 99 rfl ?_
  refine W.out r.ro (.inr .ret) ?_
  refine WM.mark0 .enable (by simp) ext145.func ext145.name ext145.body ext145.next ext145.find rfl r.ro H.h4 ?_
  exact WM.retX (r.to _) rfl rfl ⟨rfl, rfl, rfl⟩
end Go.Mz


set_option maxRecDepth 100000
namespace Go.Mz
open Go.Conc Go.ConcN Go.Proofs
open Go.ConcR (KK wgBlock WgAt stA smA rd wr mk)
structure WaitS (W : Nat) (Sd Sl : Goroutine → LH → Prop) (Sc : Nat → Goroutine → LH → Prop) (Ss Sm S4 Se Sa Sx An : Goroutine → LH → Prop) : Prop where
 h1 : ∀ g g' L, g.status = .running → (∀ w, stepG Tryz.prog false g w = .go g' w #[mk .disable]) → Way Tryz.prog false (WgLive 153 W) Sl g' L → Sd g L
 h2 : ∀ g L, g.status = .running → (∃ g', (∀ w, WgAt 153 W w 0 0 → stepG Tryz.prog false g w = .go g' w #[rd (stA W)]) ∧ Way Tryz.prog false (WgLive 153 W) Se g' L) →
  (∀ v : Nat, 0 < v → v < 2147483648 → ∃ g', (∀ w, WgAt 153 W w ((v : Int) * KK) 0 → stepG Tryz.prog false g w = .go g' w #[rd (stA W)]) ∧ Way Tryz.prog false (WgLive 153 W) (Sc v) g' L) → Sl g L
 h3 : ∀ (vs : Nat) g L, g.status = .running → (∃ g', (∀ w, WgAt 153 W w ((vs : Int) * KK) 0 → stepG Tryz.prog false g w = .go g' (w.setCell (stA W) (.int .u64 ((vs : Int) * KK + 1))) #[rd (stA W), wr (stA W)]) ∧ Way Tryz.prog false (WgLive 153 W) Ss g' L) →
  (∃ g', (∀ w (v : Nat), v ≠ vs → v < 2147483648 → WgAt 153 W w ((v : Int) * KK) 0 → stepG Tryz.prog false g w = .go g' w #[rd (stA W)]) ∧ Way Tryz.prog false (WgLive 153 W) An g' L) → Sc vs g L
 h4 : ∀ g g' L, g.status = .running → (∀ w, stepG Tryz.prog false g w = .go g' w #[mk (.write (smA W))]) → Way Tryz.prog false (WgLive 153 W) Sm g' L → Ss g L
 h5 : ∀ g L, g.status = .running → g.offers = none → (∀ w st, WgAt 153 W w st 0 → stepG Tryz.prog false g w = .go { g with status := .blocked } w #[]) →
  (∃ g', (∀ w, WgAt 153 W w 0 1 → stepG Tryz.prog false g w = .go g' (w.setCell (smA W) (.int .u32 0)) (semEvents (smA W))) ∧ Way Tryz.prog false (WgLive 153 W) S4 g' L) → Sm g L
 h6 : ∀ g L, g.status = .running → (∃ g', (∀ w, WgAt 153 W w 0 0 → stepG Tryz.prog false g w = .go g' w #[rd (stA W)]) ∧ Way Tryz.prog false (WgLive 153 W) Se g' L) → S4 g L
 h7 : ∀ g g' L, g.status = .running → (∀ w, stepG Tryz.prog false g w = .go g' w #[mk .enable]) → Way Tryz.prog false (WgLive 153 W) Sa g' L → Se g L
 h8 : ∀ g g' L, g.status = .running → (∀ w, stepG Tryz.prog false g w = .go g' w #[mk (.acquire (stA W))]) → Way Tryz.prog false (WgLive 153 W) Sx g' L → Sa g L
variable {W0 : Nat} {Sd Sl : Goroutine → LH → Prop} {Sc : Nat → Goroutine → LH → Prop} {Ss Sm S4 Se Sa Sx An : Goroutine → LH → Prop}
abbrev LW (W0 : Nat) (S : Goroutine → LH → Prop) : Logic Tryz.prog := LWay Tryz.prog false (WgLive 153 W0) S
theorem uLoad_sp (H : WaitS W0 Sd Sl Sc Ss Sm S4 Se Sa Sx An) (L : LH) : SpX (LW W0 Sl) 152 [ptA (stA W0)] L
  (fun Y v L' => L' = L ∧ ((v = .int .u64 0 ∧ Y = LW W0 Se) ∨ ∃ m : Nat, 0 < m ∧ m < 2147483648 ∧ v = .int .u64 ((m : Int) * KK) ∧ Y = LW W0 (Sc m))) := by
 refine SpX.enter (n := 7) Tryz.func152 rfl rfl rfl rfl fun C hX _ hL0 r => ?_
 have hkd : C.kd ≠ .early := by rcases r.kd with e | e <;> rw [e] <;> decide
 refine W.go 99 rfl ?_
 refine W.atom hX r.ro rfl rfl rfl rfl fun T R g fin hev hwt ho' hg hfin hrun cont => ?_
 refine H.h2 _ _ hrun ⟨fin (.int .u64 0), fun w hw => ?_, ?_⟩ fun v hv0 hv => ⟨fin (.int .u64 ((v : Int) * KK)), fun w hw => ?_, ?_⟩
 ·rw [hg, hfin]
  exact stepG_load_atomic ho' hwt hkd rfl ext166.func ext166.name ext166.body ext166.next .u64 ext166.find (hev _ _ _ rfl rfl) hw.cellSt
 ·refine cont (LW W0 Se) _ ?_
  refine W.go 99 rfl ?_
  exact W.retX (r.to _) (.inr ⟨_, rfl⟩) rfl rfl ⟨rfl, .inl ⟨rfl, rfl⟩⟩
 ·rw [hg, hfin]
  exact stepG_load_atomic ho' hwt hkd rfl ext166.func ext166.name ext166.body ext166.next .u64 ext166.find (hev _ _ _ rfl rfl) hw.cellSt
 ·refine cont (LW W0 (Sc v)) _ ?_
  refine W.go 99 rfl ?_
  exact W.retX (r.to _) (.inr ⟨_, rfl⟩) rfl rfl ⟨rfl, .inr ⟨v, hv0, hv, rfl, rfl⟩⟩
theorem uLoad4_sp (H : WaitS W0 Sd Sl Sc Ss Sm S4 Se Sa Sx An) (L : LH) : SpX (LW W0 S4) 152 [ptA (stA W0)] L
  (fun Y v L' => L' = L ∧ v = .int .u64 0 ∧ Y = LW W0 Se) := by
 refine SpX.enter (n := 7) Tryz.func152 rfl rfl rfl rfl fun C hX _ hL0 r => ?_
 have hkd : C.kd ≠ .early := by rcases r.kd with e | e <;> rw [e] <;> decide
 refine W.go 99 rfl ?_
 refine W.atom hX r.ro rfl rfl rfl rfl fun T R g fin hev hwt ho' hg hfin hrun cont => ?_
 refine H.h6 _ _ hrun ⟨fin (.int .u64 0), fun w hw => ?_, ?_⟩
 ·rw [hg, hfin]
  exact stepG_load_atomic ho' hwt hkd rfl ext166.func ext166.name ext166.body ext166.next .u64 ext166.find (hev _ _ _ rfl rfl) hw.cellSt
 ·refine cont (LW W0 Se) _ ?_
  refine W.go 99 rfl ?_
  exact W.retX (r.to _) (.inr ⟨_, rfl⟩) rfl rfl ⟨rfl, rfl, rfl⟩
theorem uCas_sp (H : WaitS W0 Sd Sl Sc Ss Sm S4 Se Sa Sx An) (m : Nat) (hm0 : 0 < m) (hm : m < 2147483648) (L : LH) : SpX (LW W0 (Sc m)) 158 [ptA (stA W0), .int .u64 ((m : Int) * KK), .int .u64 ((m : Int) * KK + 1)] L
  (fun Y v L' => L' = L ∧ ((v = .bool true ∧ Y = LW W0 Ss) ∨ (v = .bool false ∧ Y = LW W0 An))) := by
 refine SpX.enter (n := 13) Tryz.func158 rfl rfl rfl rfl fun C hX _ hL0 r => ?_
 have hkd : C.kd ≠ .early := by rcases r.kd with e | e <;> rw [e] <;> decide
 refine W.go 99 rfl ?_
 refine W.atom hX r.ro rfl rfl rfl rfl fun T R g fin hev hwt ho' hg hfin hrun cont => ?_
 refine H.h3 m _ _ hrun ⟨fin (.bool true), fun w hw => ?_, ?_⟩ ⟨fin (.bool false), fun w v hne hv hw => ?_, ?_⟩
 ·rw [hg, hfin]
  exact stepG_cas_hit ho' hwt hkd rfl ext168.func ext168.name ext168.body ext168.next .u64 ext168.find (hev _ _ _ rfl rfl) (hev _ _ _ rfl rfl) (hev _ _ _ rfl rfl) hw.cellSt (hw.thaw 0)
 ·refine cont (LW W0 Ss) _ ?_
  refine W.go 99 rfl ?_
  exact W.retX (r.to _) (.inr ⟨_, rfl⟩) rfl rfl ⟨rfl, .inl ⟨rfl, rfl⟩⟩
 ·rw [hg, hfin]
  exact stepG_cas_miss ho' hwt hkd rfl ext168.func ext168.name ext168.body ext168.next .u64 ext168.find (hev _ _ _ rfl rfl) (hev _ _ _ rfl rfl) (hev _ _ _ rfl rfl) hw.cellSt (hw.thaw 0) (by simp only [KK]; omega)
 ·refine cont (LW W0 An) _ ?_
  refine W.go 99 rfl ?_
  exact W.retX (r.to _) (.inr ⟨_, rfl⟩) rfl rfl ⟨rfl, .inr ⟨rfl, rfl⟩⟩
noncomputable def wtC : Code := match Tryz.f133.body with | some (.seq _ (.block _ (.loop c))) => c | _ => .skip
noncomputable def wtK : List Item := [.inLoop wtC, .inBlock 0]
def AnW (W0 : Nat) (Sx : Goroutine → LH → Prop) (g : Goroutine) (R : LH) : Prop :=
 ∃ (T : Array Value) (kd : CallKind) (c : Frame) (cs : List Frame), T.size = 84 ∧ T.getD 0 undef = ptA (stA W0) ∧ (kd = .normal ∨ kd = .wrapped) ∧ g = G (Fr 133 T wtK [] .run kd none) (c :: cs) ∧ ∀ R', Le R R' → (LW W0 Sx).Go (G (c.finish (.tuple #[])) cs) R'
abbrev WaitQ (W0 : Nat) (Sx : Goroutine → LH → Prop) (L : LH) : Logic Tryz.prog → Value → LH → Prop := fun Y v L' => Y = LW W0 Sx ∧ v = .tuple #[] ∧ L' = L
theorem wait_round (H : WaitS W0 Sd Sl Sc Ss Sm S4 Se Sa Sx (AnW W0 Sx)) {C : Cx Tryz.prog} {L : LH} (hX : C.X = LW W0 Sl) (hf : C.f = 133) (hL : C.L0 = L) (r : RtX C Tryz.f133 (WaitQ W0 Sx L)) : W C 84 [] (.code wtC :: wtK) [(0, .v (ptA (stA W0)))] [] L := by
 have hkd : C.kd ≠ .early := by rcases r.kd with e | e <;> rw [e] <;> decide
 refine W.go 99 rfl ?_
 refine W.callX rfl rfl rfl rfl (by rw [hX]; exact uLoad_sp H L) ?_
 rintro Y v L' ⟨rfl, ⟨rfl, rfl⟩ | ⟨m, hm0, hm, rfl, rfl⟩⟩
 ·refine W.go 99 rfl ?_
  refine W.split rfl rfl rfl (fun c => ?_) (fun c => absurd c (by decide))
  refine W.go 99 rfl ?_
  refine W.mark0 .enable (by simp) ext145.func ext145.name ext145.body ext145.next ext145.find rfl r.ro hkd H.h7 rfl rfl rfl ?_
  refine W.go 99 rfl ?_
  refine W.convU rfl r.ro hkd Tryz.underlying171 Tryz.underlying173 (by kernel_rfl) (fun w ⟨st, sm, hw⟩ => ⟨_, hw.cellSt⟩) rfl rfl rfl rfl ?_
  refine W.markA .acquire (by simp) ext156.func ext156.name ext156.body ext156.next ext156.find rfl r.ro hkd H.h8 rfl rfl rfl rfl ?_
  refine W.go 99 rfl ?_
  refine W.split rfl rfl rfl (fun c => ?_) (fun c => absurd c (by decide))
  refine W.go 99 rfl ?_
  refine W.split rfl rfl rfl (fun c => absurd c (by decide)) (fun c => ?_)
  refine W.go 99 rfl ?_
  exact W.retX (r.to _) (.inr ⟨_, rfl⟩) rfl rfl ⟨rfl, rfl, rfl⟩
 ·have e32 : ((2 : Int) ^ min 32 IntKind.u64.bits) = 4294967296 := by decide
  have a1 : ((m : Int) * KK).fdiv (2 ^ min 32 IntKind.u64.bits) = m := by
   rw [e32, Int.fdiv_eq_ediv_of_nonneg _ (by decide)]; simp only [KK]; omega
  have c1 : IntKind.i32.wrap (m : Int) = m := by rw [IntKind.wrap_i32]; omega
  have b1 : IntKind.u64.wrap ((BitVec.ofInt IntKind.u64.bits ((m : Int) * KK) &&& BitVec.ofInt IntKind.u64.bits 2147483648).toNat : Int) = 0 := by
   have : bits .and .u64 ((m : Int) * KK) 2147483648 = 0 := by have := Go.ConcN.st_flag m 0 (by omega) (by omega); simpa [KK] using this
   exact this
  have b2 : IntKind.u64.wrap ((BitVec.ofInt IntKind.u64.bits ((m : Int) * KK) &&& BitVec.ofInt IntKind.u64.bits 2147483647).toNat : Int) = 0 := by
   have : bits .and .u64 ((m : Int) * KK) 2147483647 = 0 := by have := Go.ConcN.st_waiters m 0 (by omega) (by omega); simpa [KK] using this
   exact this
  have w1 : IntKind.u64.wrap ((m : Int) * KK + 1) = (m : Int) * KK + 1 := by rw [IntKind.wrap_u64]; simp only [KK]; omega
  refine W.go 99 rfl ?_
  rw [a1, c1, b2]
  refine W.split rfl rfl rfl (fun e => absurd e (by simp; omega)) (fun e => ?_)
  refine W.go 99 rfl ?_
  rw [w1]
  refine W.callX rfl rfl rfl rfl (uCas_sp H m hm0 hm L') ?_
  rintro Y v _ ⟨rfl, ⟨rfl, rfl⟩ | ⟨rfl, rfl⟩⟩
  ·refine W.go 99 rfl ?_
   refine W.split rfl rfl rfl (fun c => ?_) (fun c => absurd c (by decide))
   refine W.go 99 rfl ?_
   refine W.split rfl rfl rfl (fun c => ?_) (fun c => absurd c (by decide))
   refine W.go 99 rfl ?_
   refine W.convU rfl r.ro hkd Tryz.underlying178 Tryz.underlying173 (by kernel_rfl) (fun w ⟨st, sm, hw⟩ => ⟨_, hw.cellSm⟩) rfl rfl rfl rfl ?_
   refine W.markA (ad := smA W0) .write (by simp) ext159.func ext159.name ext159.body ext159.next ext159.find rfl r.ro hkd H.h4 rfl rfl rfl rfl ?_
   refine W.go 99 rfl ?_
   rw [b1]
   refine W.split rfl rfl rfl (fun c => absurd c (by decide)) (fun c => ?_)
   refine W.go 99 rfl ?_
   refine W.atom rfl r.ro rfl rfl rfl rfl fun T R g fin hev hwt ho' hg hfin hrun cont => ?_
   refine H.h5 _ _ hrun (by rw [hg]; rfl) (fun w st hw => ?_) ⟨fin (.tuple #[]), fun w hw => ?_, ?_⟩
   ·rw [hg]
    exact stepG_semacquire_wait (ad := smA W0) ho' hwt rfl ext160.func ext160.name ext160.body ext160.next ext160.find (by have h70 := hev (.tmp 70) _ _ rfl rfl; simp [h70]; rfl) hw.cellSm
   ·rw [hg, hfin]
    exact stepG_semacquire (ad := smA W0) (n := 1) ho' hwt hkd rfl ext160.func ext160.name ext160.body ext160.next ext160.find (by have h70 := hev (.tmp 70) _ _ rfl rfl; simp [h70]; rfl) hw.cellSm (by decide) (hw.thaw 1)
   ·refine cont (LW W0 S4) _ ?_
    refine W.go 99 rfl ?_
    refine W.callX rfl rfl rfl rfl (uLoad4_sp H _) ?_
    rintro Y v _ ⟨rfl, rfl, rfl⟩
    refine W.go 99 rfl ?_
    refine W.mark0 .enable (by simp) ext145.func ext145.name ext145.body ext145.next ext145.find rfl r.ro hkd H.h7 rfl rfl rfl ?_
    refine W.go 99 rfl ?_
    refine W.convU rfl r.ro hkd Tryz.underlying171 Tryz.underlying173 (by kernel_rfl) (fun w ⟨st, sm, hw⟩ => ⟨_, hw.cellSt⟩) rfl rfl rfl rfl ?_
    refine W.markA .acquire (by simp) ext156.func ext156.name ext156.body ext156.next ext156.find rfl r.ro hkd H.h8 rfl rfl rfl rfl ?_
    refine W.go 99 rfl ?_
    refine W.split rfl rfl rfl (fun c => absurd c (by decide)) (fun c => ?_)
    refine W.go 99 rfl ?_
    exact W.retX (r.to _) (.inr ⟨_, rfl⟩) rfl rfl ⟨rfl, rfl, rfl⟩
  ·refine W.go 99 rfl ?_
   refine W.split rfl rfl rfl (fun c => absurd c (by decide)) (fun c => ?_)
   refine W.go 99 rfl ?_
   refine W.stop rfl fun T R β hT hE hH => ?_
   obtain ⟨_, hro, hk, c, cs, hcs, h1⟩ := r
   refine ⟨T, C.kd, c, cs, hT, ?_, hk, ?_, fun R' hR => h1 (LW W0 Sx) _ R' _ ⟨rfl, rfl, rfl⟩ ⟨hH.post.le.trans hR, fun b x g1 g2 => hR _ _ (hH.post.keep b x g1 g2), hH.post.fresh, hH.post.dom⟩⟩
   ·exact (Option.some.inj (hE 0 _ rfl)).symm
   ·show G (Fr C.f T _ [] .run C.kd C.ro) C.cs = _
    rw [hf, hro, hcs]
theorem anW_way (H : WaitS W0 Sd Sl Sc Ss Sm S4 Se Sa Sx (AnW W0 Sx)) : ∀ g L, AnW W0 Sx g L → Way Tryz.prog false (WgLive 153 W0) Sl g L := by
 rintro _ R ⟨T, kd, c, cs, hT, h0, hk, rfl, hw⟩
 have r : RtX (⟨LW W0 Sl, 133, kd, none, c :: cs, R, R⟩ : Cx Tryz.prog) Tryz.f133 (WaitQ W0 Sx R) := ⟨Tryz.func133, rfl, hk, c, cs, rfl, by
  rintro Y v R' L' ⟨rfl, rfl, rfl⟩ hp
  exact hw R' hp.le⟩
 have key := wait_round H (C := ⟨LW W0 Sl, 133, kd, none, c :: cs, R, R⟩) (L := R) rfl rfl rfl r T R nm0 hT (fun s x hx => by
  rw [get_cons] at hx
  split at hx
  ·rename_i e; subst e; cases hx; exact congrArg some h0.symm
  ·cases hx) ⟨(fun _ _ _ h => by cases h), (fun _ _ h => by cases h), (fun _ _ h => by cases h), (fun k b x hk => by cases hk), Le.refl _, (fun b x h1 h2 => absurd (h1.symm.trans h2) (by simp)), fun b hb => .inl hb, fun b hb => hb⟩
 exact (LW W0 Sl).inLoop key
theorem wait_sp (H : WaitS W0 Sd Sl Sc Ss Sm S4 Se Sa Sx (AnW W0 Sx)) (L : LH) : SpX (LW W0 Sd) 133 [ptA (stA W0)] L (WaitQ W0 Sx L) := by
 refine SpX.enter (n := 84) Tryz.func133 rfl rfl rfl rfl fun C hX hf hL0 r => ?_
 have hkd : C.kd ≠ .early := by rcases r.kd with e | e <;> rw [e] <;> decide
 refine W.go 99 rfl ?_
 refine W.mark0 .disable (by simp) ext144.func ext144.name ext144.body ext144.next ext144.find hX r.ro hkd H.h1 rfl rfl rfl ?_
 refine W.go 99 rfl ?_
 intro T R β hT hE hH
 have key := wait_round H (C := C.to (LW W0 Sl)) (L := L) rfl hf hL0 (r.to _)
 have hE' : EnvOk nm0 (get [(0, SV.v (ptA (stA W0)))]) T := fun s x hx => by
  rw [get_cons] at hx
  split at hx
  ·rename_i e; subst e; cases hx; exact hE 0 _ rfl
  ·cases hx
 exact (LW W0 Sl).loop (key T R β hT (hE'.mono (nm0_le β)) hH)
end Go.Mz


set_option maxRecDepth 100000
namespace Go.Mz
open Go.Conc Go.ConcN
section
variable {P : Program} {n : Nat} {k : List Item} {E : Env} {B : List (Option Bx)} {L : LH}
structure RtO (C : Cx P) (fn : Func) (s : Nat) (Q : Value → LH → Prop) : Prop where
 ro : C.ro = none
 go : ∀ (T : Array Value) (k : List Item) (v : Value) (R L' : LH), T.getD s undef = v → Q v L' → Post C.L0 C.R0 L' R → C.X.Go (G (Fr C.f T k [] .returning C.kd none) C.cs) R
theorem W.retO {C : Cx P} {fn : Func} {s : Nat} {Q : Value → LH → Prop} {v : Value} (r : RtO C fn s Q) (hs : get E s = some (.v v)) (hq : Q v L) : W C n [] (.code .ret :: k) E B L := by
 intro T R β hT hE hH
 obtain ⟨hro, go⟩ := r
 rw [hro]
 exact C.X.ret (go _ _ v R L (Option.some.inj (hE s _ hs)).symm hq hH.post)
theorem FGo.leave1 {Post : Value → World → Prop} {W0 : World} {f : FuncId} {fn : Func} {s : Nat} {T : Array Value} (hf : P.funcs[f]? = some fn) (hr : fn.results = #[.tmp s]) (hin : P.inits.idxOf? f = none) (h : ∀ w, Sub L w → Same W0 w → Post (T.getD s undef) w) :
  FGo P Post W0 (G (Fr f T k [] .returning .normal none) []) L := by
 refine FGo.done rfl fun w hs hw => ⟨T.getD s undef, #[], ?_, fun e he => by simp at he, h w hs hw⟩
 simp [G, Fr, stepG, unwind, hf, doReturn, results, hr, hin, GStep.after, seen_none]
theorem root_enter {Post : Value → World → Prop} {W0 : World} {f : FuncId} {fn : Func} {body : Code} {args : List Value} {s : Nat} {Q : Value → LH → Prop} (hf : P.funcs[f]? = some fn) (hb : fn.body = some body) (hr : fn.results = #[.tmp s]) (hin : P.inits.idxOf? f = none) (hz : fn.ntmps = n) (hle : Nat.ble args.length n = true)
  (hQ : ∀ v L' w, Q v L' → Sub L' w → Same W0 w → Post v w)
  (h : ∀ C : Cx P, C.X = LFGo P Post W0 → C.f = f → C.L0 = L → RtO C fn s Q → W C n [] [.code body] (argEnv 0 args) [] L) : FGo P Post W0 (G (Frame.enter P f args.toArray .normal) []) L := by
 refine W.start (X := LFGo P Post W0) hf hb hz hle (h _ rfl rfl rfl ⟨rfl, fun T k v R L' hv hq hp => ?_⟩)
 refine FGo.leave1 hf hr hin fun w hs hw => ?_
 rw [hv]
 exact hQ v L' w hq (fun b o wr hb => hs b o wr (hp.le _ _ hb)) hw
end
end Go.Mz


namespace Go.Mz
open Go
structure Shelf where
 lift : Int
 room : Int
structure Cone where
 wet : Int
 cold : Int
 jump : Int
 most : Int
structure Stand where
 shelf : Int
 day : Int
deriving DecidableEq
structure St where
 shelves : List Shelf
 cones : List Cone
 days : Int
 now : Int
 rise : Int
 top : Int
def inB (n lo hi : Int) : Bool := decide (lo ≤ n) && decide (n ≤ hi)
theorem inB_iff {n lo hi : Int} : inB n lo hi = true ↔ lo ≤ n ∧ n ≤ hi := by unfold inB; simp
def sizedE (n lo hi : Int) : Int := if n < lo then 7 else if hi < n then 6 else 0
structure Ok (s : St) : Prop where
 s1 : 1 ≤ s.shelves.length
 s3 : s.shelves.length ≤ 3
 sh : ∀ x ∈ s.shelves, 0 ≤ x.lift ∧ x.lift ≤ 3 ∧ 1 ≤ x.room ∧ x.room ≤ 2
 c3 : s.cones.length ≤ 3
 co : ∀ c ∈ s.cones, (1 ≤ c.wet ∧ c.wet ≤ 20) ∧ (0 ≤ c.cold ∧ c.cold ≤ 9) ∧ (0 ≤ c.jump ∧ c.jump ≤ 9) ∧ (0 ≤ c.most ∧ c.most ≤ 9)
 d1 : 1 ≤ s.days
 d4 : s.days ≤ 4
 n0 : 0 ≤ s.now
 n5 : s.now ≤ 5
 t0 : 0 ≤ s.top
 t5 : s.top ≤ 5
 r0 : 0 ≤ s.rise
 r3 : s.rise ≤ 3
theorem sizedE_0 {n lo hi : Int} : sizedE n lo hi = 0 ↔ lo ≤ n ∧ n ≤ hi := by
 unfold sizedE
 split
 ·constructor
  ·intro h; cases h
  ·omega
 ·split
  ·constructor
   ·intro h; cases h
   ·omega
  ·constructor
   ·omega
   ·intro _; rfl
def grow (fit : List Stand → Bool) : List (List Stand) → List Stand → List (List Stand)
 | [], b => [b]
 | o :: os, b => o.flatMap fun a => if fit (b ++ [a]) then grow fit os (b ++ [a]) else []
def cnt (l : List Stand) : Int := (l.countP fun a => decide (0 ≤ a.shelf) : Nat)
def sumL (l : List Int) : Int := l.foldl (· + ·) 0
end Go.Mz


namespace Go.Mz
open Go
theorem sumL_add (l : List Int) (x : Int) : sumL (l ++ [x]) = sumL l + x := by unfold sumL; rw [List.foldl_append]; rfl
end Go.Mz


namespace Go.Mz
open Go.Conc
section
variable {P : Program} {R : LH} {H : Value → LH → Prop}
theorem wpS_appendF {ts tx e e2 : TypeId} {k bts len m : Nat} {cs vs : List Value} {v yv z : Value} {ty : TypeId} {Q : Value → LH → Prop} (hts : P.underlying ts = some (.slice e)) (hk : (P.info? e).map (·.size) = some k) (hbt : (P.info? e).map (·.bytes) = some bts) (hz : (P.info? e).bind (·.zero) = some z) (hzk : z.cells.size = k) (htx : P.underlying tx = some (.slice e2))
  (hv : ∃ ad, v = .slice ad len len) (ho : FirstIs P R k len v cs) (hy : FirstIs P R k m yv vs) (hm : 0 < m) (h0 : 0 < bts) (hb : (2 * (len + m) + 1024) * bts ≤ 2 ^ 48)
  (hq : ∀ b c cap, R b = none → Own (R.put b (.cells c e)) k e (.slice (some ⟨b, 0, none⟩) (len + m) cap) (len + m) (cs ++ vs) (some b) → Q (.slice (some ⟨b, 0, none⟩) (len + m) cap) (R.put b (.cells c e))) : wpS P Q H (Builtin.append_ #[ts, tx] ty #[v, yv]) R := by
 obtain ⟨hvl, ⟨yad, ycap, rfl⟩, hfirst⟩ := hy
 obtain ⟨ad, rfl⟩ := hv
 obtain ⟨hcl, _, hof⟩ := ho
 unfold Builtin.append_
 simp only [List.getElem?_toArray, List.getElem?_cons_zero, List.getElem?_cons_succ]
 rw [wpS_bind, wpS_underlying hts]
 simp only
 rw [wpS_bind, wpS_sizeOf hk, wpS_bind, wpS_underlying htx, wpS_bind, wpS_pure]
 simp only [Bool.false_eq_true, if_false, Bool.not_false, if_true]
 rw [wpS_bind]
 unfold Builtin.lenOf
 rw [wpS_pure]
 have hfit : ¬ (len + m ≤ len) := by omega
 rw [if_neg hfit]
 obtain ⟨inf, hinf, hib⟩ : ∃ inf, P.info? e = some inf ∧ inf.bytes = bts := by
  cases hx : P.info? e with
  | none => rw [hx] at hbt; cases hbt
  | some i => rw [hx] at hbt; cases hbt; exact ⟨i, rfl, rfl⟩
 have hnb : ¬ (inf.bytes = 0) := by omega
 rw [wpS_bind, wpS_typeInfo hinf, if_neg (by simp [hnb]), wpS_bind, wpS_typeInfo hinf]
 have hcap := nextcap_le (need := len + m) (old := len) (by omega)
 have hle : Builtin.nextslicecap (len + m) len * inf.bytes ≤ 2 ^ 48 := Nat.le_trans (by rw [hib]; exact Nat.mul_le_mul_right _ hcap) hb
 rw [if_neg (by omega), wpS_bind, wpS_choose]
 intro newCap hnc
 obtain ⟨r, rfl⟩ : ∃ r, newCap = len + m + r := by
  unfold Answers at hnc
  simp only [Question.forced, Bool.false_eq_true, if_false, Question.cut] at hnc
  obtain ⟨t, ht⟩ := hnc
  exact ⟨_, ht⟩
 rw [wpS_bind, wpS_typeInfo hinf, wpS_bind]
 refine wpS_askRoom ?_
 rw [wpS_bind]
 refine hof _ _ ?_
 rw [wpS_bind]
 refine hfirst _ _ ?_
 rw [wpS_bind, wpS_zeroValue hz, wpS_bind, wpS_newRow]
 intro b hb'
 rw [wpS_pure]
 refine hq b _ _ hb' ⟨len + m + r, _, rfl, put_same _ _ _, ?_, by omega, by rw [List.length_append, hcl, hvl, Nat.add_mul], fun i x hx => ?_⟩
 ·simp only [Builtin.zeroCells, Array.size_append, List.size_toArray, Array.size_map, Array.size_range, hcl, hvl, hzk]
  rw [show len + m + r - (len + m) = r by omega, Nat.add_mul, Nat.add_mul]
 ·have hlt := (List.getElem?_eq_some_iff.1 hx).1
  rw [← Array.getElem?_toList, Array.toList_append, Array.toList_append, List.getElem?_append_left (by simpa using hlt)]
  exact hx
end
section
variable {P : Program} [S : Seat P] {C : Cx P} {E : Look} {B : List (Option Bx)} {L : LH} {dst : Option Tmp} {ty : TypeId} {pos : String} {af : Array Edge} {gd : Option (Nat × Bool)}
def AppQ {α : Type} (B : List (Option Bx)) (L : LH) (k : Nat) (e : TypeId) (enc : α → List Value) (l : List α) (sv : SV) (B' : List (Option Bx)) (L' : LH) : Prop :=
 ∃ b c cap, sv = .v (.slice (some ⟨b, 0, none⟩) l.length cap) ∧ B' = B ∧ L b = none ∧ L' = L.put b (.cells c e) ∧ Own L' k e (.slice (some ⟨b, 0, none⟩) l.length cap) l.length (l.flatMap enc) (some b)
theorem Ef.appF {α : Type} {enc : α → List Value} {l ls : List α} {ts tx e e2 : TypeId} {ti te tx' : TI} {ad : Option Addr} {x y : Operand} (hx : evS E x = some (.v (.slice ad l.length l.length))) (hts : S.τ.find ts = some ti) (hd : ti.d = .slice e) (he : S.τ.find e = some te) (htx : S.τ.find tx = some tx') (hd2 : tx'.d = .slice e2) (hz : te.z.cells.size = te.size)
  (h0 : Nat.blt 0 te.bytes = true) (h1 : Nat.ble te.bytes 1024 = true) (hk : ∀ x, (enc x).length = te.size) (hl : SlAt L ad te.size enc l) (hy : YC E B L te.size y ls.length (ls.flatMap enc)) (hls : 0 < ls.length) (hlen : l.length + ls.length ≤ 1073741824) :
  Ef C ⟨dst, .call { callee := .builtin .append, args := #[x, y], argTypes := #[ts, tx] }, ty, pos, af, gd⟩ E B L (AppQ B L te.size e enc (l ++ ls)) := by
 intro T R β hE hH
 have ex : ev T x = .slice ad l.length l.length := (Option.some.inj (hE.val hx)).symm
 have fy := hy.first (P := P) hE hH.boxes hH.le
 have fx : FirstIs P R te.size l.length (.slice ad l.length l.length) (l.flatMap enc) := by
  cases ad with
  | none =>
   cases l with
   | nil => exact FirstIs.nil
   | cons x l => obtain ⟨a, h1⟩ := hl.addr (i := 0) (by simp); cases h1
  | some a => exact FirstIs.at (hH.le.cellsAt (hl.cells hk))
 have i1 := (TT.find_ok S.ok hts).d
 rw [hd] at i1
 have i2 := (TT.find_ok S.ok htx).d
 rw [hd2] at i2
 have ie := TT.find_ok S.ok he
 refine ⟨rfl, ?_⟩
 simp only [execOp, resolve, List.map_toArray, List.map_cons, List.map_nil, ex, pure, Sem.bind, bind, invoke, builtin]
 show wpS P _ _ (Builtin.append_ _ _ _ >>= fun u => pure (Next.value u)) R
 rw [wpS_bind]
 refine wpS_appendF i1 ie.size ie.bytes ie.zero hz i2 ⟨_, rfl⟩ fx fy hls (Nat.le_of_ble_eq_true h0) ?_ fun b c cap hb ho => ?_
 ·have := Nat.le_of_ble_eq_true h1
  have h2 : 2 * (l.length + ls.length) + 1024 ≤ 2147484672 := by omega
  exact Nat.le_trans (Nat.mul_le_mul h2 this) (by decide)
 ·rw [wpS_pure]
  have hLn := (hH.free hb).1
  have hown : Own (L.put b (.cells c e)) te.size e (.slice (some ⟨b, 0, none⟩) (l ++ ls).length cap) (l ++ ls).length ((l ++ ls).flatMap enc) (some b) := by
   rw [List.length_append, List.flatMap_append]
   exact ho.keep fun b' hb' => by cases hb'; rw [put_same, put_same]
  exact ⟨.v (.slice (some ⟨b, 0, none⟩) (l.length + ls.length) cap), B, L.put b (.cells c e), ⟨b, c, cap, by rw [List.length_append], rfl, hLn, rfl, hown⟩, rfl, hH.newF hb _, fun _ _ => rfl⟩
end
end Go.Mz


namespace Go.Mz
open Go.Conc
theorem join_le_left {L G : LH} : Le L (L.join G) := fun b x hx => by unfold LH.join; rw [hx]
theorem join_le {L G R : LH} (h1 : Le L R) (h2 : Le G R) : Le (L.join G) R := fun b x hx => by
 unfold LH.join at hx
 cases hl : L b with
 | some y => rw [hl] at hx; cases hx; exact h1 b _ hl
 | none => rw [hl] at hx; exact h2 b x hx
theorem join_le_right {L G R : LH} (h1 : Le L R) (h2 : Le G R) : Le G (L.join G) := fun b x hx => by
 unfold LH.join
 cases hl : L b with
 | some y => have := h1 b y hl; rw [h2 b x hx] at this; cases this; rfl
 | none => exact hx
section
variable {P : Program} {α : Type}
variable {X : Logic P} {yv : Value} {Rel : α → List Value → LH → Prop} {xs : List α} {K : LH → Prop} {J : List α → LH → Prop} {Z : LH → Prop} {F L L2 : LH} {pre : List α}
end
section
variable {P : Program} {α : Type} {C : Cx P} {n : Nat} {ds : List Deferred} {k : List Item} {E : Env} {B : List (Option Bx)} {L : LH}
end
end Go.Mz


set_option maxRecDepth 100000
namespace Go.Mz
open Go.Conc Go.Proofs
def natI (l : List Nat) : List Int := l.map fun (n : Nat) => (n : Int)
theorem encI_len (x : Int) : (encI x).length = 1 := rfl
theorem encI_sg (x : Int) : ∀ u ∈ encI x, single u = true := fun u hu => by cases List.mem_singleton.1 hu; rfl
def NewSl {α : Type} (L : LH) (k : Nat) (enc : α → List Value) (l : List α) (v : Value) (L' : LH) : Prop := ∃ ad cap, v = .slice ad l.length cap ∧ Le L L' ∧ SlAt L' ad k enc l ∧ l.length ≤ cap
theorem Grow.new_sl {α : Type} {I L : LH} {k : Nat} {e : TypeId} {enc : α → List Value} {v : Value} {l : List α} (h : Grow I k e enc L v l) (hk : ∀ x, (enc x).length = k) : NewSl I k enc l v L := by
 obtain ⟨ad, cap, rfl, hc⟩ := h.slice
 exact ⟨ad, cap, rfl, h.1, (h.at hk).2, hc⟩
theorem range_filter (p : Nat → Bool) (i : Nat) : (List.range (i + 1)).filter p = (List.range i).filter p ++ if p i then [i] else [] := by
 rw [List.range_succ, List.filter_append]
 congr 1
 by_cases h : p i <;> simp [h]
theorem natI_snoc (l : List Nat) (i : Nat) : natI (l ++ [i]) = natI l ++ [(i : Int)] := by simp [natI]
def cmpI (a b : Int) : Int := if a < b then -1 else if b < a then 1 else 0
def cmpL : List Int → List Int → Int
 | [], [] => 0
 | [], _ :: _ => -1
 | _ :: _, [] => 1
 | a :: l, b :: k => if cmpI a b ≠ 0 then cmpI a b else cmpL l k
theorem nat1 {n : Nat} (h : n ≤ 1000) : IntKind.i64.wrap ((n : Int) + 1) = ((n + 1 : Nat) : Int) := by rw [wrap64_in _ (by omega) (by omega)]; rfl
theorem cellsAt_all {L : LH} {b : Nat} {vs : List Value} {e : TypeId} {fz : Nat × Nat} {wr : Bool} (h : L b = some (.cells vs.toArray e fz, wr)) : cellsAt L ⟨b, 0, none⟩ vs.length vs :=
 ⟨rfl, fun i v hv => by rw [add_of, Nat.zero_add]; exact cell_of h (by rw [List.getElem?_toArray]; exact hv)⟩
theorem cellsAt_n {L : LH} {b n : Nat} {vs : List Value} {e : TypeId} {fz : Nat × Nat} {wr : Bool} (h : L b = some (.cells vs.toArray e fz, wr)) (hn : vs.length = n) : cellsAt L ⟨b, 0, none⟩ n vs := hn ▸ cellsAt_all h
abbrev pt (b : Nat) : Value := .pointer (some ⟨b, 0, none⟩)
abbrev Rf := Option Addr × Nat × Nat
abbrev slV (r : Rf) : Value := .slice r.1 r.2.1 r.2.2
theorem le_but {L L1 : LH} {b : Nat} (hb : L b = none) (hl : Le L L1) : Le L (L1.but b) := fun b' x hx => by
 rw [but_get (fun e => by subst e; rw [hb] at hx; cases hx)]; exact hl _ _ hx
theorem sl_block {α : Type} {L : LH} {b : Nat} {l : List α} {k : Nat} {e : TypeId} {enc : α → List Value} (hk : ∀ x, (enc x).length = k) (h : L b = some (.cells (l.flatMap enc).toArray e (0, 0), true)) : SlAt L (some ⟨b, 0, none⟩) k enc l := by
 have hl : ∀ l : List α, (l.flatMap enc).length = l.length * k := fun l => by
  induction l with
  | nil => simp
  | cons a l ih => rw [List.flatMap_cons, List.length_append, hk, ih, List.length_cons, Nat.succ_mul]; omega
 exact Own.at (e := e) (len := l.length) (cap := l.length) (ob := some b) ⟨l.length, (l.flatMap enc).toArray, rfl, h, by simp [hl], Nat.le_refl _, hl l, fun i x hx => by simpa using hx⟩ hk
theorem W.asLit {P : Program} {C : Cx P} {n : Nat} {ds : List Deferred} {k : List Item} {E : Env} {B : List (Option Bx)} {L : LH} (s : Nat) {sv : SV} {p : Bool} (hs : get E s = some sv) (hb : boolOf sv = some p) (w : W C n ds k ((s, .lit p) :: E) B L) : W C n ds k E B L :=
 W.bool s hs hb (fun e => by rw [e] at w; exact w) (fun e => by rw [e] at w; exact w)
abbrev Rw (α : Type) := Rf × List α
def encRw {α : Type} (x : Rw α) : List Value := [slV x.1]
theorem encRw_len {α : Type} (x : Rw α) : (encRw x).length = 1 := rfl
theorem encRw_sg {α : Type} (x : Rw α) : ∀ u ∈ encRw x, single u = true := fun u hu => by rw [List.mem_singleton.1 hu]; rfl
structure RwOk {α : Type} (L : LH) (k : Nat) (enc : α → List Value) (x : Rw α) : Prop where
 sl : SlAt L x.1.1 k enc x.2
 len : x.1.2.1 = x.2.length
 cap : x.2.length ≤ x.1.2.2
theorem RwOk.le {α : Type} {L L' : LH} {k : Nat} {enc : α → List Value} {x : Rw α} (h : RwOk L k enc x) (hl : Le L L') : RwOk L' k enc x := ⟨h.sl.le hl, h.len, h.cap⟩
def RowsAt {α : Type} (L : LH) (ad : Option Addr) (k : Nat) (enc : α → List Value) (ls : List (List α)) : Prop := ∃ rs : List (Rw α), rs.map Prod.snd = ls ∧ SlAt L ad 1 encRw rs ∧ ∀ x ∈ rs, RwOk L k enc x
def GrowL {α : Type} (I : LH) (e k : Nat) (enc : α → List Value) (L : LH) (v : Value) (ls : List (List α)) : Prop := ∃ J, ∃ rs : List (Rw α), Le I J ∧ rs.map Prod.snd = ls ∧ Grow J 1 e encRw L v rs ∧ ∀ x ∈ rs, RwOk J k enc x
section
variable {β : Type} {F F' I L L' L2 : LH} {e k : Nat} {enc : β → List Value} {v : Value} {l : List β}
theorem Own.some_blk {v : Value} {n : Nat} {cs : List Value} {ob : Option Nat} (h : Own L k e v n cs ob) {b : Nat} (hb : ob = some b) : L b ≠ none := by subst hb; exact h.blk
theorem Grow.call (h : Grow F k e enc L v l) (p : Post F L F' L2) : Grow F' k e enc L2 v l := by
 obtain ⟨_, ob, ho, hf⟩ := h
 refine ⟨p.le, ob, ho.keep fun b hb => ?_, fun b hb => ?_⟩
 ·cases hx : L b with
  | none => exact absurd hx (ho.some_blk hb)
  | some y => exact p.keep b y (hf b hb) hx
 ·cases hx : F' b with
  | none => rfl
  | some y =>
   rcases p.fresh b (by rw [hx]; simp) with e1 | e1
   ·exact absurd (hf b hb) e1
   ·exact absurd e1 (ho.some_blk hb)
end
section
variable {α : Type} {I L L' : LH} {e k : Nat} {enc : α → List Value} {v : Value} {ls : List (List α)}
theorem GrowL.hle (h : GrowL I e k enc L v ls) : Le I L := let ⟨_, _, h1, _, h, _⟩ := h; h1.trans h.1
theorem GrowL.nil (h : Le I L) : GrowL I e k enc L (.slice none 0 0) ([] : List (List α)) := ⟨L, [], h, rfl, Grow.nil (Le.refl _), fun x hx => by cases hx⟩
theorem GrowL.slice (h : GrowL I e k enc L v ls) : ∃ ad cap, v = .slice ad ls.length cap := by
 obtain ⟨J, rs, _, rfl, h2, _⟩ := h
 obtain ⟨ad, cap, rfl, -⟩ := h2.slice
 exact ⟨ad, cap, by rw [List.length_map]⟩
theorem GrowL.at {ad : Option Addr} {len cap : Nat} (h : GrowL I e k enc L (.slice ad len cap) ls) : len = ls.length ∧ RowsAt L ad k enc ls := by
 obtain ⟨J, rs, _, rfl, h2, h3⟩ := h
 obtain ⟨rfl, h4⟩ := h2.at encRw_len
 exact ⟨(List.length_map ..).symm, rs, rfl, h4, fun x hx => (h3 x hx).le h2.1⟩
theorem RowsAt.le {ad : Option Addr} (h : RowsAt L ad k enc ls) (hl : Le L L') : RowsAt L' ad k enc ls := let ⟨rs, h1, h2, h3⟩ := h; ⟨rs, h1, h2.le hl, fun x hx => (h3 x hx).le hl⟩
theorem RowsAt.addr {ad : Option Addr} (h : RowsAt L ad k enc ls) {i : Nat} (hi : i < ls.length) : ∃ a, ad = some a := by
 obtain ⟨rs, rfl, h2, _⟩ := h
 exact h2.addr (by simpa using hi)
theorem RowsAt.row {ad : Addr} (h : RowsAt L (some ad) k enc ls) {i : Nat} {l : List α} (hl : ls[i]? = some l) : ∃ a c, L.cell? (ad.add i) = some (.slice a l.length c) ∧ SlAt L a k enc l ∧ l.length ≤ c := by
 obtain ⟨rs, rfl, h2, h3⟩ := h
 rw [List.getElem?_map] at hl
 obtain ⟨⟨⟨a, n, c⟩, l'⟩, hx, rfl⟩ := Option.map_eq_some_iff.1 hl
 have hk := h3 _ (List.mem_of_getElem? hx)
 have hn : n = l'.length := hk.len
 subst hn
 refine ⟨a, c, ?_, hk.sl, hk.cap⟩
 have := h2.get hx (j := 0) (v := slV (a, l'.length, c)) rfl
 simpa using this
end
def fromA (a : Option Addr) (cap j m : Nat) : Option Addr := if cap = j then a else a.map (·.add (j * m))
section
variable {P : Program} {E : Look} {B : List (Option Bx)} {L : LH}
theorem Vf.sliceT {t e : TypeId} {x y : Operand} {oa : Option Addr} {len cap m j : Nat} {k : IntKind} (hx : evS E x = some (.v (.slice oa len cap))) (hy : evS E y = some (.v (.int k j))) (hu : P.underlying t = some (.slice e)) (hs : (P.info? e).map (·.size) = some m) (hj : j ≤ cap) :
  Vf P (.slice t x none (some y) none) E B L (.v (.slice oa j cap)) := fun T R β hE _ _ => by
 have ex := (Option.some.inj (hE.val hx)).symm
 have ey := (Option.some.inj (hE.val hy)).symm
 refine ⟨_, rfl, fun ty dst pos af gd Q H hq => ?_⟩
 simp only [execOp, ex, Option.map_some, Option.map_none, ey]
 rw [wpS_bind]
 unfold Instr.sliceAt
 rw [wpS_bind, wpS_underlying hu]
 simp only
 unfold Instr.slice
 rw [wpS_bind, wpS_underlying hu]
 simp only
 rw [wpS_bind]
 unfold Instr.sliceBounds
 simp only
 rw [wpS_bind, wpS_pure, wpS_bind, wpS_sliceBound (by omega), Int.toNat_natCast]
 show wpS P _ H (sizeOf e >>= _) R
 rw [wpS_bind, wpS_sizeOf hs]
 have e0 : (if cap = 0 then oa else oa.map fun x => x.add (0 * m)) = oa := by
  split
  ·rfl
  ·cases oa with
   | none => rfl
   | some a => rw [Nat.zero_mul]; rfl
 rw [e0]
 exact hq
theorem Vf.sliceF {t e : TypeId} {x y : Operand} {oa : Option Addr} {len cap m j : Nat} {k : IntKind} (hx : evS E x = some (.v (.slice oa len cap))) (hy : evS E y = some (.v (.int k j))) (hu : P.underlying t = some (.slice e)) (hs : (P.info? e).map (·.size) = some m) (hj : j ≤ len) :
  Vf P (.slice t x (some y) none none) E B L (.v (.slice (fromA oa cap j m) (len - j) (cap - j))) := fun T R β hE _ _ => by
 have ex := (Option.some.inj (hE.val hx)).symm
 have ey := (Option.some.inj (hE.val hy)).symm
 refine ⟨_, rfl, fun ty dst pos af gd Q H hq => ?_⟩
 simp only [execOp, ex, Option.map_some, Option.map_none, ey]
 rw [wpS_bind]
 unfold Instr.sliceAt
 rw [wpS_bind, wpS_underlying hu]
 simp only
 unfold Instr.slice
 rw [wpS_bind, wpS_underlying hu]
 simp only
 rw [wpS_bind]
 unfold Instr.sliceBounds
 simp only
 rw [wpS_bind, wpS_pure, wpS_bind, wpS_pure, wpS_bind, wpS_sliceBound (by omega), Int.toNat_natCast]
 show wpS P _ H (sizeOf e >>= _) R
 rw [wpS_bind, wpS_sizeOf hs]
 exact hq
end
theorem SlAt.take {α : Type} {L : LH} {ad : Option Addr} {k : Nat} {enc : α → List Value} {l : List α} (h : SlAt L ad k enc l) (j : Nat) : SlAt L ad k enc (l.take j) := fun i x hx => by
 rw [List.getElem?_take] at hx
 split at hx
 ·exact h i x hx
 ·cases hx
theorem SlAt.drop {α : Type} {L : LH} {ad : Option Addr} {k : Nat} {enc : α → List Value} {l : List α} (h : SlAt L ad k enc l) {cap j : Nat} (hc : l.length ≤ cap) : SlAt L (fromA ad cap j k) k enc (l.drop j) := fun i x hx => by
 rw [List.getElem?_drop] at hx
 have hi := (List.getElem?_eq_some_iff.1 hx).1
 obtain ⟨a, rfl, ha⟩ := h (j + i) x hx
 unfold fromA
 rw [if_neg (by omega)]
 refine ⟨_, rfl, fun n v hv => ?_⟩
 have := ha n v hv
 have e : (a.add (j * k)).add (i * k + n) = a.add ((j + i) * k + n) := by
  rw [Nat.add_mul, Nat.add_assoc]
  generalize j * k = x
  generalize i * k + n = y
  unfold Addr.add
  by_cases hx : x = 0
  ·subst hx; simp
  ·by_cases hy : y = 0
   ·subst hy; simp
   ·rw [if_neg hx, if_neg hy, if_neg (by omega)]
    simp only [Addr.mk.injEq, and_true, true_and]
    omega
 rw [e]; exact this
end Go.Mz


namespace Go.Mz
open Go
structure Want where
 sort : Int
 kind : Int
 amount : Int
 pay : Int
deriving DecidableEq
structure Sw where
 loaves : List (List Int)
 stock : List Int
 kerf : Int
 wants : List Want
deriving DecidableEq
def upB (p : Option Int) (n : Int) : Bool := match p with
 | some q => decide (q < n)
 | none => false
def downB (p : Option Int) (n : Int) : Bool := match p with
 | some q => decide (n ≤ q)
 | none => false
def loafGo : Option Int → List Int → Int
 | _, [] => 0
 | p, n :: t => if !inB n 1 9 then 1 else if upB p n then 5 else loafGo (some n) t
def loafE (l : List Int) : Int := if sizedE l.length 1 4 ≠ 0 then sizedE l.length 1 4 else loafGo none l
def wLo (x : Want) : Int := if x.sort = 0 then 0 else 1
def wHi (ls : List (List Int)) (x : Want) : Int := if x.sort = 0 then 0 else if x.sort = 1 then 60 else ((ls.getD x.kind.toNat []).length : Int) - 1
def wKd (x : Want) : Int := if x.sort = 1 then -1 else 0
def wantE (ls : List (List Int)) (x : Want) : Int :=
 if !inB x.sort 0 2 then 8 else
 if !inB x.kind (wKd x) ((ls.length : Int) - 1) then 3 else
 if inB x.amount (wLo x) (wHi ls x) && inB x.pay 0 30 then 0 else 1
def loavesE : List (List Int) → Int
 | [] => 0
 | x :: l => if loafE x ≠ 0 then loafE x else loavesE l
def stockB : List Int → Bool
 | [] => true
 | x :: l => inB x 0 4 && stockB l
def wantsE (ls : List (List Int)) : List Want → Int
 | [] => 0
 | x :: l => if wantE ls x ≠ 0 then wantE ls x else wantsE ls l
def sawE (s : Sw) : Int :=
 if sizedE s.loaves.length 1 3 ≠ 0 then sizedE s.loaves.length 1 3 else
 if loavesE s.loaves ≠ 0 then loavesE s.loaves else
 if s.stock.length ≠ s.loaves.length then 9 else
 if !stockB s.stock then 1 else
 if !inB s.kerf 0 3 then 1 else
 if 5 < s.wants.length then 6 else wantsE s.loaves s.wants
structure LfOk (l : List Int) : Prop where
 l1 : 1 ≤ l.length
 l4 : l.length ≤ 4
 r : ∀ n ∈ l, 1 ≤ n ∧ n ≤ 9
structure WtOk (ls : List (List Int)) (x : Want) : Prop where
 s0 : 0 ≤ x.sort
 s2 : x.sort ≤ 2
 k0 : wKd x ≤ x.kind
 k1 : x.kind < ls.length
 a0 : wLo x ≤ x.amount
 a1 : x.amount ≤ wHi ls x
 p0 : 0 ≤ x.pay
 p1 : x.pay ≤ 30
structure SOk (s : Sw) : Prop where
 l1 : 1 ≤ s.loaves.length
 l3 : s.loaves.length ≤ 3
 lf : ∀ l ∈ s.loaves, LfOk l
 st : s.stock.length = s.loaves.length
 sr : ∀ n ∈ s.stock, 0 ≤ n ∧ n ≤ 8
 k0 : 0 ≤ s.kerf
 k3 : s.kerf ≤ 3
 w5 : s.wants.length ≤ 5
 wt : ∀ x ∈ s.wants, WtOk s.loaves x
theorem loafGo_0 : ∀ {l : List Int} {p : Option Int}, loafGo p l = 0 → ∀ n ∈ l, 1 ≤ n ∧ n ≤ 9
 | [], _, _, n, hm => by cases hm
 | x :: l, p, h, n, hm => by
  unfold loafGo at h
  split at h
  ·cases h
  ·rename_i h1
   simp only [Bool.not_eq_true', Bool.not_eq_false, inB_iff] at h1
   split at h
   ·cases h
   ·rcases List.mem_cons.1 hm with rfl | hm
    ·exact h1
    ·exact loafGo_0 h n hm
theorem loafE_0 {l : List Int} (h : loafE l = 0) : LfOk l := by
 unfold loafE at h
 split at h
 ·rename_i h1; exact absurd h h1
 ·rename_i h1
  simp only [ne_eq, Decidable.not_not, sizedE_0] at h1
  exact ⟨by omega, by omega, loafGo_0 h⟩
theorem wantE_0 {ls : List (List Int)} {x : Want} (h : wantE ls x = 0) : WtOk ls x := by
 unfold wantE at h
 split at h
 ·cases h
 ·rename_i h1
  split at h
  ·cases h
  ·rename_i h2
   split at h
   ·rename_i h3
    simp only [Bool.not_eq_true', Bool.not_eq_false, Bool.and_eq_true, inB_iff] at h1 h2 h3
    exact ⟨h1.1, h1.2, h2.1, by omega, h3.1.1, h3.1.2, h3.2.1, h3.2.2⟩
   ·cases h
theorem loavesE_0 {l : List (List Int)} : loavesE l = 0 ↔ ∀ x ∈ l, loafE x = 0 := by
 induction l with
 | nil => simp [loavesE]
 | cons x l ih =>
  simp only [loavesE, List.mem_cons, forall_eq_or_imp]
  by_cases h : loafE x = 0
  ·simp [h, ih]
  ·simp [h]
theorem wantsE_0 {ls : List (List Int)} {l : List Want} : wantsE ls l = 0 ↔ ∀ x ∈ l, wantE ls x = 0 := by
 induction l with
 | nil => simp [wantsE]
 | cons x l ih =>
  simp only [wantsE, List.mem_cons, forall_eq_or_imp]
  by_cases h : wantE ls x = 0
  ·simp [h, ih]
  ·simp [h]
theorem stockB_iff {l : List Int} : stockB l = true ↔ ∀ x ∈ l, 0 ≤ x ∧ x ≤ 4 := by
 induction l with
 | nil => simp [stockB]
 | cons x l ih => simp only [stockB, Bool.and_eq_true, inB_iff, ih, List.mem_cons, forall_eq_or_imp]
theorem sawE_0 {s : Sw} (h : sawE s = 0) : SOk s := by
 unfold sawE at h
 split at h
 ·rename_i h1; exact absurd h h1
 ·rename_i h1
  split at h
  ·rename_i h2; exact absurd h h2
  ·rename_i h2
   split at h
   ·cases h
   ·rename_i h3
    split at h
    ·cases h
    ·rename_i h4
     split at h
     ·cases h
     ·rename_i h5
      split at h
      ·cases h
      ·rename_i h6
       simp only [ne_eq, Decidable.not_not, sizedE_0, loavesE_0, Bool.not_eq_true', Bool.not_eq_false, stockB_iff, inB_iff] at h1 h2 h3 h4 h5
       exact ⟨by omega, by omega, fun l hl => loafE_0 (h2 l hl), h3, fun n hn => by have := h4 n hn; omega, h5.1, h5.2, by omega, fun x hx => wantE_0 (wantsE_0.1 h x hx)⟩
def loafAt (s : Sw) (k : Int) : List Int := s.loaves.getD k.toNat []
def restW (s : Sw) (x : Want) : Int := max 0 (sumL ((loafAt s x.kind).take ((loafAt s x.kind).length - x.amount.toNat)) - s.kerf)
structure Pl where
 t : List Int
 s : List Int
 d : List Int
 a : Int
deriving DecidableEq
def addAt (l : List Int) (k : Nat) (x : Int) : List Int := l.modify k (· + x)
def plz : Pl := ⟨[0, 0, 0], [0, 0, 0], [0, 0, 0], 0⟩
def serveW (s : Sw) (p : Pl) (x : Want) : Pl :=
 if x.sort = 0 then { p with t := addAt p.t x.kind.toNat 1 } else
 if x.sort = 1 then (if x.kind < 0 then { p with a := p.a + x.amount } else { p with d := addAt p.d x.kind.toNat x.amount }) else
 { p with t := addAt p.t x.kind.toNat 1, s := addAt p.s x.kind.toNat (restW s x) }
def wantsOf (s : Sw) (w : List Nat) : List Want := w.filterMap (s.wants[·]?)
def servesW (s : Sw) (w : List Nat) : Pl := (wantsOf s w).foldl (serveW s) plz
def crushK (s : Sw) (l : List Int) (p : Pl) (k : Nat) : Pl := { p with t := addAt p.t k (l.getD k 0), s := addAt p.s k (l.getD k 0 * sumL (s.loaves.getD k [])) }
def planW (s : Sw) (w : List Nat) (l : List Int) : Pl := (List.range s.loaves.length).foldl (crushK s l) (servesW s w)
def leftW (p : Pl) : Int := sumL p.s - sumL p.d - p.a
def rightW (s : Sw) (p : Pl) : Int :=
 if (List.range s.stock.length).any (fun k => decide (s.stock.getD k 0 < p.t.getD k 0)) then 12 else
 if (List.range s.stock.length).any (fun k => decide (p.s.getD k 0 < p.d.getD k 0)) then 9 else
 if leftW p < 0 then 9 else 0
def cutsW (s : Sw) (w : List Nat) : Int := ((wantsOf s w).countP fun x => x.sort == 2 : Nat)
def listsW : List Int → List (List Int)
 | [] => [[]]
 | m :: t => (List.range (m + 1).toNat).flatMap fun (n : Nat) => (listsW t).map ((n : Int) :: ·)
def okW (s : Sw) (w : List Nat) (l : List Int) : Bool := rightW s (planW s w l) == 0
def plansW (s : Sw) (w : List Nat) : List (List Int) := if cutsW s w ≤ sumL s.stock then (listsW s.stock).filter (okW s w) else []
def takeBy {α : Type} (lt : α → α → Bool) (b : Option α) (x : α) : Option α := match b with
 | none => some x
 | some y => if lt x y then some x else some y
def firstBy {α : Type} (lt : α → α → Bool) (l : List α) : Option α := l.foldl (takeBy lt) none
structure Cr where
 w : List Nat
 l : List Int
 c : Int
 p : Int
deriving DecidableEq
def crOf (s : Sw) (w : List Nat) (l : List Int) : Cr := ⟨w, l, sumL (planW s w l).t, leftW (planW s w l)⟩
def ltCr (a b : Cr) : Bool := decide (a.c < b.c) || (decide (a.c = b.c) && decide (a.p < b.p))
def crushW (s : Sw) (w : List Nat) : Option Cr := firstBy ltCr ((plansW s w).map (crOf s w))
def payW (s : Sw) (w : List Nat) : Int := sumL ((wantsOf s w).map (·.pay))
def bits5 (m : Nat) : List Nat := (List.range 5).filter (m.testBit ·)
def fullW (s : Sw) : List Nat := List.range s.wants.length
def allW (s : Sw) : List (Option Cr) := (List.range (2 ^ s.wants.length)).map fun m => crushW s (bits5 m)
def servedW (s : Sw) : Bool := !(plansW s (fullW s)).isEmpty
def natsW (l : List Int) : List Nat := l.map Int.toNat
def openW (s : Sw) (ks ns : List Int) : Int :=
 if sawE s ≠ 0 then sawE s else if ks.all (fun k => inB k 0 ((s.loaves.length : Int) - 1)) && ns.all (fun n => inB n 0 ((s.wants.length : Int) - 1)) then 0 else 3
def readGo (m : Int) : Option Int → List Int → Int
 | _, [] => 0
 | p, n :: t => if !inB n 0 m then 3 else if downB p n then 5 else readGo m (some n) t
def readW (s : Sw) (l : List Int) : Int := readGo ((s.wants.length : Int) - 1) none l
def slicesW (l : List Int) (p : Int) : Option Nat := (List.range (l.length + 1)).find? fun n => decide (p ≤ sumL (l.drop (l.length - n)))
def SlicesE (s : Sw) (k p : Int) : Int × Int := if openW s [k] [] ≠ 0 then (0, openW s [k] []) else match slicesW (loafAt s k) p with
 | some n => ((n : Int), 0)
 | none => (0, 11)
def heapE : List Int → Int
 | [] => 0
 | x :: l => if !inB x 0 4 then 1 else heapE l
def askW (s : Sw) (w l : List Int) : Int :=
 if sawE s ≠ 0 then sawE s else if readW s w ≠ 0 then readW s w else
 if sizedE l.length s.loaves.length s.loaves.length ≠ 0 then sizedE l.length s.loaves.length s.loaves.length else
 if heapE l ≠ 0 then heapE l else rightW s (planW s (natsW w) l)
def stayW (s : Sw) (p : Pl) : List Int := (List.range s.stock.length).map fun k => s.stock.getD k 0 - p.t.getD k 0
def LeftE (s : Sw) (w l : List Int) : List Int × Int × Int := if askW s w l ≠ 0 then ([], 0, askW s w l) else (stayW s (planW s (natsW w) l), leftW (planW s (natsW w) l), 0)
def crushE (s : Sw) (w : List Nat) : List Int × Int × Int := match crushW s w with
 | none => ([], 0, 11)
 | some c => (c.l, c.c, 0)
def CrushE (s : Sw) (w : List Int) : List Int × Int × Int := if sawE s ≠ 0 then ([], 0, sawE s) else if readW s w ≠ 0 then ([], 0, readW s w) else crushE s (natsW w)
def FewestE (s : Sw) : List Int × Int × Int := if sawE s ≠ 0 then ([], 0, sawE s) else crushE s (fullW s)
def ltL : List Nat → List Nat → Bool
 | _, [] => false
 | [], _ :: _ => true
 | a :: l, b :: k => decide (a < b) || (decide (a = b) && ltL l k)
def ltB (s : Sw) (a b : Cr) : Bool :=
 if payW s a.w ≠ payW s b.w ∨ a.c ≠ b.c then decide (payW s b.w < payW s a.w) || (decide (payW s a.w = payW s b.w) && decide (a.c < b.c)) else ltL a.w b.w
def bestW (s : Sw) (so : List Nat → Bool) : Option Cr := firstBy (ltB s) (((allW s).filterMap id).filter fun c => so c.w)
def crWants (o : Option Cr) : List Nat := match o with | some c => c.w | none => []
def BestE (s : Sw) : List Nat × Int × Int := if sawE s ≠ 0 then ([], 0, sawE s) else (crWants (bestW s fun _ => true), payW s (crWants (bestW s fun _ => true)), 0)
def shortB (a b : List Nat) : Bool := decide (a.length < b.length) || (decide (a.length = b.length) && ltL a b)
def othersW (s : Sw) (w : List Nat) : List Nat := (List.range s.wants.length).filter fun i => !w.contains i
def refusedW (s : Sw) : List Nat := (firstBy shortB (((allW s).filterMap id).map fun c => othersW s c.w)).getD []
def RefusedE (s : Sw) : List Nat × Int := if sawE s ≠ 0 then ([], sawE s) else (refusedW s, 0)
def verdW (s : Sw) (n : Nat) : Int :=
 let l := ((allW s).filterMap id).filter fun c => payW s c.w == payW s (crWants (bestW s fun _ => true))
 if (l.all fun c => !c.w.contains n) then 2 else if (l.all fun c => c.w.contains n) then 1 else 3
def VerdW (s : Sw) (n : Int) : Int × Int := if openW s [] [n] ≠ 0 then (0, openW s [] [n]) else (verdW s n.toNat, 0)
def worthW (s : Sw) (n : Nat) : Int := payW s (crWants (bestW s fun _ => true)) - payW s (crWants (bestW s fun w => !w.contains n))
def WorthE (s : Sw) (n : Int) : Int × Int := if openW s [] [n] ≠ 0 then (0, openW s [] [n]) else (worthW s n.toNat, 0)
def moreK (s : Sw) (k n : Nat) : Sw := { s with stock := s.stock.modify k (· + (n : Int)) }
def needW (s : Sw) (k : Nat) : Option Nat := (List.range 5).find? fun n => servedW (moreK s k n)
def NeedE (s : Sw) (k : Int) : Int × Int := if openW s [k] [] ≠ 0 then (0, openW s [k] []) else match needW s k.toNat with
 | some n => ((n : Int), 0)
 | none => (0, 11)
def kerfK (s : Sw) (n : Nat) : Sw := { s with kerf := n }
def kerfW (s : Sw) : Option Nat := (List.range 4).reverse.find? fun n => servedW (kerfK s n)
def KerfE (s : Sw) : Int × Int := if sawE s ≠ 0 then (0, sawE s) else match kerfW s with
 | some n => ((n : Int), 0)
 | none => (0, 11)
def wantK (s : Sw) (x : Want) : Sw := { s with wants := s.wants ++ [x] }
def sw0 : Sw := ⟨[], [], 0, []⟩
def AddW (s : Sw) (x : Want) : Sw × Int :=
 if sawE s ≠ 0 then (sw0, sawE s) else if s.wants.length = 5 then (sw0, 6) else if wantE s.loaves x ≠ 0 then (sw0, wantE s.loaves x) else
 if servedW s && !servedW (wantK s x) then (sw0, 9) else (wantK s x, 0)
def shopW (n : Int) : Sw := ⟨[[5, 3, 2], [4, 2]], [2, n], 1, [⟨0, 0, 0, 12⟩, ⟨2, 0, 1, 6⟩, ⟨1, -1, 9, 9⟩, ⟨1, 1, 5, 5⟩]⟩
theorem cutW : SlicesE (shopW 2) 0 4 = (2, 0) ∧ LeftE (shopW 2) [0, 1, 2, 3] [0, 2] = ([0, 0], 5, 0) ∧ FewestE (shopW 2) = ([0, 2], 4, 0) ∧ BestE (shopW 1) = ([0, 1, 2], 27, 0) ∧ RefusedE (shopW 1) = ([0], 0) ∧ WorthE (shopW 1) 0 = (7, 0) ∧ KerfE (shopW 2) = (3, 0) := by
 decide +kernel
end Go.Mz


set_option maxRecDepth 100000
namespace Go.Mz
open Go.Conc Go.Proofs
variable {X : Logic Tryz.prog}
def encWt (x : Want) : List Value := [.int .i64 x.sort, .int .i64 x.kind, .int .i64 x.amount, .int .i64 x.pay]
theorem encWt_len (x : Want) : (encWt x).length = 4 := rfl
structure Wp where
 la : Option Addr
 sa : Option Addr
 wa : Option Addr
 lc : Nat
 sc : Nat
 wc : Nat
abbrev encSw (s : Sw) (p : Wp) : List Value := [.slice p.la s.loaves.length p.lc, .slice p.sa s.stock.length p.sc, .int .i64 s.kerf, .slice p.wa s.wants.length p.wc]
abbrev swA (s : Sw) (p : Wp) : Value := .agg (encSw s p).toArray
structure SwAt (L : LH) (s : Sw) (p : Wp) : Prop where
 lo : RowsAt L p.la 1 encI s.loaves
 st : IntsAt L p.sa s.stock
 wt : SlAt L p.wa 4 encWt s.wants
 cap : s.wants.length ≤ p.wc
theorem SwAt.le {L L' : LH} {s : Sw} {p : Wp} (h : SwAt L s p) (hl : Le L L') : SwAt L' s p := ⟨h.lo.le hl, h.st.le hl, h.wt.le hl, h.cap⟩
structure Sm (s : Sw) : Prop where
 hl : s.loaves.length ≤ 1000
 hs : s.stock.length ≤ 1000
 hw : s.wants.length ≤ 1000
 hr : ∀ l ∈ s.loaves, l.length ≤ 1000
theorem within_sp (n lo hi : Int) (L : LH) : Sp X 78 [.int .i64 n, .int .i64 lo, .int .i64 hi] L (fun v L' => v = .bool (inB n lo hi) ∧ L = L') := by
 refine Sp.enter (n := 15) Tryz.func78 rfl rfl rfl rfl fun C hX _ hL0 r => ?_
 refine W.go 99 rfl ?_
 refine W.split rfl rfl rfl (fun c => ?_) (fun c => ?_)
 ·refine W.go 99 rfl ?_
  exact W.ret r rfl rfl ⟨by unfold inB; rw [c]; rfl, rfl⟩
 ·refine W.go 99 rfl ?_
  exact W.ret r rfl rfl ⟨by unfold inB; rw [c]; rfl, rfl⟩
theorem sized_sp (n lo hi : Int) (L : LH) : Sp X 76 [.int .i64 n, .int .i64 lo, .int .i64 hi] L (fun v L' => v = .int .i64 (sizedE n lo hi) ∧ L = L') := by
 refine Sp.enter (n := 15) Tryz.func76 rfl rfl rfl rfl fun C hX _ hL0 r => ?_
 refine W.go 99 rfl ?_
 refine W.split rfl rfl rfl (fun c => ?_) (fun c => ?_)
 ·refine W.go 99 rfl ?_
  exact W.ret r rfl rfl ⟨by unfold sizedE; rw [if_pos (by simpa using c)]; rfl, rfl⟩
 refine W.go 99 rfl ?_
 refine W.split rfl rfl rfl (fun c2 => ?_) (fun c2 => ?_)
 ·refine W.go 99 rfl ?_
  exact W.ret r rfl rfl ⟨by unfold sizedE; rw [if_neg (by simpa using c), if_pos (by simpa using c2)]; rfl, rfl⟩
 ·refine W.go 99 rfl ?_
  exact W.ret r rfl rfl ⟨by unfold sizedE; rw [if_neg (by simpa using c), if_neg (by simpa using c2)]; rfl, rfl⟩
theorem sumL_bk (K : Nat) : ∀ (l : List Int), (∀ x ∈ l, 0 ≤ x ∧ x ≤ K) → 0 ≤ sumL l ∧ sumL l ≤ K * l.length := by
 intro l
 generalize hn : l.length = n
 induction n generalizing l with
 | zero =>
  intro _
  rw [List.length_eq_zero_iff] at hn
  subst hn
  exact ⟨Int.le_refl _, by simp [sumL]⟩
 | succ n ih =>
  intro h
  have hne : l ≠ [] := fun e => by subst e; simp at hn
  obtain ⟨k, x, rfl⟩ : ∃ k x, l = k ++ [x] := ⟨l.dropLast, l.getLast hne, (List.dropLast_concat_getLast hne).symm⟩
  rw [sumL_add]
  have h1 := ih k (by simp at hn; omega) fun y hy => h y (List.mem_append_left _ hy)
  have h2 := h x (by simp)
  rw [show ((n + 1 : Nat) : Int) = (n : Int) + 1 by omega, Int.mul_add, Int.mul_one]
  omega
theorem sum_sp (la : Option Addr) (lc : Nat) (l : List Int) (L : LH) (hl : IntsAt L la l) (hn : l.length ≤ 1000000) (hb : ∀ x ∈ l, 0 ≤ x ∧ x ≤ (4000 : Nat)) : Sp X 73 [.slice la l.length lc] L (fun v L' => v = .int .i64 (sumL l) ∧ L = L') := by
 refine Sp.enter (n := 17) Tryz.func73 rfl rfl rfl rfl fun C hX _ hL0 r => ?_
 refine W.go 99 rfl ?_
 refine W.loop (fun m E B L' => ∃ (j : Nat), m = l.length - j ∧ j ≤ l.length ∧ L = L' ∧
   E = [(6, .v (.slice la l.length lc)), (7, .v (.int .i64 l.length)), (3, .v (.int .i64 (sumL (l.take j)))), (8, .v (.int .i64 j))] ∧ B = [])
  ⟨0, rfl, by omega, rfl, rfl, rfl⟩ (by exact ⟨rfl, rfl, rfl, rfl, trivial⟩) trivial ?_
 rintro _ _ _ _ ⟨j, rfl, hj, rfl, rfl, rfl⟩ again
 refine W.go 99 rfl ?_
 refine W.split rfl rfl rfl (fun e1 => W.go 99 rfl ?_) (fun e1 => W.go 99 rfl ?_)
 ·have hjl : j < l.length := by simpa using e1
  obtain ⟨lad, rfl⟩ := hl.addr hjl
  have htk : l.take (j + 1) = l.take j ++ [l[j]] := List.take_succ_eq_append_getElem hjl
  have hs := sumL_bk 4000 (l.take (j + 1)) fun x hx => hb x (List.mem_of_mem_take hx)
  rw [List.length_take, htk, sumL_add] at hs
  refine W.vf rfl rfl rfl rfl (Vf.idx1 rfl rfl rfl rfl rfl rfl rfl (hjl)) ?_
  refine W.go 99 rfl ?_
  refine W.vf rfl rfl rfl rfl (Vf.load rfl rfl rfl (hl.int (List.getElem?_eq_getElem hjl))) ?_
  refine W.go 99 rfl ?_
  exact W.again (again _ _ _ _ (by omega) ⟨j + 1, rfl, by omega, rfl, rfl, rfl⟩) ⟨rfl, rfl, congrArg some (w64 (by rw [htk, sumL_add]) (by rw [htk, sumL_add]; omega) (by rw [htk, sumL_add]; omega)), congrArg some (inc64 (by omega)), trivial⟩ trivial
 ·have hje : j = l.length := by simp at e1; omega
  subst hje
  refine W.ret r rfl rfl ?_
  rw [List.take_length]
  exact ⟨rfl, rfl⟩
def prevO (l : List Int) (i : Nat) : Option Int := if i = 0 then none else l[i - 1]?
theorem prevO_succ {l : List Int} {i : Nat} (hi : i < l.length) : prevO l (i + 1) = some l[i] := by
 unfold prevO
 rw [if_neg (by omega)]
 simp [List.getElem?_eq_getElem hi]
theorem checkLoaf_sp (ad : Option Addr) (c : Nat) (l : List Int) (L : LH) (hl : IntsAt L ad l) (hn : l.length ≤ 1000000) : Sp X 77 [.slice ad l.length c] L (fun v L' => v = .int .i64 (loafE l) ∧ L = L') := by
 refine Sp.enter (n := 34) Tryz.func77 rfl rfl rfl rfl fun C hX _ hL0 r => ?_
 refine W.go 99 rfl ?_
 refine W.eff rfl rfl rfl (Ef.call rfl (sized_sp _ _ _ _)) ?_
 rintro _ _ _ ⟨_, rfl, rfl, rfl, rfl⟩
 refine W.go 99 rfl ?_
 refine W.split rfl rfl rfl (fun c1 => W.go 99 rfl ?_) (fun c1 => W.go 99 rfl ?_)
 ·exact W.ret r rfl rfl ⟨by unfold loafE; rw [if_pos (by simpa using c1)]; rfl, rfl⟩
 refine W.loop (fun m E B L' => ∃ (i : Nat), m = l.length - i ∧ i ≤ l.length ∧ loafGo (prevO l i) (l.drop i) = loafGo none l ∧ L = L' ∧
   E = [(0, .v (.slice ad l.length c)), (12, .v (.slice ad l.length c)), (13, .v (.int .i64 l.length)), (14, .v (.int .i64 i))] ∧ B = [])
  ⟨0, rfl, by omega, rfl, rfl, rfl, rfl⟩ (by exact ⟨rfl, rfl, rfl, rfl, trivial⟩) trivial ?_
 rintro _ _ _ _ ⟨i, rfl, h1, hg, rfl, rfl, rfl⟩ again
 refine W.go 99 rfl ?_
 refine W.split rfl rfl rfl (fun e1 => W.go 99 rfl ?_) (fun e1 => W.go 99 rfl ?_)
 ·have hi : i < l.length := by simpa using e1
  obtain ⟨lad, rfl⟩ := hl.addr hi
  rw [List.drop_eq_getElem_cons hi, loafGo] at hg
  refine W.vf rfl rfl rfl rfl (Vf.idx1 rfl rfl rfl rfl rfl rfl rfl (hi)) ?_
  refine W.go 99 rfl ?_
  refine W.vf rfl rfl rfl rfl (Vf.load rfl rfl rfl (hl.int (List.getElem?_eq_getElem hi))) ?_
  refine W.go 99 rfl ?_
  refine W.eff rfl rfl rfl (Ef.call rfl (within_sp _ _ _ _)) ?_
  rintro _ _ _ ⟨_, rfl, rfl, rfl, rfl⟩
  refine W.go 99 rfl ?_
  refine W.split rfl rfl rfl (fun e2 => W.go 99 rfl ?_) (fun e2 => W.go 99 rfl ?_)
  ·exact W.ret r rfl rfl ⟨by unfold loafE; rw [if_neg (by simpa using c1), ← hg, if_pos (by simpa using e2)]; rfl, rfl⟩
  rw [if_neg (by simpa using e2)] at hg
  refine W.split rfl rfl rfl (fun e3 => ?_) (fun e3 => ?_)
  ·have hi0 : 0 < i := by simpa using e3
   have hp : prevO l i = some l[i - 1] := by unfold prevO; rw [if_neg (by omega)]; exact List.getElem?_eq_getElem (by omega)
   rw [hp] at hg
   have hw : IntKind.i64.wrap ((i : Int) - 1) = ((i - 1 : Nat) : Int) := by rw [wrap64_in _ (by omega) (by omega)]; omega
   refine W.go 99 rfl ?_
   rw [hw]
   refine W.vf rfl rfl rfl rfl (Vf.idx1 rfl rfl rfl rfl rfl rfl rfl ((show i - 1 < l.length by omega))) ?_
   refine W.go 99 rfl ?_
   refine W.vf rfl rfl rfl rfl (Vf.load rfl rfl rfl (hl.int (List.getElem?_eq_getElem (show i - 1 < l.length by omega)))) ?_
   refine W.go 99 rfl ?_
   refine W.split rfl rfl rfl (fun e4 => W.go 99 rfl ?_) (fun e4 => W.go 99 rfl ?_)
   ·exact W.ret r rfl rfl ⟨by unfold loafE; rw [if_neg (by simpa using c1), ← hg, if_pos (by simpa [upB] using e4)]; rfl, rfl⟩
   ·rw [if_neg (by simpa [upB] using e4)] at hg
    exact W.again (again _ _ _ _ (by omega) ⟨i + 1, rfl, by omega, by rw [prevO_succ hi]; exact hg, rfl, rfl, rfl⟩) ⟨rfl, rfl, rfl, congrArg some (inc64 (by omega)), trivial⟩ trivial
  ·have hi0 : i = 0 := by simp at e3; omega
   subst hi0
   refine W.go 99 rfl ?_
   exact W.again (again _ _ _ _ (by omega) ⟨1, rfl, by omega, by rw [prevO_succ hi]; exact hg, rfl, rfl, rfl⟩) ⟨rfl, rfl, rfl, congrArg some (inc64 (by omega)), trivial⟩ trivial
 ·exact W.ret r rfl rfl ⟨by unfold loafE; rw [if_neg (by simpa using c1), ← hg, List.drop_of_length_le (by simp at e1; omega)]; rfl, rfl⟩
theorem want_in {ls : List (List Int)} {x : Want} (h1 : inB x.sort 0 2 = true) (h2 : inB x.kind (wKd x) ((ls.length : Int) - 1) = true) :
  wantE ls x = if (inB x.amount (wLo x) (wHi ls x) && inB x.pay 0 30) = true then 0 else 1 := by
 unfold wantE
 rw [h1, h2]
 simp
theorem loafAt0 {ls : List (List Int)} {i : Nat} {l : List Int} (h : ls[i]? = some l) : ls.getD i [] = l := by rw [List.getD_eq_getElem?_getD, h]; rfl
theorem checkWant_sp (s : Sw) (p : Wp) (x : Want) (L : LH) (hs : SwAt L s p) (hn : Sm s) : Sp X 79 [swA s p, .agg (encWt x).toArray] L (fun v L' => v = .int .i64 (wantE s.loaves x) ∧ L = L') := by
 have n1 := hn.hl
 have hw1 : IntKind.i64.wrap ((s.loaves.length : Int) - 1) = (s.loaves.length : Int) - 1 := wrap64_in _ (by omega) (by omega)
 refine Sp.enter (n := 47) Tryz.func79 rfl rfl rfl rfl fun C hX _ hL0 r => ?_
 refine W.go 99 rfl ?_
 refine W.split rfl rfl rfl (fun e1 => ?_) (fun e1 => ?_)
 ·have e1' : x.sort = 1 := by simpa using e1
  refine W.go 99 rfl ?_
  rw [hw1]
  refine W.eff rfl rfl rfl (Ef.call rfl (within_sp _ _ _ _)) ?_
  rintro _ _ _ ⟨_, rfl, rfl, rfl, rfl⟩
  refine W.go 99 rfl ?_
  refine W.split rfl rfl rfl (fun e2 => W.go 99 rfl ?_) (fun e2 => W.go 99 rfl ?_)
  ·exact W.ret r rfl rfl ⟨by unfold wantE; simp [e1', inB, wKd, retV] at e2 ⊢; intro h; omega, rfl⟩
  refine W.split rfl rfl rfl (fun c => absurd c (by decide)) (fun c => ?_)
  refine W.go 99 rfl ?_
  refine W.eff rfl rfl rfl (Ef.call rfl (within_sp _ _ _ _)) ?_
  rintro _ _ _ ⟨_, rfl, rfl, rfl, rfl⟩
  refine W.go 99 rfl ?_
  refine W.split rfl rfl rfl (fun e5 => W.go 99 rfl ?_) (fun e5 => W.go 99 rfl ?_)
  ·exact W.ret r rfl rfl ⟨by rw [want_in (by simp [inB, e1']) (by simpa [wKd, e1'] using e2), if_neg (by simp at e5; simp [wLo, wHi, e1', e5])]; rfl, rfl⟩
  refine W.eff rfl rfl rfl (Ef.call rfl (within_sp _ _ _ _)) ?_
  rintro _ _ _ ⟨_, rfl, rfl, rfl, rfl⟩
  refine W.go 99 rfl ?_
  refine W.split rfl rfl rfl (fun e6 => W.go 99 rfl ?_) (fun e6 => W.go 99 rfl ?_)
  ·exact W.ret r rfl rfl ⟨by rw [want_in (by simp [inB, e1']) (by simpa [wKd, e1'] using e2), if_neg (by simp at e6; simp [e6])]; rfl, rfl⟩
  ·exact W.ret r rfl rfl ⟨by rw [want_in (by simp [inB, e1']) (by simpa [wKd, e1'] using e2), if_pos (by simp at e5 e6; simp [wLo, wHi, e1', e5, e6])]; rfl, rfl⟩
 have e1' : x.sort ≠ 1 := by simpa using e1
 refine W.go 99 rfl ?_
 refine W.split rfl rfl rfl (fun e1 => ?_) (fun e1 => ?_)
 ·have e1' : x.sort = 2 := by simpa using e1
  refine W.go 99 rfl ?_
  rw [hw1]
  refine W.eff rfl rfl rfl (Ef.call rfl (within_sp _ _ _ _)) ?_
  rintro _ _ _ ⟨_, rfl, rfl, rfl, rfl⟩
  refine W.go 99 rfl ?_
  refine W.split rfl rfl rfl (fun e2 => W.go 99 rfl ?_) (fun e2 => W.go 99 rfl ?_)
  ·exact W.ret r rfl rfl ⟨by unfold wantE; simp [e1', inB, wKd, retV] at e2 ⊢; intro h; omega, rfl⟩
  have hk : 0 ≤ x.kind ∧ x.kind < s.loaves.length := by simp [inB] at e2; omega
  have hki : x.kind.toNat < s.loaves.length := by omega
  have hl : s.loaves[x.kind.toNat]? = some s.loaves[x.kind.toNat] := List.getElem?_eq_getElem hki
  obtain ⟨la, hla⟩ := hs.lo.addr hki
  have hlo := hs.lo
  rw [hla] at hlo
  obtain ⟨a, c, hc, hsl, hcp⟩ := hlo.row hl
  have hlen := hn.hr _ (List.mem_of_getElem? hl)
  generalize s.loaves[x.kind.toNat] = lf at *
  have hgd := hl
  obtain ⟨qa, qb, qc, qd, qe, qf⟩ := p
  obtain rfl : qa = some la := hla
  refine W.split rfl rfl rfl (fun c => ?_) (fun c => absurd c (by decide))
  refine W.go 99 rfl ?_
  refine W.vf rfl rfl rfl rfl (Vf.idx1 rfl rfl rfl rfl rfl rfl (show x.kind = ((x.kind.toNat : Nat) : Int) by omega) hki) ?_
  refine W.go 99 rfl ?_
  refine W.vf rfl rfl rfl rfl (Vf.load rfl rfl rfl (hc)) ?_
  refine W.go 99 rfl ?_
  rw [wrap64_in ((lf.length : Int) - 1) (by omega) (by omega)]
  refine W.eff rfl rfl rfl (Ef.call rfl (within_sp _ _ _ _)) ?_
  rintro _ _ _ ⟨_, rfl, rfl, rfl, rfl⟩
  refine W.go 99 rfl ?_
  refine W.split rfl rfl rfl (fun e5 => W.go 99 rfl ?_) (fun e5 => W.go 99 rfl ?_)
  ·exact W.ret r rfl rfl ⟨by rw [want_in (by simp [inB, e1']) (by simpa [wKd, e1'] using e2), if_neg (by simp at e5; simp [wLo, wHi, e1', hgd, e5])]; rfl, rfl⟩
  refine W.eff rfl rfl rfl (Ef.call rfl (within_sp _ _ _ _)) ?_
  rintro _ _ _ ⟨_, rfl, rfl, rfl, rfl⟩
  refine W.go 99 rfl ?_
  refine W.split rfl rfl rfl (fun e6 => W.go 99 rfl ?_) (fun e6 => W.go 99 rfl ?_)
  ·exact W.ret r rfl rfl ⟨by rw [want_in (by simp [inB, e1']) (by simpa [wKd, e1'] using e2), if_neg (by simp at e6; simp [e6])]; rfl, rfl⟩
  ·exact W.ret r rfl rfl ⟨by rw [want_in (by simp [inB, e1']) (by simpa [wKd, e1'] using e2), if_pos (by simp at e5 e6; simp [wLo, wHi, hgd, e1', e5, e6])]; rfl, rfl⟩
 have e1'' : x.sort ≠ 2 := by simpa using e1
 refine W.go 99 rfl ?_
 refine W.split rfl rfl rfl (fun e1 => ?_) (fun e1 => ?_)
 ·have e1' : x.sort = 0 := by simpa using e1
  have hgd : True := trivial
  refine W.go 99 rfl ?_
  rw [hw1]
  refine W.eff rfl rfl rfl (Ef.call rfl (within_sp _ _ _ _)) ?_
  rintro _ _ _ ⟨_, rfl, rfl, rfl, rfl⟩
  refine W.go 99 rfl ?_
  refine W.split rfl rfl rfl (fun e2 => W.go 99 rfl ?_) (fun e2 => W.go 99 rfl ?_)
  ·exact W.ret r rfl rfl ⟨by unfold wantE; simp [e1', inB, wKd, retV] at e2 ⊢; intro h; omega, rfl⟩
  refine W.split rfl rfl rfl (fun c => absurd c (by decide)) (fun c => ?_)
  refine W.go 99 rfl ?_
  refine W.eff rfl rfl rfl (Ef.call rfl (within_sp _ _ _ _)) ?_
  rintro _ _ _ ⟨_, rfl, rfl, rfl, rfl⟩
  refine W.go 99 rfl ?_
  refine W.split rfl rfl rfl (fun e5 => W.go 99 rfl ?_) (fun e5 => W.go 99 rfl ?_)
  ·exact W.ret r rfl rfl ⟨by rw [want_in (by simp [inB, e1']) (by simpa [wKd, e1'] using e2), if_neg (by simp at e5; simp [wLo, wHi, e1', hgd, e5])]; rfl, rfl⟩
  refine W.eff rfl rfl rfl (Ef.call rfl (within_sp _ _ _ _)) ?_
  rintro _ _ _ ⟨_, rfl, rfl, rfl, rfl⟩
  refine W.go 99 rfl ?_
  refine W.split rfl rfl rfl (fun e6 => W.go 99 rfl ?_) (fun e6 => W.go 99 rfl ?_)
  ·exact W.ret r rfl rfl ⟨by rw [want_in (by simp [inB, e1']) (by simpa [wKd, e1'] using e2), if_neg (by simp at e6; simp [e6])]; rfl, rfl⟩
  ·exact W.ret r rfl rfl ⟨by rw [want_in (by simp [inB, e1']) (by simpa [wKd, e1'] using e2), if_pos (by simp at e5 e6; simp [wLo, wHi, hgd, e1', e5, e6])]; rfl, rfl⟩
 ·refine W.go 99 rfl ?_
  have e3 : x.sort ≠ 0 := by simpa using e1
  exact W.ret r rfl rfl ⟨by unfold wantE; rw [if_pos (by simp [inB]; omega)]; rfl, rfl⟩
theorem Check_sp (s : Sw) (p : Wp) (L : LH) (hs : SwAt L s p) (hn : Sm s) : Sp X 28 [swA s p] L (fun v L' => v = .int .i64 (sawE s) ∧ L = L') := by
 have n1 := hn.hl
 have n2 := hn.hs
 have n3 := hn.hw
 refine Sp.enter (n := 72) Tryz.func28 rfl rfl rfl rfl fun C hX _ hL0 r => ?_
 refine W.go 99 rfl ?_
 refine W.eff rfl rfl rfl (Ef.call rfl (sized_sp _ _ _ _)) ?_
 rintro _ _ _ ⟨_, rfl, rfl, rfl, rfl⟩
 refine W.go 99 rfl ?_
 refine W.split rfl rfl rfl (fun c1 => W.go 99 rfl ?_) (fun c1 => W.go 99 rfl ?_)
 ·exact W.ret r rfl rfl ⟨by unfold sawE; rw [if_pos (by simpa using c1)]; rfl, rfl⟩
 refine W.loop (fun m E B L' => ∃ i : Nat, m = s.loaves.length - i ∧ i ≤ s.loaves.length ∧ loavesE (s.loaves.drop i) = loavesE s.loaves ∧ E = [(1, .p 0 0), (20, .v (.slice p.la s.loaves.length p.lc)), (21, .v (.int .i64 s.loaves.length)), (22, .v (.int .i64 i))] ∧ B = [some ⟨cellsS (.v (swA s p)), 26⟩] ∧ L = L')
  ⟨0, rfl, by omega, by simp, rfl, rfl, rfl⟩ (by exact ⟨rfl, rfl, rfl, rfl, trivial⟩) (by exact ⟨rfl, trivial⟩) ?_
 rintro _ _ _ _ ⟨i, rfl, h1, hg, rfl, rfl, rfl⟩ again
 refine W.go 99 rfl ?_
 refine W.split rfl rfl rfl (fun d1 => W.go 99 rfl ?_) (fun d1 => W.go 99 rfl ?_)
 ·have hi : i < s.loaves.length := by simpa using d1
  have hl : s.loaves[i]? = some s.loaves[i] := List.getElem?_eq_getElem hi
  rw [List.drop_eq_getElem_cons hi, loavesE] at hg
  obtain ⟨la, hla⟩ := hs.lo.addr hi
  have hlo := hs.lo
  rw [hla] at hlo
  obtain ⟨a, c, hc, hsl, hcp⟩ := hlo.row hl
  have hlen := hn.hr _ (List.mem_of_getElem? hl)
  generalize s.loaves[i] = lf at *
  obtain ⟨qa, qb, qc, qd, qe, qf⟩ := p
  obtain rfl : qa = some la := hla
  refine W.vf rfl rfl rfl rfl (Vf.idx1 rfl rfl rfl rfl rfl rfl rfl (hi)) ?_
  refine W.go 99 rfl ?_
  refine W.vf rfl rfl rfl rfl (Vf.load rfl rfl rfl (hc)) ?_
  refine W.go 99 rfl ?_
  refine W.eff rfl rfl rfl (Ef.call rfl (checkLoaf_sp _ _ _ _ hsl (by omega))) ?_
  rintro _ _ _ ⟨_, rfl, rfl, rfl, rfl⟩
  refine W.go 99 rfl ?_
  refine W.split rfl rfl rfl (fun d2 => W.go 99 rfl ?_) (fun d2 => W.go 99 rfl ?_)
  ·exact W.ret r rfl rfl ⟨by unfold sawE; rw [if_neg (by simpa using c1), ← hg, if_pos (show loafE lf ≠ 0 by simpa using d2), if_pos (show loafE lf ≠ 0 by simpa using d2)]; rfl, rfl⟩
  ·exact W.again (again _ _ _ _ (by omega) ⟨i + 1, rfl, by omega, by rw [← hg, if_neg (by simpa using d2)], rfl, rfl, rfl⟩) ⟨rfl, rfl, rfl, congrArg some (inc64 (by omega)), trivial⟩ ⟨rfl, trivial⟩
 have hlo : loavesE s.loaves = 0 := by rw [← hg, List.drop_of_length_le (by simp at d1; omega)]; rfl
 clear again hg
 refine W.split rfl rfl rfl (fun c2 => W.go 99 rfl ?_) (fun c2 => W.go 99 rfl ?_)
 ·exact W.ret r rfl rfl ⟨by unfold sawE; rw [if_neg (by simpa using c1), if_neg (by simp [hlo]), if_pos (by simp at c2; omega)]; rfl, rfl⟩
 have c2' : s.stock.length = s.loaves.length := by simp at c2; omega
 refine W.loop (fun m E B L' => ∃ i : Nat, m = s.stock.length - i ∧ i ≤ s.stock.length ∧ stockB (s.stock.drop i) = stockB s.stock ∧ E = [(1, .p 0 0), (40, .v (.slice p.sa s.stock.length p.sc)), (41, .v (.int .i64 s.stock.length)), (42, .v (.int .i64 i))] ∧ B = [some ⟨cellsS (.v (swA s p)), 26⟩] ∧ L = L')
  ⟨0, rfl, by omega, by simp, rfl, rfl, rfl⟩ (by exact ⟨rfl, rfl, rfl, rfl, trivial⟩) (by exact ⟨rfl, trivial⟩) ?_
 rintro _ _ _ _ ⟨i, rfl, h1, hg, rfl, rfl, rfl⟩ again
 refine W.go 99 rfl ?_
 refine W.split rfl rfl rfl (fun d1 => W.go 99 rfl ?_) (fun d1 => W.go 99 rfl ?_)
 ·have hi : i < s.stock.length := by simpa using d1
  rw [List.drop_eq_getElem_cons hi, stockB] at hg
  obtain ⟨la, hla⟩ := hs.st.addr hi
  have hst := hs.st
  rw [hla] at hst
  obtain ⟨qa, qb, qc, qd, qe, qf⟩ := p
  obtain rfl : qb = some la := hla
  refine W.vf rfl rfl rfl rfl (Vf.idx1 rfl rfl rfl rfl rfl rfl rfl (hi)) ?_
  refine W.go 99 rfl ?_
  refine W.vf rfl rfl rfl rfl (Vf.load rfl rfl rfl (hst.int (List.getElem?_eq_getElem hi))) ?_
  refine W.go 99 rfl ?_
  refine W.eff rfl rfl rfl (Ef.call rfl (within_sp _ _ _ _)) ?_
  rintro _ _ _ ⟨_, rfl, rfl, rfl, rfl⟩
  refine W.go 99 rfl ?_
  refine W.split rfl rfl rfl (fun d2 => W.go 99 rfl ?_) (fun d2 => W.go 99 rfl ?_)
  ·exact W.ret r rfl rfl ⟨by unfold sawE; rw [if_neg (by simpa using c1), if_neg (by simp [hlo]), if_neg (by omega), ← hg, if_pos (by simp at d2; simp [d2])]; rfl, rfl⟩
  ·exact W.again (again _ _ _ _ (by omega) ⟨i + 1, rfl, by omega, by simp at d2; rw [← hg, d2, Bool.true_and], rfl, rfl, rfl⟩) ⟨rfl, rfl, rfl, congrArg some (inc64 (by omega)), trivial⟩ ⟨rfl, trivial⟩
 have hsb : stockB s.stock = true := by rw [← hg, List.drop_of_length_le (by simp at d1; omega)]; rfl
 clear again hg
 have base : sawE s = if !inB s.kerf 0 3 then 1 else if 5 < s.wants.length then 6 else wantsE s.loaves s.wants := by
  unfold sawE
  rw [if_neg (by simpa using c1), if_neg (by simp [hlo]), if_neg (by omega), if_neg (by simp [hsb])]
 refine W.eff rfl rfl rfl (Ef.call rfl (within_sp _ _ _ _)) ?_
 rintro _ _ _ ⟨_, rfl, rfl, rfl, rfl⟩
 refine W.go 99 rfl ?_
 refine W.split rfl rfl rfl (fun c3 => W.go 99 rfl ?_) (fun c3 => W.go 99 rfl ?_)
 ·exact W.ret r rfl rfl ⟨by rw [base, if_pos (by simpa using c3)]; rfl, rfl⟩
 refine W.split rfl rfl rfl (fun c4 => W.go 99 rfl ?_) (fun c4 => W.go 99 rfl ?_)
 ·exact W.ret r rfl rfl ⟨by rw [base, if_neg (by simpa using c3), if_pos (by simp at c4; omega)]; rfl, rfl⟩
 refine W.loop (fun m E B L' => ∃ i : Nat, m = s.wants.length - i ∧ i ≤ s.wants.length ∧ wantsE s.loaves (s.wants.drop i) = wantsE s.loaves s.wants ∧ E = [(1, .p 0 0), (59, .v (.slice p.wa s.wants.length p.wc)), (60, .v (.int .i64 s.wants.length)), (61, .v (.int .i64 i))] ∧ B = [some ⟨cellsS (.v (swA s p)), 26⟩] ∧ L = L')
  ⟨0, rfl, by omega, by simp, rfl, rfl, rfl⟩ (by exact ⟨rfl, rfl, rfl, rfl, trivial⟩) (by exact ⟨rfl, trivial⟩) ?_
 rintro _ _ _ _ ⟨i, rfl, h1, hg, rfl, rfl, rfl⟩ again
 refine W.go 99 rfl ?_
 refine W.split rfl rfl rfl (fun d1 => W.go 99 rfl ?_) (fun d1 => W.go 99 rfl ?_)
 ·have hi : i < s.wants.length := by simpa using d1
  rw [List.drop_eq_getElem_cons hi, wantsE] at hg
  obtain ⟨la, hla⟩ := hs.wt.addr hi
  have hst := hs.wt
  rw [hla] at hst
  have hs0 := hs
  obtain ⟨qa, qb, qc, qd, qe, qf⟩ := p
  obtain rfl : qc = some la := hla
  refine W.vf rfl rfl rfl rfl (Vf.idx rfl rfl rfl rfl rfl rfl (hi)) ?_
  refine W.go 99 rfl ?_
  refine W.vf rfl rfl rfl rfl (Vf.loadN rfl rfl rfl (hst.whole (List.getElem?_eq_getElem hi) rfl)) ?_
  refine W.go 99 rfl ?_
  refine W.eff rfl rfl rfl (Ef.call rfl (checkWant_sp s _ s.wants[i] L hs hn)) ?_
  rintro _ _ _ ⟨_, rfl, rfl, rfl, rfl⟩
  refine W.go 99 rfl ?_
  refine W.split rfl rfl rfl (fun d2 => W.go 99 rfl ?_) (fun d2 => W.go 99 rfl ?_)
  ·exact W.ret r rfl rfl ⟨by rw [base, if_neg (by simpa using c3), if_neg (by simp at c4; omega), ← hg, if_pos (show wantE s.loaves s.wants[i] ≠ 0 by simpa using d2)]; rfl, rfl⟩
  ·exact W.again (again _ _ _ _ (by omega) ⟨i + 1, rfl, by omega, by rw [← hg, if_neg (by simpa using d2)], rfl, rfl, rfl⟩) ⟨rfl, rfl, rfl, congrArg some (inc64 (by omega)), trivial⟩ ⟨rfl, trivial⟩
 have hw : wantsE s.loaves s.wants = 0 := by rw [← hg, List.drop_of_length_le (by simp at d1; omega)]; rfl
 exact W.ret r rfl rfl ⟨by rw [base, if_neg (by simpa using c3), if_neg (by simp at c4; omega), hw]; rfl, rfl⟩
end Go.Mz


namespace Go.Mz
open Go
end Go.Mz


set_option maxRecDepth 100000
namespace Go.Mz
open Go.Conc Go.Proofs
variable {X : Logic Tryz.prog}
theorem SlAt.nil {α : Type} {L : LH} {k : Nat} {enc : α → List Value} {l : List α} (h : SlAt L none k enc l) : l = [] := by
 cases l with
 | nil => rfl
 | cons x l => obtain ⟨a, h1⟩ := h.addr (i := 0) (by simp); cases h1
theorem SlAt.empty {α : Type} {L : LH} {ad : Option Addr} {k : Nat} {enc : α → List Value} : SlAt L ad k enc ([] : List α) := fun i x hx => by simp at hx
theorem isNaN_sp (a : Int) (L : LH) : Sp X 163 [.int .i64 a] L (fun v L' => v = .bool false ∧ L = L') := by
 refine Sp.enter (n := 6) Tryz.func163 rfl rfl rfl rfl fun C hX _ hL0 r => ?_
 refine W.go 99 rfl ?_
 exact W.ret r rfl rfl ⟨by simp [retV], rfl⟩
theorem cmp_sp (a b : Int) (L : LH) : Sp X 142 [.int .i64 a, .int .i64 b] L (fun v L' => v = .int .i64 (cmpI a b) ∧ L = L') := by
 refine Sp.enter (n := 20) Tryz.func142 rfl rfl rfl rfl fun C hX _ hL0 r => ?_
 refine W.go 99 rfl ?_
 refine W.eff rfl rfl rfl (Ef.call rfl (isNaN_sp _ _)) ?_
 rintro _ _ _ ⟨_, rfl, rfl, rfl, rfl⟩
 refine W.go 99 rfl ?_
 refine W.eff rfl rfl rfl (Ef.call rfl (isNaN_sp _ _)) ?_
 rintro _ _ _ ⟨_, rfl, rfl, rfl, rfl⟩
 refine W.go 99 rfl ?_
 refine W.split rfl rfl rfl (fun c => absurd c (by decide)) (fun c => ?_)
 refine W.go 99 rfl ?_
 refine W.split rfl rfl rfl (fun c => absurd c (by decide)) (fun c => ?_)
 refine W.go 99 rfl ?_
 refine W.split rfl rfl rfl (fun c => W.go 99 rfl ?_) (fun c => W.go 99 rfl ?_)
 ·exact W.ret r rfl rfl ⟨by unfold cmpI; rw [if_pos (by simpa using c)]; rfl, rfl⟩
 refine W.split rfl rfl rfl (fun c2 => W.go 99 rfl ?_) (fun c2 => W.go 99 rfl ?_)
 ·exact W.ret r rfl rfl ⟨by unfold cmpI; rw [if_neg (by simpa using c), if_pos (by simpa using c2)]; rfl, rfl⟩
 ·exact W.ret r rfl rfl ⟨by unfold cmpI; rw [if_neg (by simpa using c), if_neg (by simpa using c2)]; rfl, rfl⟩
theorem Compare_sp (ad bd : Option Addr) (c1 c2 : Nat) (a b : List Int) (L : LH) (ha : IntsAt L ad a) (hb : IntsAt L bd b) (na : a.length ≤ 1000000) (nb : b.length ≤ 1000000) : Sp X 128 [.slice ad a.length c1, .slice bd b.length c2] L (fun v L' => v = .int .i64 (cmpL a b) ∧ L = L') := by
 refine Sp.enter (n := 36) Tryz.func128 rfl rfl rfl rfl fun C hX _ hL0 r => ?_
 refine W.go 99 rfl ?_
 refine W.loop (fun m E B L' => ∃ i : Nat, m = a.length - i ∧ i ≤ a.length ∧ i ≤ b.length ∧ cmpL (a.drop i) (b.drop i) = cmpL a b ∧ E = [(0, .v (.slice ad a.length c1)), (1, .v (.slice bd b.length c2)), (9, .v (.slice ad a.length c1)), (10, .v (.int .i64 a.length)), (11, .v (.int .i64 i))] ∧ B = [] ∧ L = L')
  ⟨0, rfl, by omega, by omega, by simp, rfl, rfl, rfl⟩ ⟨rfl, rfl, rfl, rfl, rfl, trivial⟩ trivial ?_
 rintro _ _ _ _ ⟨i, rfl, h1, h2, hg, rfl, rfl, rfl⟩ again
 refine W.go 99 rfl ?_
 refine W.split rfl rfl rfl (fun d1 => W.go 99 rfl ?_) (fun d1 => W.go 99 rfl ?_)
 ·have hi : i < a.length := by simpa using d1
  have hd := List.drop_eq_getElem_cons hi
  obtain ⟨aa, rfl⟩ := ha.addr hi
  refine W.vf rfl rfl rfl rfl (Vf.idx1 rfl rfl rfl rfl rfl rfl rfl (hi)) ?_
  refine W.go 99 rfl ?_
  refine W.vf rfl rfl rfl rfl (Vf.load rfl rfl rfl (ha.int (List.getElem?_eq_getElem hi))) ?_
  refine W.go 99 rfl ?_
  refine W.split rfl rfl rfl (fun d2 => W.go 99 rfl ?_) (fun d2 => W.go 99 rfl ?_)
  ·have hn : b.drop i = [] := List.drop_of_length_le (by simp at d2; omega)
   exact W.ret r rfl rfl ⟨by rw [← hg, hd, hn]; rfl, rfl⟩
  have hj : i < b.length := by simp at d2; omega
  have he := List.drop_eq_getElem_cons hj
  obtain ⟨bb, rfl⟩ := hb.addr hj
  refine W.vf rfl rfl rfl rfl (Vf.idx1 rfl rfl rfl rfl rfl rfl rfl (hj)) ?_
  refine W.go 99 rfl ?_
  refine W.vf rfl rfl rfl rfl (Vf.load rfl rfl rfl (hb.int (List.getElem?_eq_getElem hj))) ?_
  refine W.go 99 rfl ?_
  refine W.eff rfl rfl rfl (Ef.call rfl (cmp_sp _ _ _)) ?_
  rintro _ _ _ ⟨_, rfl, rfl, rfl, rfl⟩
  refine W.go 99 rfl ?_
  refine W.split rfl rfl rfl (fun d3 => W.go 99 rfl ?_) (fun d3 => W.go 99 rfl ?_)
  ·exact W.ret r rfl rfl ⟨by rw [← hg, hd, he, cmpL, if_pos (by simpa using d3)]; rfl, rfl⟩
  ·exact W.again (again _ _ _ _ (by omega) ⟨i + 1, rfl, by omega, by omega, by rw [← hg, hd, he, cmpL, if_neg (by simpa using d3)], rfl, rfl, rfl⟩) ⟨rfl, rfl, rfl, rfl, congrArg some (inc64 (by omega)), trivial⟩ trivial
 ·have hi : a.drop i = [] := List.drop_of_length_le (by simp at d1; omega)
  have hl : i = a.length := by simp at d1; omega
  refine W.split rfl rfl rfl (fun d2 => W.go 99 rfl ?_) (fun d2 => W.go 99 rfl ?_)
  ·have hj : i < b.length := by simp at d2; omega
   exact W.ret r rfl rfl ⟨by rw [← hg, hi, List.drop_eq_getElem_cons hj]; rfl, rfl⟩
  ·have hj : b.drop i = [] := List.drop_of_length_le (by simp at d2; omega)
   exact W.ret r rfl rfl ⟨by rw [← hg, hi, hj]; rfl, rfl⟩
theorem CloneI_sp (ad : Option Addr) (c : Nat) (l : List Int) (L : LH) (h : SlAt L ad 1 encI l) (hn : l.length ≤ 1000000) : Sp X 113 [.slice ad l.length c] L (NewSl L 1 encI l) := by
 refine Sp.enter (n := 8) Tryz.func113 rfl rfl rfl rfl fun C hX _ hL0 r => ?_
 refine W.go 99 rfl ?_
 refine W.split rfl rfl rfl (fun d1 => W.go 99 rfl ?_) (fun d1 => W.go 99 rfl ?_)
 ·have e : ad = none := by cases ad with | none => rfl | some a => simp at d1
  subst e
  obtain rfl := h.nil
  refine W.ret r rfl rfl ?_
  exact ⟨none, 0, rfl, Le.refl _, SlAt.empty, Nat.le_refl _⟩
 refine W.pub 5 (.inr ⟨_, _, _, rfl⟩) rfl rfl ?_
 intro b hb _
 refine W.eff rfl rfl rfl (Ef.grow rfl rfl rfl rfl rfl rfl rfl rfl rfl encI_len encI_sg (Grow.new (Le.put hb _) (put_same _ _ _) hb) (ls := l) (.sl (h.le (Le.put hb _)) encI_len rfl) (by simp; omega)) ?_
 rintro _ _ _ ⟨v', rfl, rfl, hg', _⟩
 refine W.go 99 rfl ?_
 refine W.ret r rfl rfl ?_
 exact hg'.new_sl encI_len
theorem has_eq : ∀ m : Nat, m < 32 → ∀ i : Nat, i < 5 → (IntKind.u8.wrap ((((BitVec.ofInt IntKind.u8.bits ((m : Int).fdiv (2 ^ min i IntKind.u8.bits)) &&& BitVec.ofInt IntKind.u8.bits 1).toNat) : Nat) : Int) == 1) = m.testBit i := by decide +kernel
theorem has_sp (m i : Nat) (hm : m < 32) (hi : i < 5) (L : LH) : Sp X 115 [.int .u8 m, .int .i64 i] L (fun v L' => v = .bool (m.testBit i) ∧ L = L') := by
 refine Sp.enter (n := 10) Tryz.func115 rfl rfl rfl rfl fun C hX _ hL0 r => ?_
 refine W.go 99 rfl ?_
 exact W.ret r rfl rfl ⟨by rw [← has_eq m hm i hi]; rfl, rfl⟩
theorem with_eq : ∀ m : Nat, m < 32 → ∀ i : Nat, i < 5 → IntKind.u8.wrap ((((BitVec.ofInt IntKind.u8.bits (m : Int) ||| BitVec.ofInt IntKind.u8.bits (IntKind.u8.wrap (1 * 2 ^ min i IntKind.u8.bits))).toNat) : Nat) : Int) = ((m ||| 2 ^ i : Nat) : Int) := by decide +kernel
theorem with_sp (m i : Nat) (hm : m < 32) (hi : i < 5) (L : LH) : Sp X 119 [.int .u8 m, .int .i64 i] L (fun v L' => v = .int .u8 ((m ||| 2 ^ i : Nat) : Int) ∧ L = L') := by
 refine Sp.enter (n := 9) Tryz.func119 rfl rfl rfl rfl fun C hX _ hL0 r => ?_
 refine W.go 99 rfl ?_
 exact W.ret r rfl rfl ⟨by rw [← with_eq m hm i hi]; rfl, rfl⟩
theorem natI_flt5 (p : Nat → Bool) (i : Nat) : (natI ((List.range i).filter p)).length ≤ i := by
 unfold natI; rw [List.length_map]
 have := List.length_filter_le p (List.range i)
 simpa using this
theorem list_sp (m : Nat) (hm : m < 32) (L : LH) : Sp X 93 [.int .u8 m] L (NewSl L 1 encI (natI (bits5 m))) := by
 refine Sp.enter (n := 19) Tryz.func93 rfl rfl rfl rfl fun C hX _ hL0 r => ?_
 refine W.go 99 rfl ?_
 refine W.loop (fun n E B L' => ∃ (i : Nat) (v : Value), n = 5 - i ∧ i ≤ 5 ∧ Grow L 1 3 encI L' v (natI ((List.range i).filter (m.testBit ·))) ∧ E = [(0, .v (.int .u8 m)), (3, .v v), (4, .f (.func 115) [] []), (6, .v (.int .i64 i))] ∧ B = [])
  ⟨0, _, rfl, by omega, Grow.nil (Le.refl _), rfl, rfl⟩ (by exact ⟨rfl, rfl, rfl, rfl, trivial⟩) trivial ?_
 rintro _ _ _ L1 ⟨i, v, rfl, h1, hg, rfl, rfl⟩ again
 refine W.go 99 rfl ?_
 refine W.split rfl rfl rfl (fun c1 => W.go 99 rfl ?_) (fun c1 => W.go 99 rfl ?_)
 ·have hi : i < 5 := by simp at c1; omega
  have hb := range_filter (m.testBit ·) i
  refine W.eff rfl rfl rfl (Ef.callS rfl rfl rfl (Sp.toV (f1 := []) (f2 := []) (has_sp m i hm hi L1))) ?_
  rintro _ _ _ ⟨_, rfl, rfl, rfl, rfl⟩
  refine W.go 99 rfl ?_
  refine W.split rfl rfl rfl (fun c2 => W.go 99 rfl ?_) (fun c2 => W.go 99 rfl ?_)
  ·refine W.eff rfl rfl rfl (Ef.grow rfl rfl rfl rfl rfl rfl rfl rfl rfl encI_len encI_sg hg (ls := [(i : Int)]) (.own rfl rfl rfl rfl) (by have := natI_flt5 (m.testBit ·) i; simp only [List.length_singleton]; omega)) ?_
   rintro _ _ _ ⟨v', rfl, rfl, hg', _⟩
   refine W.go 99 rfl ?_
   exact W.again (again _ _ _ _ (by omega) ⟨i + 1, v', rfl, by omega, by rw [hb, if_pos c2, natI_snoc]; exact hg', rfl, rfl⟩) ⟨rfl, rfl, rfl, congrArg some (inc64 (by omega)), trivial⟩ trivial
  ·exact W.again (again _ _ _ _ (by omega) ⟨i + 1, v, rfl, by omega, by rw [hb]; simpa [c2] using hg, rfl, rfl⟩) ⟨rfl, rfl, rfl, congrArg some (inc64 (by omega)), trivial⟩ trivial
 ·have hi : i = 5 := by simp at c1; omega
  subst hi
  refine W.ret r rfl rfl ?_
  exact hg.new_sl encI_len
theorem sum3_sp (a b c : Int) (L : LH) (ha : 0 ≤ a ∧ a ≤ 4000) (hb : 0 ≤ b ∧ b ≤ 4000) (hc : 0 ≤ c ∧ c ≤ 4000) : Sp X 124 [.agg #[.int .i64 a, .int .i64 b, .int .i64 c]] L (fun v L' => v = .int .i64 (sumL [a, b, c]) ∧ Le L L') := by
 refine Sp.enter (n := 5) Tryz.func124 rfl rfl rfl rfl fun C hX _ hL0 r => ?_
 refine W.go 99 rfl ?_
 refine W.pub 1 (.inl ⟨_, rfl⟩) rfl rfl ?_
 intro b1 hb1 _
 refine W.vf rfl rfl rfl rfl (Vf.sliceW rfl Tryz.underlying99 size3 (by decide)) ?_
 refine W.go 99 rfl ?_
 have hsl : IntsAt (L.put b1 (.cells #[.int .i64 a, .int .i64 b, .int .i64 c] 99)) (some ⟨b1, 0, none⟩) [a, b, c] := sl_block (e := 99) encI_len (put_same _ _ _)
 refine W.eff rfl rfl rfl (Ef.call rfl (sum_sp (some ⟨b1, 0, none⟩) 3 [a, b, c] _ hsl (by simp) (by simp; omega))) ?_
 rintro _ _ _ ⟨_, rfl, rfl, rfl, rfl⟩
 refine W.go 99 rfl ?_
 refine W.ret r rfl rfl ?_
 exact ⟨rfl, Le.put hb1 _⟩
theorem full_sp (s : Sw) (p : Wp) (L : LH) (hn : s.wants.length ≤ 5) : Sp X 92 [swA s p] L (fun v L' => v = .int .u8 ((2 ^ s.wants.length - 1 : Nat) : Int) ∧ L = L') := by
 refine Sp.enter (n := 9) Tryz.func92 rfl rfl rfl rfl fun C hX _ hL0 r => ?_
 refine W.go 99 rfl ?_
 have : s.wants.length = 0 ∨ s.wants.length = 1 ∨ s.wants.length = 2 ∨ s.wants.length = 3 ∨ s.wants.length = 4 ∨ s.wants.length = 5 := by omega
 refine W.ret r rfl rfl ?_
 refine ⟨?_, rfl⟩
 rcases this with e | e | e | e | e | e <;> rw [e] <;> rfl
theorem every_sp (v : Value) (L : LH) : Sp X 96 [v] L (fun v L' => v = .bool true ∧ L = L') := by
 refine Sp.enter (n := 3) Tryz.func96 rfl rfl rfl rfl fun C hX _ hL0 r => ?_
 refine W.go 99 rfl ?_
 exact W.ret r rfl rfl ⟨rfl, rfl⟩
end Go.Mz


set_option maxRecDepth 100000
namespace Go.Mz
open Go.Conc Go.Proofs
variable {X : Logic Tryz.prog}
theorem same_end {α : Type} [DecidableEq α] {a b : List α} {i : Nat} (h : a.take i = b.take i) (hi : i = a.length ∨ i = b.length) (h1 : i ≤ a.length) (h2 : i ≤ b.length) : ((a.length : Int) == (b.length : Int)) = decide (a = b) := by
 rw [Bool.eq_iff_iff, beq_iff_eq, decide_eq_true_eq]
 constructor
 ·intro e
  rw [List.take_of_length_le (by omega), List.take_of_length_le (by omega)] at h
  exact h
 ·rintro rfl; rfl
theorem take_next {α : Type} {a b : List α} {i : Nat} (h : a.take i = b.take i) (h1 : i < a.length) (h2 : i < b.length) (he : a[i] = b[i]) : a.take (i + 1) = b.take (i + 1) := by
 rw [List.take_succ_eq_append_getElem h1, List.take_succ_eq_append_getElem h2, h, he]
theorem EqInts_sp (pa pb : Option Addr) (ca cb : Nat) (a b : List Int) (L : LH) (ha : IntsAt L pa a) (hb : IntsAt L pb b) (na : a.length ≤ 1000000) (nb : b.length ≤ 1000000) :
  Sp X 35 [.slice pa a.length ca, .slice pb b.length cb] L (fun v L' => v = .bool (decide (a = b)) ∧ L = L') := by
 refine Sp.enter (n := 32) Tryz.func35 rfl rfl rfl rfl fun C hX _ hL0 r => ?_
 refine W.go 99 rfl ?_
 refine W.loop (fun m E B L' => ∃ (i : Nat), m = a.length - i ∧ i ≤ a.length ∧ i ≤ b.length ∧ a.take i = b.take i ∧ L = L' ∧
   E = [(0, .v (.slice pa a.length ca)), (1, .v (.slice pb b.length cb)), (5, .v (.int .i64 i))] ∧ B = [])
  ⟨0, rfl, by omega, by omega, rfl, rfl, rfl, rfl⟩ (by exact ⟨rfl, rfl, rfl, trivial⟩) trivial ?_
 rintro _ _ _ _ ⟨i, rfl, h1, h2, ht, rfl, rfl, rfl⟩ again
 refine W.go 99 rfl ?_
 refine W.split rfl rfl rfl (fun e1 => W.go 99 rfl ?_) (fun e1 => W.go 99 rfl ?_)
 ·have hia : i < a.length := by simpa using e1
  refine W.split rfl rfl rfl (fun e2 => W.go 99 rfl ?_) (fun e2 => W.go 99 rfl ?_)
  ·have hib : i < b.length := by simpa using e2
   obtain ⟨aa, rfl⟩ := ha.addr hia
   obtain ⟨ab, rfl⟩ := hb.addr hib
   refine W.drawn (by kernel_rfl) _ (Le.refl _) ?_
   refine DD.run' [0, 1, 4, 5] rfl ?_
   refine DD.vf 2 rfl rfl rfl rfl rfl (Vf.idx1 rfl rfl rfl rfl rfl rfl rfl (hia)) ?_
   refine DD.vf 3 rfl rfl rfl rfl rfl (Vf.load rfl rfl rfl (ha.int (List.getElem?_eq_getElem hia))) ?_
   refine DD.vf 6 rfl rfl rfl rfl rfl (Vf.idx1 rfl rfl rfl rfl rfl rfl rfl (hib)) ?_
   refine DD.vf 7 rfl rfl rfl rfl rfl (Vf.load rfl rfl rfl (hb.int (List.getElem?_eq_getElem hib))) ?_
   refine DD.run' [8] rfl ?_
   refine .fin rfl ?_
   refine W.go 99 rfl ?_
   refine W.split rfl rfl rfl (fun e3 => W.go 99 rfl ?_) (fun e3 => W.go 99 rfl ?_)
   ·refine W.ret r rfl rfl ?_
    have hne : a ≠ b := fun e => by subst e; simp at e3
    rw [decide_eq_false hne]
    exact ⟨rfl, rfl⟩
   ·exact W.again (again _ _ _ _ (by omega) ⟨i + 1, rfl, by omega, by omega, take_next ht hia hib (by simpa using e3), rfl, rfl, rfl⟩) ⟨rfl, rfl, congrArg some (inc64 (by omega)), trivial⟩ trivial
  ·refine W.ret r rfl rfl ?_
   have hib : i = b.length := by simp at e2; omega
   rw [← same_end ht (.inr hib) h1 h2]
   exact ⟨rfl, rfl⟩
 ·refine W.ret r rfl rfl ?_
  have hia : i = a.length := by simp at e1; omega
  rw [← same_end ht (.inl hia) h1 h2]
  exact ⟨rfl, rfl⟩
end Go.Mz

