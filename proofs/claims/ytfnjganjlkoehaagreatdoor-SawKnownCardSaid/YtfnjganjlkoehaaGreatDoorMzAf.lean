/- Lemmas on which the claim leans. -/
import Derived.Test.YtfnjganjlkoehaaGreatDoorMzAe
import Derived.Conc.Token
namespace Go.Mz
open Go.Conc Go.ConcN
open Go.ConcR (KK wgBlock WgAt stA smA rd wr mk Payload Aside2 DC0 Bk bk_of_mute)
structure Pool where
 P : Program
 ty : Nat
 W : Nat
 C : Nat
 D : Nat
 n : Nat
 base : Nat
 out : Nat → Value → LH → Prop
 mute : Nat → Prop
 ML : (Nat → Prop) → Goroutine → LH → Prop
 Anch : Goroutine → LH → Prop
 Fin : Goroutine → LH → Prop
abbrev Pool.Φ (p : Pool) : World → Prop := WgLive p.ty p.W
variable (p : Pool)
def AtDn (g : Goroutine) (L : LH) : Prop :=
 g.status = .running ∧ ∃ m cc v c e fz, L cc = some (.cells c e fz, true) ∧ c[0]? = some v ∧
  ∀ w, WgLive p.ty p.W w → Has cc 0 v w → Goes p.P false (RW p.ty p.W cc 1 0 0) (DWs p.W Own0 Own0 cc 1 1) (AtR0 p.P p.ty p.W cc 1 0 1 v) m g w
def AtSend (k : Nat) (g : Goroutine) (L : LH) : Prop :=
 g.status = .running ∧ ∃ v z g₂ Lk Gv, (∀ w, Sub L w → stepG p.P false g w = .comm g₂ #[scase p.C v z] true .send w #[]) ∧
  (∀ b x, Lk b = some x → L b = some x) ∧ (∀ b x, Gv b = some x → L b = some x) ∧ (∀ b, Lk b = none ∨ Gv b = none) ∧ p.out k v Gv ∧ Way p.P false p.Φ (AtDn p) (Go.Conc.served g₂ undef) Lk
def WStop (k : Nat) (g : Goroutine) (L : LH) : Prop := AtSend p k g L ∨ (p.mute k ∧ AtDn p g L)
inductive WSt (k : Nat) : Nat → Tree → Nat → Value → Nat → Goroutine → LH → World → Prop
 | own {T : Tree} {cc : Nat} {v : Value} {g : Goroutine} {L : LH} {w : World} : At p.P false p.Φ (WStop p k) T g L → WSt k 12 T cc v 0 g L w
 | park {cc : Nat} {v v' z : Value} {g : Goroutine} {L Lk Gv : LH} {w : World} : (∀ b x, Lk b = some x → L b = some x) → (∀ b x, Gv b = some x → L b = some x) → (∀ b, Lk b = none ∨ Gv b = none) → p.out k v' Gv →
   Way p.P false p.Φ (AtDn p) (Go.Conc.served g undef) Lk → WSt k 11 .leaf cc v 0 (parked g #[scase p.C v' z] .send) L w
 | post {T : Tree} {cc : Nat} {v : Value} {g : Goroutine} {L : LH} {w : World} : At p.P false p.Φ (AtDn p) T g L → WSt k 10 T cc v 0 g L w
 | lib {s m d : Nat} {cc : Nat} {v : Value} {g : Goroutine} {w : World} : LSit p.P p.ty p.W cc v s m d g w → WSt k s (Tree.num m) cc v d g LH.nil w
section
def KClose (g : Goroutine) (_ : LH) : Prop :=
 g.status = .running ∧ ∃ g' q, mayWake p.P g = true ∧ g'.status = .running ∧ (∀ w s r, w.heap[p.D]? = some (.chan 0 #[] false s r false) → stepG p.P false g w = .go g' (w.setChan p.D 0 #[] true s r false) (closeEvents p.D)) ∧ QuitsD p.P q 0 g'
def KAcq (g : Goroutine) (L : LH) : Prop := g.status = .running ∧ ∃ g', (∀ w, stepG p.P false g w = .go g' w #[mk (.acquire (stA p.W))]) ∧ Way p.P false p.Φ (KClose p) g' L
def KEnb (g : Goroutine) (L : LH) : Prop := g.status = .running ∧ ∃ g', (∀ w, stepG p.P false g w = .go g' w #[mk .enable]) ∧ Way p.P false p.Φ (KAcq p) g' L
def KL4 (g : Goroutine) (L : LH) : Prop := g.status = .running ∧ ∃ g', (∀ w, WgAt p.ty p.W w 0 0 → stepG p.P false g w = .go g' w #[rd (stA p.W)]) ∧ Way p.P false p.Φ (KEnb p) g' L
def KSem (g : Goroutine) (L : LH) : Prop :=
 g.status = .running ∧ g.offers = none ∧ (∀ w st, WgAt p.ty p.W w st 0 → stepG p.P false g w = .go { g with status := .blocked } w #[]) ∧
  ∃ g', (∀ w, WgAt p.ty p.W w 0 1 → stepG p.P false g w = .go g' (w.setCell (smA p.W) (.int .u32 0)) (semEvents (smA p.W))) ∧ Way p.P false p.Φ (KL4 p) g' L
def KSaid (g : Goroutine) (L : LH) : Prop := g.status = .running ∧ ∃ g', (∀ w, stepG p.P false g w = .go g' w #[mk (.write (smA p.W))]) ∧ Way p.P false p.Φ (KSem p) g' L
def KCas (vs : Nat) (g : Goroutine) (L : LH) : Prop :=
 g.status = .running ∧ (∃ g', (∀ w, WgAt p.ty p.W w ((vs : Int) * KK) 0 → stepG p.P false g w = .go g' (w.setCell (stA p.W) (.int .u64 ((vs : Int) * KK + 1))) #[rd (stA p.W), wr (stA p.W)]) ∧ Way p.P false p.Φ (KSaid p) g' L) ∧
  ∃ g', (∀ w (v : Nat), v ≠ vs → v < 2147483648 → WgAt p.ty p.W w ((v : Int) * KK) 0 → stepG p.P false g w = .go g' w #[rd (stA p.W)]) ∧ Way p.P false p.Φ p.Anch g' L
def KLd (g : Goroutine) (L : LH) : Prop :=
 g.status = .running ∧ (∃ g', (∀ w, WgAt p.ty p.W w 0 0 → stepG p.P false g w = .go g' w #[rd (stA p.W)]) ∧ Way p.P false p.Φ (KEnb p) g' L) ∧
  ∀ v : Nat, 0 < v → v < 2147483648 → ∃ g', (∀ w, WgAt p.ty p.W w ((v : Int) * KK) 0 → stepG p.P false g w = .go g' w #[rd (stA p.W)]) ∧ Way p.P false p.Φ (KCas p v) g' L
def KDis (g : Goroutine) (L : LH) : Prop := g.status = .running ∧ ∃ g', (∀ w, stepG p.P false g w = .go g' w #[mk .disable]) ∧ Way p.P false p.Φ (KLd p) g' L
end
inductive KSt : CTag → Nat → Tree → Nat → Goroutine → LH → Prop
 | dis {T : Tree} {g : Goroutine} {L : LH} : At p.P false p.Φ (KDis p) T g L → KSt .kd 0 T 0 g L
 | ld {T : Tree} {g : Goroutine} {L : LH} : At p.P false p.Φ (KLd p) T g L → KSt .w1 0 T 1 g L
 | cas {vs : Nat} {T : Tree} {g : Goroutine} {L : LH} : At p.P false p.Φ (KCas p vs) T g L → KSt (.w2 vs) 0 T 1 g L
 | said {T : Tree} {g : Goroutine} {L : LH} : At p.P false p.Φ (KSaid p) T g L → KSt .w3 1 T 1 g L
 | sem {T : Tree} {g : Goroutine} {L : LH} : At p.P false p.Φ (KSem p) T g L → KSt .w3 0 T 1 g L
 | blk {g : Goroutine} {L : LH} : KSem p g L → KSt .blk 0 .leaf 1 { g with status := .blocked } L
 | l4 {T : Tree} {g : Goroutine} {L : LH} : At p.P false p.Φ (KL4 p) T g L → KSt .w4 0 T 1 g L
 | enb {T : Tree} {g : Goroutine} {L : LH} : At p.P false p.Φ (KEnb p) T g L → KSt .ke 0 T 1 g L
 | acq {T : Tree} {g : Goroutine} {L : LH} : At p.P false p.Φ (KAcq p) T g L → KSt .acq 0 T 0 g L
 | cls {T : Tree} {g : Goroutine} {L : LH} : At p.P false p.Φ (KClose p) T g L → KSt .ret 1 T 0 g L
 | quit {q d : Nat} {g : Goroutine} {L : LH} : QuitsD p.P q d g → KSt .ret 0 (Tree.num q) d g L
def MGo (k : Nat) (Nx : Goroutine → LH → Prop) (g : Goroutine) (L : LH) : Prop :=
 g.status = .running ∧ ∃ g' child Lm Lc, (∀ w, Sub L w → stepG p.P true g w = .spawn g' child w #[]) ∧
  (∀ b o wr, Lm b = some (o, wr) → ∃ wr', L b = some (o, wr') ∧ (wr = true → wr' = true)) ∧ (∀ b o wr, Lc b = some (o, wr) → ∃ wr', L b = some (o, wr') ∧ (wr = true → wr' = true)) ∧
  (∀ b o, Lm b = some (o, true) → Lc b = none) ∧ (∀ b o, Lc b = some (o, true) → Lm b = none) ∧ Way p.P false p.Φ (WStop p k) child Lc ∧ Nx g' Lm
def MEn (k : Nat) (Nx : Goroutine → LH → Prop) (g : Goroutine) (L : LH) : Prop := g.status = .running ∧ ∃ g', (∀ w, stepG p.P true g w = .go g' w #[mk .enable]) ∧ Way p.P true p.Φ (MGo p k Nx) g' L
def MSaid (k : Nat) (Nx : Goroutine → LH → Prop) (g : Goroutine) (L : LH) : Prop := g.status = .running ∧ ∃ g', (∀ w, stepG p.P true g w = .go g' w #[mk (.read (smA p.W))]) ∧ Way p.P true p.Φ (MEn p k Nx) g' L
def MAdd (k : Nat) (Nx : Goroutine → LH → Prop) (g : Goroutine) (L : LH) : Prop :=
 g.status = .running ∧ ∀ v : Nat, v < 2147483647 → ∃ g', (∀ w, WgAt p.ty p.W w ((v : Int) * KK) 0 → stepG p.P true g w = .go g' (w.setCell (stA p.W) (.int .u64 (((v : Int) + 1) * KK))) #[rd (stA p.W), wr (stA p.W)]) ∧
  (Way p.P true p.Φ (MSaid p k Nx) g' L ∨ Way p.P true p.Φ (MEn p k Nx) g' L)
def MKd (k : Nat) (Nx : Goroutine → LH → Prop) (g : Goroutine) (L : LH) : Prop := g.status = .running ∧ ∃ g', (∀ w, stepG p.P true g w = .go g' w #[mk .disable]) ∧ Way p.P true p.Φ (MAdd p k Nx) g' L
def MGoK (g : Goroutine) (L : LH) : Prop :=
 g.status = .running ∧ ∃ g' child Lm Lc, (∀ w, Sub L w → stepG p.P true g w = .spawn g' child w #[]) ∧
  (∀ b o wr, Lm b = some (o, wr) → ∃ wr', L b = some (o, wr') ∧ (wr = true → wr' = true)) ∧ (∀ b o wr, Lc b = some (o, wr) → ∃ wr', L b = some (o, wr') ∧ (wr = true → wr' = true)) ∧
  (∀ b o, Lm b = some (o, true) → Lc b = none) ∧ (∀ b o, Lc b = some (o, true) → Lm b = none) ∧ Way p.P false p.Φ (KDis p) child Lc ∧ Way p.P true p.Φ (p.ML fun _ => False) g' Lm
def MSp : Nat → Goroutine → LH → Prop
 | 0 => Way p.P true p.Φ (MGoK p)
 | r + 1 => Way p.P true p.Φ (MKd p (p.n - (r + 1)) (MSp r))
structure SelAt (R : Nat → Prop) (g : Goroutine) (L : LH) (g₂ : Goroutine) (cs : Array CommCase) (shape : CommShape) (kf kd : Nat) (zf zd : Value) : Prop where
 run : g.status = .running
 comm : ∀ w, Sub L w → stepG p.P true g w = .comm g₂ cs true shape w #[]
 again : ∀ w, Sub L w → stepG p.P true { g₂ with status := .running } w = .comm g₂ cs true shape w #[]
 f : cs[kf]? = some (rcase p.C zf)
 d : cs[kd]? = some (rcase p.D zd)
 no : ∀ m c, cs[m]? = some c → m = kf ∨ m = kd
 one : p.C = p.D ↔ kf = kd
 take : ∀ k v Gv, k < p.n → ¬ R k → p.out k v Gv → (∀ b o, Gv b = some (o, true) → L b = none) → Way p.P true p.Φ (p.ML fun i => R i ∨ i = k) (g₂.finishComm p.P cs shape kf v true) (L.join Gv)
 fin : (∀ k, k < p.n → R k ∨ p.mute k) → p.Fin (g₂.finishComm p.P cs shape kd zd false) L
inductive MTag where
 | kd (r : Nat) | add (r : Nat) | said (r : Nat) | en (r : Nat) | go (r : Nat) | gok | sel | park
inductive MSt : MTag → (Nat → Prop) → Tree → Nat → Goroutine → LH → Prop
 | kd {r : Nat} {R : Nat → Prop} {T : Tree} {g : Goroutine} {L : LH} : At p.P true p.Φ (MKd p (p.n - (r + 1)) (MSp p r)) T g L → MSt (.kd r) R T 0 g L
 | add {r : Nat} {R : Nat → Prop} {T : Tree} {g : Goroutine} {L : LH} : At p.P true p.Φ (MAdd p (p.n - (r + 1)) (MSp p r)) T g L → MSt (.add r) R T 1 g L
 | said {r : Nat} {R : Nat → Prop} {T : Tree} {g : Goroutine} {L : LH} : At p.P true p.Φ (MSaid p (p.n - (r + 1)) (MSp p r)) T g L → MSt (.said r) R T 1 g L
 | en {r : Nat} {R : Nat → Prop} {T : Tree} {g : Goroutine} {L : LH} : At p.P true p.Φ (MEn p (p.n - (r + 1)) (MSp p r)) T g L → MSt (.en r) R T 1 g L
 | go {r : Nat} {R : Nat → Prop} {T : Tree} {g : Goroutine} {L : LH} : At p.P true p.Φ (MGo p (p.n - (r + 1)) (MSp p r)) T g L → MSt (.go r) R T 0 g L
 | gok {R : Nat → Prop} {T : Tree} {g : Goroutine} {L : LH} : At p.P true p.Φ (MGoK p) T g L → MSt .gok R T 0 g L
 | sel {R : Nat → Prop} {T : Tree} {g : Goroutine} {L : LH} : At p.P true p.Φ (p.ML R) T g L → MSt .sel R T 0 g L
 | again {R : Nat → Prop} {g g₂ : Goroutine} {L : LH} {cs : Array CommCase} {shape : CommShape} {kf kd : Nat} {zf zd : Value} : SelAt p R g L g₂ cs shape kf kd zf zd → MSt .sel R .leaf 0 { parked g₂ cs shape with status := .running } L
 | park {R : Nat → Prop} {g g₂ : Goroutine} {L : LH} {cs : Array CommCase} {shape : CommShape} {kf kd : Nat} {zf zd : Value} : SelAt p R g L g₂ cs shape kf kd zf zd → MSt .park R .leaf 0 (parked g₂ cs shape) L
variable {p}
theorem WStop.run {k : Nat} {g : Goroutine} {L : LH} (h : WStop p k g L) : g.status = .running := h.elim (·.1) (·.2.1)
theorem WSt.status {k s : Nat} {T : Tree} {cc : Nat} {v : Value} {d : Nat} {g : Goroutine} {L : LH} {w : World} (h : WSt p k s T cc v d g L w) : g.status = .running ∨ g.status = .finished ∨ (s = 11 ∧ ∃ g₀ v' z, g = parked g₀ #[scase p.C v' z] .send) := by
 cases h with
 | own h => exact .inl (h.running fun _ _ x => x.run)
 | park => exact .inr (.inr ⟨rfl, _, _, _, rfl⟩)
 | post h => exact .inl (h.running fun _ _ x => x.1)
 | lib h => exact (WSit.status h).imp id .inl
theorem WSt.woken {k s : Nat} {T : Tree} {cc : Nat} {v : Value} {d : Nat} {g : Goroutine} {L : LH} {w w' : World} (h : WSt p k s T cc v d g L w) {a a' : Goroutine} {s₁ r₁ : Nat} (hc : s = 11 → w'.heap[p.C]? = some (.chan 0 #[] false s₁ r₁ false)) : woken p.P a a' w' g = g := by
 rcases h.status with e | e | ⟨e, g₀, v', z, rfl⟩
 ·unfold Go.Conc.woken; split
  ·exact again_running _ (.inl e)
  ·rfl
 ·unfold Go.Conc.woken; split
  ·exact again_running _ (.inr e)
  ·rfl
 ·exact woken_send_open a a' (hc e)
theorem WSt.rely {k s : Nat} {T : Tree} {cc : Nat} {v : Value} {d : Nat} {g : Goroutine} {L : LH} {w w' : World} (h : WSt p k s T cc v d g L w) (hb : s ≤ 7 → w'.heap[cc]? = w.heap[cc]?) (hw : WgLive p.ty p.W w → WgLive p.ty p.W w') (hs : s ≤ 7 ∨ 10 ≤ s) : WSt p k s T cc v d g L w' := by
 cases h with
 | own h => exact .own h
 | park h1 h2 h3 h4 h5 => exact .park h1 h2 h3 h4 h5
 | post h => exact .post h
 | lib h =>
  rcases hs with hs | hs
  ·exact .lib (lib_rely h (hb hs) hw)
  ·cases h <;> omega
end Go.Mz


namespace Go.Mz
open Go.Conc Go.ConcN
open Go.ConcR (KK wgBlock WgAt stA smA rd wr mk Payload Aside2 DC0 Bk bk_of_mute)
variable {p : Pool}
theorem woken_awake {P : Program} {a a' g : Goroutine} {w' : World} (h : g.status = .running ∨ g.status = .finished) : woken P a a' w' g = g := by
 unfold Go.Conc.woken; split
 ·exact again_running _ h
 ·rfl
theorem KSt.status {kt : CTag} {kx : Nat} {T : Tree} {d : Nat} {g : Goroutine} {L : LH} (h : KSt p kt kx T d g L) : (kt ≠ .blk ∧ (g.status = .running ∨ g.status = .finished)) ∨ (kt = .blk ∧ kx = 0 ∧ T = .leaf ∧ d = 1 ∧ ∃ g₀, g = { g₀ with status := .blocked } ∧ KSem p g₀ L) := by
 cases h with
 | blk h => exact .inr ⟨rfl, rfl, rfl, rfl, _, rfl, h⟩
 | quit h => exact .inl ⟨by simp, h.status⟩
 | _ h => exact .inl ⟨by simp, .inl (h.running fun _ _ x => x.1)⟩
theorem KSt.woken {kt : CTag} {kx : Nat} {T : Tree} {d : Nat} {g : Goroutine} {L : LH} (h : KSt p kt kx T d g L) (P : Program) (a a' : Goroutine) (w' : World) :
  ∃ kt', KSt p kt' kx T d (woken P a a' w' g) L ∧ (kt' = kt ∨ (kt = .blk ∧ kt' = .w3)) ∧ (mayWake P a = true → a'.status = .running → kt' ≠ .blk) := by
 rcases h.status with ⟨h1, h2⟩ | ⟨rfl, rfl, rfl, rfl, g₀, rfl, hs⟩
 ·rw [woken_awake h2]
  exact ⟨kt, h, .inl rfl, fun _ _ => h1⟩
 ·by_cases hw : (mayWake P a && a'.status != .blocked && a'.status != .waiting) = true
  ·refine ⟨.w3, ?_, .inr ⟨rfl, rfl⟩, fun _ _ => by simp⟩
   have : Go.Conc.woken P a a' w' { g₀ with status := .blocked } = g₀ := by
    unfold Go.Conc.woken
    rw [if_pos hw]
    obtain ⟨h1, h2, _⟩ := hs
    cases g₀
    simp_all [Goroutine.again]
   rw [this]
   exact .sem (.of_stop hs)
  ·refine ⟨.blk, ?_, .inl rfl, fun h1 h2 => ?_⟩
   ·have : Go.Conc.woken P a a' w' { g₀ with status := .blocked } = { g₀ with status := .blocked } := by
     unfold Go.Conc.woken
     rw [if_neg hw]
    rw [this]
    exact .blk hs
   ·exact absurd (by simp [h1, h2]) hw
theorem SelAt.open {R : Nat → Prop} {g g₂ : Goroutine} {L : LH} {cs : Array CommCase} {shape : CommShape} {kf kd : Nat} {zf zd : Value} {w : World} (h : SelAt p R g L g₂ cs shape kf kd zf zd) {s₁ r₁ s₂ r₂ : Nat}
  (hc : w.heap[p.C]? = some (.chan 0 #[] false s₁ r₁ false)) (hd : w.heap[p.D]? = some (.chan 0 #[] false s₂ r₂ false)) :
  ∀ cc ∈ cs, ∃ c z cap buf s r tm, cc = rcase c z ∧ w.heap[c]? = some (.chan cap buf false s r tm) := by
 intro cc hcc
 obtain ⟨m, hm⟩ := Array.mem_iff_getElem?.1 hcc
 rcases h.no m cc hm with rfl | rfl
 ·rw [h.f] at hm; cases hm; exact ⟨_, _, _, _, _, _, _, rfl, hc⟩
 ·rw [h.d] at hm; cases hm; exact ⟨_, _, _, _, _, _, _, rfl, hd⟩
theorem MSt.status {mt : MTag} {R : Nat → Prop} {T : Tree} {d : Nat} {g : Goroutine} {L : LH} (hML : ∀ R g L, p.ML R g L → g.status = .running) (h : MSt p mt R T d g L) :
  (mt ≠ .park ∧ g.status = .running) ∨ (mt = .park ∧ T = .leaf ∧ d = 0 ∧ ∃ g₀ g₂ cs shape kf kd zf zd, g = parked g₂ cs shape ∧ SelAt p R g₀ L g₂ cs shape kf kd zf zd) := by
 cases h with
 | park h => exact .inr ⟨rfl, rfl, rfl, _, _, _, _, _, _, _, _, rfl, h⟩
 | again h => exact .inl ⟨by simp, rfl⟩
 | sel h => exact .inl ⟨by simp, h.running fun _ _ x => hML _ _ _ x⟩
 | _ h => exact .inl ⟨by simp, h.running fun _ _ x => x.1⟩
theorem MSt.woken {mt : MTag} {R : Nat → Prop} {T : Tree} {d : Nat} {g : Goroutine} {L : LH} (hML : ∀ R g L, p.ML R g L → g.status = .running) (h : MSt p mt R T d g L) (a a' : Goroutine) {w' : World}
  (ho : mt = .park → ∃ s₁ r₁ s₂ r₂, w'.heap[p.C]? = some (.chan 0 #[] false s₁ r₁ false) ∧ w'.heap[p.D]? = some (.chan 0 #[] false s₂ r₂ false)) : woken p.P a a' w' g = g := by
 rcases h.status hML with ⟨_, e⟩ | ⟨e, _, _, g₀, g₂, cs, shape, kf, kd, zf, zd, rfl, hs⟩
 ·exact woken_awake (.inl e)
 ·obtain ⟨s₁, r₁, s₂, r₂, hc, hd⟩ := ho e
  unfold Go.Conc.woken; split
  ·exact again_all_open (hs.open hc hd)
  ·rfl
structure Cast (p : Pool) (gs : Array Goroutine) (w : World) (t : Trace) (j : Nat) (ks : Bool) (st : Nat → Nat) (F : Nat → Tree) (cc : Nat → Nat) (cv : Nat → Value) (q : Nat → Nat) (kt : CTag) (kx : Nat) (mt : MTag) (R : Nat → Prop) (Ls : Nat → LH) (x : Nat) : Prop where
 old : ∀ i g, 0 < i → i < p.base → i ≠ x → gs[i]? = some g → QuitsD p.P (q i) (Deaf t i) g ∧ F i = Tree.num (q i)
 wk : ∀ k, k < j → p.base + k ≠ x → ∃ g, gs[p.base + k]? = some g ∧ WSt p k (st k) (F (p.base + k)) (cc k) (cv k) (Deaf t (p.base + k)) g (Ls (p.base + k)) w
 cl : ks = true → p.base + p.n ≠ x → ∃ g, gs[p.base + p.n]? = some g ∧ KSt p kt kx (F (p.base + p.n)) (Deaf t (p.base + p.n)) g (Ls (p.base + p.n))
 mn : 0 ≠ x → ∃ a, gs[0]? = some a ∧ MSt p mt R (F 0) (Deaf t 0) a (Ls 0)
section
variable {gs : Array Goroutine} {w w' : World} {t u : Trace} {j : Nat} {ks : Bool} {st : Nat → Nat} {F F' : Nat → Tree} {cc : Nat → Nat} {cv : Nat → Value} {q : Nat → Nat} {kt : CTag} {kx : Nat} {mt : MTag} {R : Nat → Prop} {Ls Ls' : Nat → LH} {x : Nat}
theorem Cast.step (hML : ∀ R g L, p.ML R g L → g.status = .running) (h : Cast p gs w t j ks st F cc cv q kt kx mt R Ls x) (g g' : Goroutine)
  (hu : ∀ op ∈ u, op.g = x) (hF : ∀ i, i ≠ x → F' i = F i) (hL : ∀ i, i ≠ x → Ls' i = Ls i)
  (hC : (∃ k, k < j ∧ p.base + k ≠ x ∧ st k = 11) ∨ mt = .park → ∃ s₁ r₁ s₂ r₂, w'.heap[p.C]? = some (.chan 0 #[] false s₁ r₁ false) ∧ w'.heap[p.D]? = some (.chan 0 #[] false s₂ r₂ false))
  (hcc : ∀ k, k < j → p.base + k ≠ x → st k ≤ 7 → w'.heap[cc k]? = w.heap[cc k]?) (hst : ∀ k, k < j → st k ≤ 7 ∨ 10 ≤ st k) (hw : WgLive p.ty p.W w → WgLive p.ty p.W w') :
  ∃ kt', Cast p ((gs.map (woken p.P g g' w')).setIfInBounds x g') w' (t ++ u) j ks st F' cc cv q kt' kx mt R Ls' x ∧ (kt' = kt ∨ (kt = .blk ∧ kt' = .w3)) ∧ (x ≠ p.base + p.n → ks = true → mayWake p.P g = true → g'.status = .running → kt' ≠ .blk) := by
 have get : ∀ i, i ≠ x → ((gs.map (woken p.P g g' w')).setIfInBounds x g')[i]? = (gs[i]?).map (woken p.P g g' w') := fun i hi => by
  rw [Array.getElem?_setIfInBounds_ne (Ne.symm hi), Array.getElem?_map]
 have dea : ∀ i, i ≠ x → Deaf (t ++ u) i = Deaf t i := fun i hi => Deaf_other t (Ne.symm hi) u hu
 obtain ⟨kt', hkt, hcl⟩ : ∃ kt', ((kt' = kt ∨ (kt = .blk ∧ kt' = .w3)) ∧ (x ≠ p.base + p.n → ks = true → mayWake p.P g = true → g'.status = .running → kt' ≠ .blk)) ∧
   (ks = true → p.base + p.n ≠ x → ∃ y, ((gs.map (woken p.P g g' w')).setIfInBounds x g')[p.base + p.n]? = some y ∧ KSt p kt' kx (F' (p.base + p.n)) (Deaf (t ++ u) (p.base + p.n)) y (Ls' (p.base + p.n))) := by
  by_cases hk : ks = true ∧ p.base + p.n ≠ x
  ·obtain ⟨y, hy, hs⟩ := h.cl hk.1 hk.2
   obtain ⟨kt', h1, h2, h3⟩ := hs.woken p.P g g' w'
   exact ⟨kt', ⟨h2, fun _ _ => h3⟩, fun _ hne => ⟨_, by rw [get _ hne, hy]; rfl, by rw [hF _ hne, hL _ hne, dea _ hne]; exact h1⟩⟩
  ·exact ⟨kt, ⟨.inl rfl, fun h1 h2 => absurd ⟨h2, Ne.symm h1⟩ hk⟩, fun h1 h2 => absurd ⟨h1, h2⟩ hk⟩
 refine ⟨kt', ⟨fun i y hi hb hx hy => ?_, fun k hk hx => ?_, hcl, fun hx => ?_⟩, hkt⟩
 ·rw [get i hx] at hy
  obtain ⟨z, hz, rfl⟩ := Option.map_eq_some_iff.1 hy
  obtain ⟨h1, h2⟩ := h.old i z hi hb hx hz
  rw [woken_quitsD h1, dea i hx, hF i hx]
  exact ⟨h1, h2⟩
 ·obtain ⟨z, hz, hs⟩ := h.wk k hk hx
  have ew : woken p.P g g' w' z = z := by
   by_cases e : st k = 11
   ·obtain ⟨s₁, r₁, _, _, hc, _⟩ := hC (.inl ⟨k, hk, hx, e⟩)
    exact hs.woken (s₁ := s₁) (r₁ := r₁) fun _ => hc
   ·exact hs.woken (s₁ := 0) (r₁ := 0) fun e' => absurd e' e
  refine ⟨z, by rw [get _ hx, hz, Option.map_some, ew], ?_⟩
  rw [dea _ hx, hF _ hx, hL _ hx]
  exact hs.rely (hcc k hk hx) hw (hst k hk)
 ·obtain ⟨a, ha, hs⟩ := h.mn hx
  have ew : woken p.P g g' w' a = a := hs.woken hML g g' fun e => hC (.inr e)
  refine ⟨a, by rw [get _ hx, ha, Option.map_some, ew], ?_⟩
  rw [dea _ hx, hF _ hx, hL _ hx]
  exact hs
end
end Go.Mz


namespace Go.Mz
open Go.Conc Go.ConcN
open Go.ConcR (KK wgBlock WgAt stA smA rd wr mk Payload Aside2 DC0 Bk bk_of_mute)
variable (p : Pool)
def stg (st : Nat → Nat) : Nat → WD := fun k => ⟨min (st k) 7, 0, 0⟩
def tagOf (kt : CTag) : MTag → CTag
 | .kd r | .add r => .sp r 5
 | .said r | .en r | .go r => .sp r 3
 | .gok => .kd
 | .sel | .park => kt
def jOk (n j : Nat) (ks : Bool) : MTag → Prop
 | .kd r | .add r | .said r | .en r | .go r => j + (r + 1) = n ∧ ks = false
 | .gok => j = n ∧ ks = false
 | .sel | .park => j = n ∧ ks = true
def closedAt (kt : CTag) (kx : Nat) : Bool := match kt, kx with | .ret, 0 => true | _, _ => false
structure Trc (S0 : Nat → Prop) (n0 : Nat) (size : Nat) (t : Trace) : Prop where
 len : n0 ≤ t.size
 known : ∀ i a b, i < n0 → touchAt t i = some a → blkOf a.loc = some b → Knows t 0 i ∨ (S0 b ∧ a.kind = .atomic)
 over : ∀ i g, i < n0 → t.g? i = some g → g ≠ 0 → t.counts i → ∃ j, t.g? j = some 0 ∧ HappensBefore t i j
 who : ∀ i op, n0 ≤ i → t[i]? = some op → op.act.touch? ≠ none → op.g = 0 ∨ (p.base ≤ op.g ∧ op.g < size)
 norel : ∀ i, n0 ≤ i → t.act? i ≠ some (.mark (.release (stA p.W)))
 atm : ∀ i a b, n0 ≤ i → touchAt t i = some a → a.kind ≠ .plain → blkOf a.loc = some b → b = p.W ∨ b = p.D
def AcqK (n0 : Nat) (t : Trace) (qp : Nat) : Prop :=
 t.act? qp = some (.mark (.acquire (stA p.W))) ∧ t.g? qp = some (p.base + p.n) ∧ t.heard qp ∧ ∀ k, k < p.n → ∃ r, n0 ≤ r ∧ RelBy (stA p.W) t (p.base + k) r ∧ r < qp
def ClsK (t : Trace) (qp : Nat) : Prop :=
 ∃ c, t.act? c = some (.close p.D) ∧ t.g? c = some (p.base + p.n) ∧ t.heard c ∧ qp < c ∧ ∀ i op, t[i]? = some op → op.g = p.base + p.n → op.act.touch? ≠ none → i < c
structure Sit (W0 : World) (S0 : Nat → Prop) (n0 : Nat) (gs : Array Goroutine) (w : World) (t : Trace) (j : Nat) (ks : Bool) (st : Nat → Nat) (F : Nat → Tree) (cc : Nat → Nat) (cv : Nat → Value) (q : Nat → Nat) (kt : CTag) (kx : Nat) (mt : MTag) (R : Nat → Prop)
  (Ls : Nat → LH) (Sh : Nat → Prop) (sv mv : Int) : Prop where
 cast : Cast p gs w t j ks st F cc cv q kt kx mt R Ls gs.size
 size : gs.size = p.base + j + ks.toNat
 base1 : 1 ≤ p.base
 jn : j ≤ p.n
 nn : p.n < 2147483647
 jm : jOk p.n j ks mt
 kk : ks = false → kt = .kd ∧ kx = 0
 stages : ∀ k, k < j → st k ≤ 7 ∨ 10 ≤ st k
 above : ∀ i, gs.size ≤ i → Deaf t i = 0
 res : Res Ls Sh (fun b => b = p.W ∨ b = p.D) (fun i => i = 0 ∨ (p.base ≤ i ∧ i < gs.size)) w t
 shW : Sh p.W
 shC : Sh p.C
 shD : Sh p.D
 sh0 : ∀ b, S0 b → Sh b
 neC : p.W ≠ p.C
 neD : p.W ≠ p.D
 lib : ∀ k, k < j → st k ≤ 7 → Sh (cc k) ∧ cc k ≠ p.W ∧ cc k ≠ p.C ∧ cc k ≠ p.D ∧ ∀ k', k' < j → k' ≠ k → st k' ≤ 7 → cc k' ≠ cc k
 same : Same W0 w
 wg : WgAt p.ty p.W w sv mv
 mode : ConcN.Mode j (stg st) (tagOf kt mt) sv mv
 ch : ∃ s, w.heap[p.C]? = some (.chan 0 #[] (decide (p.C = p.D) && closedAt kt kx) s s false)
 cd : ∃ s, w.heap[p.D]? = some (.chan 0 #[] (closedAt kt kx) s s false)
 mpark : mt = .park → closedAt kt kx = false
 pk : mt = .park → ∀ k, k < j → st k ≠ 11
 rel : ∀ k, k < j → st k ≤ 6 → ∃ r, n0 ≤ r ∧ RelBy (stA p.W) t (p.base + k) r
 said : ∀ idx a, touchAt t idx = some a → a.loc = .cell (smA p.W) → a.kind = .said → (ks = false → Knows t 0 idx) ∧ (ks = true → Knows t (p.base + p.n) idx)
 acq : kt = .ret → ∃ qp, AcqK p n0 t qp ∧ (kx = 0 → ClsK p t qp)
 nr : ∀ k, k < p.n → ¬ R k → k < j → 11 ≤ st k ∨ (st k ≤ 7 ∧ p.mute k)
 rr : ∀ k, R k → k < j ∧ st k ≤ 10
 r0 : ks = false → ∀ k, ¬ R k
 trc : Trc p S0 n0 gs.size t
def krank (n v : Nat) (ks : Bool) : CTag → Nat → Nat
 | .kd, _ => if ks then 8 * n + 20 else 8 * n + 30
 | .w1, _ => 8 * v + 13
 | .w2 vs, _ => 8 * vs + 12
 | .w3, x => 6 + x
 | .blk, _ => 6
 | .w4, _ => 5
 | .ke, _ => 4
 | .acq, _ => 3
 | .ret, x => 1 + x
 | _, _ => 0
def mrank : MTag → Nat
 | .kd r => 6 * (r + 1) + 9
 | .add r => 6 * (r + 1) + 8
 | .said r => 6 * (r + 1) + 7
 | .en r => 6 * (r + 1) + 6
 | .go r => 6 * (r + 1) + 5
 | .gok => 9
 | .sel => 2
 | .park => 1
def wsum (n j : Nat) (st : Nat → Nat) : Nat := sumTo n fun k => if k < j then st k else 13
def bit (kt : CTag) (kx : Nat) : Nat := match kt, kx with | .w3, 0 => 1 | _, _ => 0
abbrev Meas := (Nat × (Nat → Tree)) × Nat
def MLt (N : Nat) : Meas → Meas → Prop := Prod.Lex (TeamLt N) (· < ·)
theorem MLt.wf (N : Nat) : WellFounded (MLt N) := ⟨fun x => Prod.lexAccessible ((TeamLt.wf N).apply x.1) (fun b => Nat.lt_wfRel.wf.apply b) x.2⟩
def meas (j : Nat) (ks : Bool) (st : Nat → Nat) (F : Nat → Tree) (kt : CTag) (kx : Nat) (mt : MTag) : Meas :=
 ((4 * wsum p.n j st + 4 * krank p.n (Vc j (stg st)) ks kt kx + mrank mt, F), bit kt kx)
def PInv (W0 : World) (S0 : Nat → Prop) (n0 : Nat) (μ : Meas) (m : Machine) (t : Trace) : Prop :=
 ∃ gs w sl j ks st F cc cv q kt kx mt R Ls Sh sv mv, m = crowd gs w sl ∧ Sit p W0 S0 n0 gs w t j ks st F cc cv q kt kx mt R Ls Sh sv mv ∧ μ = meas p j ks st F kt kx mt
variable {p}
section
variable {S0 : Nat → Prop} {n0 size : Nat} {t u : Trace}
theorem Trc.app (h : Trc p S0 n0 size t) {x : Nat} (hg : ∀ op ∈ u, op.g = x) (hx : (x = 0 ∨ (p.base ≤ x ∧ x < size)) ∨ ∀ op ∈ u, op.act.touch? = none) (hr : ∀ op ∈ u, op.act ≠ .mark (.release (stA p.W)))
  (ha : ∀ op ∈ u, ∀ x, op.act.touch? = some x → x.kind ≠ .plain → ∃ b, blkOf x.loc = some b ∧ (b = p.W ∨ b = p.D)) : Trc p S0 n0 size (t ++ u) where
 len := by have := h.len; rw [Array.size_append]; omega
 known := fun i a b hi ha hb => by
  have hit : i < t.size := Nat.lt_of_lt_of_le hi h.len
  rw [touchAt_old hit] at ha
  exact (h.known i a b hi ha hb).imp (·.app u) id
 over := fun i g hi hgi hne hc => by
  have hit : i < t.size := Nat.lt_of_lt_of_le hi h.len
  rw [g?_old hit] at hgi
  obtain ⟨j, hj, hb⟩ := h.over i g hi hgi hne ((counts_old hit).1 hc)
  have hjl : j < t.size := by
   unfold Trace.g? at hj
   obtain ⟨z, hz, _⟩ := Option.map_eq_some_iff.1 hj
   exact lt_size_of_getElem? hz
  exact ⟨j, by rw [g?_old hjl]; exact hj, hb_app u hb⟩
 who := fun i op hi ho ht => by
  rcases getElem?_append_cases ho with ⟨_, ho'⟩ | ⟨_, hou⟩
  ·exact h.who i op hi ho' ht
  ·rcases hx with hx | hx
   ·rw [hg op hou]; exact hx
   ·exact absurd (hx op hou) ht
 norel := fun i hi ha => by
  obtain ⟨op, ho, hoa⟩ := Option.map_eq_some_iff.1 ha
  rcases getElem?_append_cases ho with ⟨_, ho'⟩ | ⟨_, hou⟩
  ·exact h.norel i hi (by rw [act?_of ho', hoa])
  ·exact hr op hou hoa
 atm := fun i a b hi hat hk hb => by
  obtain ⟨x, hx, hxa⟩ := touch_of hat
  rcases getElem?_append_cases hx with ⟨_, hx'⟩ | ⟨_, hxu⟩
  ·exact h.atm i a b hi (by rw [touchAt_of hx']; exact hxa) hk hb
  ·obtain ⟨b', h1, h2⟩ := ha x hxu a hxa hk
   rw [hb] at h1; cases h1; exact h2
theorem Trc.more {size' : Nat} (h : Trc p S0 n0 size t) (hs : size ≤ size') : Trc p S0 n0 size' t :=
 ⟨h.len, h.known, h.over, fun i op hi ho ht => (h.who i op hi ho ht).imp id fun x => ⟨x.1, Nat.lt_of_lt_of_le x.2 hs⟩, h.norel, h.atm⟩
theorem AcqK.app {qp : Nat} (h : AcqK p n0 t qp) (hu : ∀ k r, k < p.n → RelBy (stA p.W) t (p.base + k) r → RelBy (stA p.W) (t ++ u) (p.base + k) r) : AcqK p n0 (t ++ u) qp := by
 obtain ⟨h1, h2, h3, h4⟩ := h
 have hq := lt_of_act? h1
 exact ⟨by rw [act?_old hq]; exact h1, by rw [g?_old hq]; exact h2, (heard_old hq).2 h3, fun k hk => let ⟨r, hn, hr, hrq⟩ := h4 k hk; ⟨r, hn, hu k r hk hr, hrq⟩⟩
theorem ClsK.app {qp : Nat} (h : ClsK p t qp) (hu : ∀ op ∈ u, op.g = p.base + p.n → op.act.touch? = none) : ClsK p (t ++ u) qp := by
 obtain ⟨c, h1, h2, h3, h4, h5⟩ := h
 have hc := lt_of_act? h1
 refine ⟨c, by rw [act?_old hc]; exact h1, by rw [g?_old hc]; exact h2, (heard_old hc).2 h3, h4, fun i op ho hg ht => ?_⟩
 rcases getElem?_append_cases ho with ⟨_, ho'⟩ | ⟨_, hou⟩
 ·exact h5 i op ho' hg ht
 ·exact absurd (hu op hou hg) ht
end
theorem Way.bind {P : Program} {mn : Bool} {Φ : World → Prop} {S1 S2 : Goroutine → LH → Prop} {g : Goroutine} {L : LH} (h : Way P mn Φ S1 g L) (f : ∀ g L, S1 g L → Way P mn Φ S2 g L) : Way P mn Φ S2 g L := by
 obtain ⟨x⟩ := h
 induction x with
 | stop h => exact f _ _ h
 | own hr nx h k ih => exact ⟨.own hr nx h fun w hw => Classical.choice (ih w hw)⟩
end Go.Mz


namespace Go.Mz
open Go.Conc Go.ConcN
open Go.ConcR (KK wgBlock WgAt stA smA rd wr mk Payload Aside2 DC0 Bk bk_of_mute)
variable {p : Pool}
def Takes (p : Pool) : Prop := ∀ R g L, p.ML R g L → g.status = .running ∧ ∃ g₂ cs shape kf kd zf zd, SelAt p R g L g₂ cs shape kf kd zf zd
theorem closed_iff {kt : CTag} {kx : Nat} (h : closedAt kt kx = true) : kt = .ret ∧ kx = 0 := by
 unfold closedAt at h
 split at h
 ·exact ⟨rfl, rfl⟩
 ·cases h
theorem sumTo_mono {f f' : Nat → Nat} : ∀ {n : Nat}, (∀ k, k < n → f' k ≤ f k) → sumTo n f' ≤ sumTo n f
 | 0, _ => Nat.le_refl _
 | n + 1, h => by
  have h1 := sumTo_mono (n := n) fun k hk => h k (by omega)
  have h2 := h n (by omega)
  simp only [sumTo]
  omega
theorem sumTo_less {f f' : Nat → Nat} {i : Nat} : ∀ {n : Nat}, i < n → (∀ k, k < n → f' k ≤ f k) → f' i < f i → sumTo n f' < sumTo n f
 | 0, h, _, _ => absurd h (Nat.not_lt_zero _)
 | n + 1, h, hm, hl => by
  have h2 := hm n (by omega)
  by_cases e : i = n
  ·subst e
   have h1 := sumTo_mono (n := i) fun k hk => hm k (by omega)
   simp only [sumTo]; omega
  ·have h1 := sumTo_less (n := n) (by omega) (fun k hk => hm k (by omega)) hl
   simp only [sumTo]; omega
section
variable {W0 : World} {S0 : Nat → Prop} {n0 : Nat} {gs : Array Goroutine} {w : World} {t : Trace} {j : Nat} {ks : Bool} {st : Nat → Nat} {F : Nat → Tree} {cc : Nat → Nat} {cv : Nat → Value} {q : Nat → Nat} {kt : CTag} {kx : Nat} {mt : MTag} {R : Nat → Prop}
  {Ls : Nat → LH} {Sh : Nat → Prop} {sv mv : Int}
theorem Sit.open_of (h : Sit p W0 S0 n0 gs w t j ks st F cc cv q kt kx mt R Ls Sh sv mv) (hp : (∃ k, k < j ∧ 2 ≤ st k) ∨ mt = .park) : closedAt kt kx = false := by
 rcases hp with ⟨k, hk, h2⟩ | hp
 ·cases hcl : closedAt kt kx with
  | false => rfl
  | true =>
   obtain ⟨rfl, rfl⟩ := closed_iff hcl
   have hks : ks = true := by
    cases hks : ks with
    | true => rfl
    | false => have := (h.kk hks).1; cases this
   have hm := h.mode
   have hjm := h.jm
   have ht : tagOf .ret mt = .ret := by
    cases mt <;> first | rfl | (simp only [jOk] at hjm; exact absurd hks (by simp [hjm.2]))
   rw [ht] at hm
   cases hm with
   | opn h1 _ _ => exact h1.elim
   | reg h1 _ _ => exact h1.elim
   | last L h1 _ _ _ => exact h1.elim
   | fin _ h2' =>
    have := h2' k hk
    simp only [stg] at this
    omega
 ·exact h.mpark hp
theorem Sit.lt_size (h : Sit p W0 S0 n0 gs w t j ks st F cc cv q kt kx mt R Ls Sh sv mv) {k : Nat} (hk : k < j) : p.base + k < gs.size := by rw [h.size]; omega
theorem Cast.less {x : Nat} (h : Cast p gs w t j ks st F cc cv q kt kx mt R Ls gs.size) (hs : gs.size = p.base + j + ks.toNat) (hb : 1 ≤ p.base) (hjn : ks = true → j = p.n) : Cast p gs w t j ks st F cc cv q kt kx mt R Ls x :=
 ⟨fun i g h0 h1 _ => h.old i g h0 h1 (by omega), fun k hk _ => h.wk k hk (by omega), fun hks _ => h.cl hks (by subst hks; have := hjn rfl; simp at hs; omega), fun _ => h.mn (by omega)⟩
theorem jm_n {n j : Nat} {ks : Bool} {mt : MTag} (h : jOk n j ks mt) : ks = true → j = n := by
 intro hk; subst hk
 cases mt <;> simp [jOk] at h <;> exact h
structure Turned (p : Pool) (W0 : World) (gs : Array Goroutine) (w : World) (t : Trace) (j : Nat) (ks : Bool) (st : Nat → Nat) (F : Nat → Tree) (cc : Nat → Nat) (cv : Nat → Value) (q : Nat → Nat) (kt : CTag) (kx : Nat) (mt : MTag) (R : Nat → Prop) (Ls : Nat → LH) (Sh : Nat → Prop) (n0 : Nat)
  (x : Nat) (g g' : Goroutine) (w' : World) (es : Array Event) (st' : Nat → Nat) (F' : Nat → Tree) (cc' : Nat → Nat) (cv' : Nat → Value) (q' : Nat → Nat) (kt' : CTag) (kx' : Nat) (mt' : MTag) (Ls' : Nat → LH) (Sh' : Nat → Prop) (sv' mv' : Int) : Prop where
 hF : ∀ i, i ≠ x → F' i = F i
 hL : ∀ i, i ≠ x → Ls' i = Ls i
 hst : ∀ k, k < j → p.base + k ≠ x → st' k = st k ∧ cc' k = cc k ∧ cv' k = cv k
 hq : ∀ i, i ≠ x → q' i = q i
 hkt : x ≠ p.base + p.n → kt' = kt ∧ kx' = kx
 hmt : x ≠ 0 → mt' = mt
 hmp : x = 0 → mt' ≠ .park
 ho : 0 < x → x < p.base → QuitsD p.P (q' x) (deafBehind (Deaf t x) es) g' ∧ F' x = Tree.num (q' x)
 hwk : ∀ k, k < j → x = p.base + k → WSt p k (st' k) (F' x) (cc' k) (cv' k) (deafBehind (Deaf t x) es) g' (Ls' x) w'
 hcl : ks = true → x = p.base + p.n → KSt p kt' kx' (F' x) (deafBehind (Deaf t x) es) g' (Ls' x)
 hmn : x = 0 → MSt p mt' R (F' 0) (deafBehind (Deaf t 0) es) g' (Ls' 0)
 stages : ∀ k, k < j → st' k ≤ 7 ∨ (10 ≤ st' k ∧ (mt' = .park → st' k ≠ 11))
 less : ∀ k, k < j → st' k ≤ st k
 jm : jOk p.n j ks mt'
 kk : ks = false → kt' = .kd ∧ kx' = 0
 ncl : kt' = .ret → kx' = 0 → kt = .ret ∧ kx = 0
 ncl' : closedAt kt' kx' = closedAt kt kx
 res : Res Ls' Sh' (fun b => b = p.W ∨ b = p.D) (fun i => i = 0 ∨ (p.base ≤ i ∧ i < gs.size)) w' (t ++ MemOp.ofEvents x g.frame.fn g.frame.place es)
 sh : ∀ b, Sh b → Sh' b
 lib : ∀ k, k < j → st' k ≤ 7 → Sh' (cc' k) ∧ cc' k ≠ p.W ∧ cc' k ≠ p.C ∧ cc' k ≠ p.D ∧ ∀ k', k' < j → k' ≠ k → st' k' ≤ 7 → cc' k' ≠ cc' k
 ccs : ∀ k, k < j → p.base + k ≠ x → st k ≤ 7 → w'.heap[cc k]? = w.heap[cc k]?
 same : Same W0 w'
 wg : WgAt p.ty p.W w' sv' mv'
 mode : ∀ kt'', (kt'' = kt' ∨ (kt' = .blk ∧ kt'' = .w3)) → (x ≠ p.base + p.n → ks = true → mayWake p.P g = true → g'.status = .running → kt'' ≠ .blk) → ConcN.Mode j (stg st') (tagOf kt'' mt') sv' mv'
 ch : w'.heap[p.C]? = w.heap[p.C]?
 cd : w'.heap[p.D]? = w.heap[p.D]?
 relx : ∀ k, k < j → x = p.base + k → kt = .ret → ∀ r, RelBy (stA p.W) t x r → RelBy (stA p.W) (t ++ MemOp.ofEvents x g.frame.fn g.frame.place es) x r
 rel : ∀ k, k < j → x = p.base + k → st' k ≤ 6 → ∃ r, n0 ≤ r ∧ RelBy (stA p.W) (t ++ MemOp.ofEvents x g.frame.fn g.frame.place es) x r
 said : ∀ e ∈ es, ∀ a, (MemAct.ofEvent e).touch? = some a → a.kind = .said → (ks = false → x = 0) ∧ (ks = true → x = p.base + p.n)
 norel : ∀ e ∈ es, MemAct.ofEvent e ≠ .mark (.release (stA p.W))
 atm : ∀ e ∈ es, ∀ y, (MemAct.ofEvent e).touch? = some y → y.kind ≠ .plain → ∃ b, blkOf y.loc = some b ∧ (b = p.W ∨ b = p.D)
 who : (x = 0 ∨ (p.base ≤ x ∧ x < gs.size)) ∨ ∀ e ∈ es, (MemAct.ofEvent e).touch? = none
 acq : x = p.base + p.n → kt' = .ret → ∃ qp, AcqK p n0 (t ++ MemOp.ofEvents x g.frame.fn g.frame.place es) qp ∧ (kx' = 0 → ClsK p (t ++ MemOp.ofEvents x g.frame.fn g.frame.place es) qp)
 nr : ∀ k, k < p.n → ¬ R k → k < j → 11 ≤ st' k ∨ (st' k ≤ 7 ∧ p.mute k)
 lt : (4 * wsum p.n j st' + 4 * krank p.n (Vc j (stg st')) ks kt' kx' + mrank mt' < 4 * wsum p.n j st + 4 * krank p.n (Vc j (stg st)) ks kt kx + mrank mt) ∨
  (4 * wsum p.n j st' + 4 * krank p.n (Vc j (stg st')) ks kt' kx' + mrank mt' = 4 * wsum p.n j st + 4 * krank p.n (Vc j (stg st)) ks kt kx + mrank mt ∧ (Tree.sub (F' x) (F x) ∨ (x = p.base + p.n ∧ F' x = F x ∧ bit kt' kx' < bit kt kx)))
theorem Sit.turn (hT : Takes p) (h : Sit p W0 S0 n0 gs w t j ks st F cc cv q kt kx mt R Ls Sh sv mv) {x : Nat} {g g' : Goroutine} {w' : World} {es : Array Event} (sl : Option (Nat × Nat))
  (hx : gs[x]? = some g) (hgo : stepG p.P (x == 0) g w = .go g' w' es) {st' : Nat → Nat} {F' : Nat → Tree} {cc' : Nat → Nat} {cv' : Nat → Value} {q' : Nat → Nat} {kt' : CTag} {kx' : Nat} {mt' : MTag} {Ls' : Nat → LH} {Sh' : Nat → Prop} {sv' mv' : Int}
  (a : Turned p W0 gs w t j ks st F cc cv q kt kx mt R Ls Sh n0 x g g' w' es st' F' cc' cv' q' kt' kx' mt' Ls' Sh' sv' mv') :
  ∃ m' ops μ', runT p.P (crowd gs w sl) x = (.next m', ops) ∧ MLt (p.base + p.n + 1) μ' (meas p j ks st F kt kx mt) ∧ PInv p W0 S0 n0 μ' m' (t ++ ops) := by
 have hML : ∀ R g L, p.ML R g L → g.status = .running := fun R g L x => (hT R g L x).1
 have hxlt : x < gs.size := (Array.getElem?_eq_some_iff.1 hx).1
 have hrun := runT_crowd_go (P := p.P) (sl := sl) (i := x) hx hgo
 have hjn := jm_n h.jm
 have hu : ∀ op ∈ MemOp.ofEvents x g.frame.fn g.frame.place es, op.g = x ∧ ∃ e ∈ es, op.act = .ofEvent e := fun op ho => by
  obtain ⟨e, he, hx⟩ := Go.Conc.mem_ofEvents ho
  rw [hx]; exact ⟨rfl, e, he, rfl⟩
 have hsz : ((gs.map (woken p.P g g' w')).setIfInBounds x g').size = gs.size := by simp
 -- the others
 obtain ⟨kt'', hcast, hk2, hk3⟩ := (Cast.less (x := x) h.cast h.size h.base1 hjn).step (u := MemOp.ofEvents x g.frame.fn g.frame.place es) (w' := w') hML g g' (fun op ho => (hu op ho).1) a.hF a.hL
  (fun hp => by
   have hop : closedAt kt kx = false := h.open_of (hp.imp (fun ⟨k, hk, _, e⟩ => ⟨k, hk, by omega⟩) id)
   obtain ⟨s₁, h1⟩ := h.ch
   obtain ⟨s₂, h2⟩ := h.cd
   rw [hop] at h1 h2
   rw [Bool.and_false] at h1
   exact ⟨s₁, s₁, s₂, s₂, by rw [a.ch]; exact h1, by rw [a.cd]; exact h2⟩)
  a.ccs h.stages (fun _ => ⟨_, _, a.wg⟩)
 -- the waiting one's tag
 obtain ⟨kf, hkf1, hkf2⟩ : ∃ kf, (kf = kt' ∨ (kt' = .blk ∧ kf = .w3)) ∧ ((x ≠ p.base + p.n → kf = kt'') ∧ (x = p.base + p.n → kf = kt')) := by
  by_cases e : x = p.base + p.n
  ·exact ⟨kt', .inl rfl, fun h => absurd e h, fun _ => rfl⟩
  ·refine ⟨kt'', ?_, fun _ => rfl, fun h => absurd h e⟩
   rw [(a.hkt e).1]; exact hk2
 have hkfx : closedAt kf kx' = closedAt kt kx := by
  rw [← a.ncl']
  rcases hkf1 with e | ⟨e1, e2⟩
  ·rw [e]
  ·rw [e1, e2]; rfl
 have hkfr : kf = .ret → kt' = .ret := by
  intro e
  rcases hkf1 with e1 | ⟨_, e2⟩
  ·rw [← e1]; exact e
  ·rw [e2] at e; cases e
 have hks0 : ks = false → kf = .kd ∧ kx' = 0 := by
  intro e
  obtain ⟨h1, h2⟩ := a.kk e
  rcases hkf1 with e1 | ⟨e1, _⟩
  ·exact ⟨e1.trans h1, h2⟩
  ·rw [h1] at e1; cases e1
 have hd : Deaf (t ++ MemOp.ofEvents x g.frame.fn g.frame.place es) x = deafBehind (Deaf t x) es := Deaf_own t x _ _ es
 have hself : ((gs.map (woken p.P g g' w')).setIfInBounds x g')[x]? = some g' := by rw [Array.getElem?_setIfInBounds_self_of_lt (by simpa using hxlt)]
 have hcrank : krank p.n (Vc j (stg st')) ks kf kx' = krank p.n (Vc j (stg st')) ks kt' kx' ∨ (kf = .w3 ∧ kt' = .blk) := by
  rcases hkf1 with e | ⟨e1, e2⟩
  ·rw [e]; exact .inl rfl
  ·exact .inr ⟨e2, e1⟩
 refine ⟨_, _, _, hrun, ?_, _, w', sl, j, ks, st', F', cc', cv', q', kf, kx', mt', R, Ls', Sh', sv', mv', rfl, ?_, rfl⟩
 ·-- the measure
  have hblk : kt' = .blk → kf = .w3 → kx' = 0 := by
   intro e1 e2
   by_cases e : x = p.base + p.n
   ·rw [hkf2.2 e] at e2; rw [e1] at e2; cases e2
   ·obtain ⟨h1, h2⟩ := a.hkt e
    have hks : ks = true := by
     cases hks : ks with
     | true => rfl
     | false => have := (a.kk hks).1; rw [e1] at this; cases this
    obtain ⟨y, _, hy⟩ := h.cast.cl hks (by rw [h.size, hjn hks, hks]; simp)
    rw [h2]
    rcases hy.status with ⟨hne, _⟩ | ⟨_, hx0, _⟩
    ·exact absurd (h1 ▸ e1) hne
    ·exact hx0
  have hS : 4 * wsum p.n j st' + 4 * krank p.n (Vc j (stg st')) ks kf kx' + mrank mt' = 4 * wsum p.n j st' + 4 * krank p.n (Vc j (stg st')) ks kt' kx' + mrank mt' := by
   rcases hcrank with e | ⟨e1, e2⟩
   ·rw [e]
   ·rw [hblk e2 e1, e1, e2]; rfl
  unfold meas MLt
  rw [hS]
  rcases a.lt with hlt | ⟨heq, hlt | ⟨hxk, hFx, hb⟩⟩
  ·exact Prod.Lex.left _ _ (Prod.Lex.left _ _ hlt)
  ·rw [heq]
   exact Prod.Lex.left _ _ (Prod.Lex.right _ ⟨x, by have := h.size; have := h.jn; cases ks <;> simp at * <;> omega, hlt, a.hF⟩)
  ·rw [heq]
   have e2 : F' = F := funext fun i => by
    by_cases e : i = x
    ·rw [e]; exact hFx
    ·exact a.hF i e
   rw [e2]
   refine Prod.Lex.right _ ?_
   rw [hkf2.2 hxk]
   exact hb
 ·refine { cast := ?_, size := by rw [hsz]; exact h.size, base1 := h.base1, jn := h.jn, nn := h.nn, jm := a.jm, kk := hks0, stages := fun k hk => (a.stages k hk).imp id (·.1), above := fun i hi => ?_, res := by rw [hsz]; exact a.res, shW := a.sh _ h.shW, shC := a.sh _ h.shC, shD := a.sh _ h.shD, sh0 := fun b hb => a.sh _ (h.sh0 b hb), neC := h.neC, neD := h.neD, lib := a.lib, same := a.same, wg := a.wg, mode := ?_, ch := ?_, cd := ?_, mpark := ?_, pk := ?_, rel := ?_, said := ?_, acq := ?_, nr := a.nr, rr := fun k hk => ⟨(h.rr k hk).1, Nat.le_trans (a.less k (h.rr k hk).1) (h.rr k hk).2⟩, r0 := h.r0, trc := ?_ }
  ·-- the cast
   refine ⟨fun i y h0 hb _ hy => ?_, fun k hk _ => ?_, fun hks _ => ?_, fun _ => ?_⟩
   ·by_cases e : i = x
    ·subst e
     rw [hself] at hy
     cases hy
     rw [hd]
     exact a.ho h0 hb
    ·rw [a.hq i e]
     exact hcast.old i y h0 hb e hy
   ·by_cases e : p.base + k = x
    ·subst e
     refine ⟨g', hself, ?_⟩
     rw [hd]
     exact a.hwk k hk rfl
    ·obtain ⟨e1, e2, e3⟩ := a.hst k hk e
     rw [e1, e2, e3]
     exact hcast.wk k hk e
   ·by_cases e : p.base + p.n = x
    ·subst e
     refine ⟨g', hself, ?_⟩
     rw [hd, hkf2.2 rfl]
     exact a.hcl hks rfl
    ·rw [hkf2.1 (Ne.symm e), (a.hkt (Ne.symm e)).2]
     exact hcast.cl hks e
   ·by_cases e : 0 = x
    ·subst e
     refine ⟨g', hself, ?_⟩
     rw [hd]
     exact a.hmn rfl
    ·rw [a.hmt (Ne.symm e)]
     exact hcast.mn e
  ·rw [hsz] at hi
   rw [Deaf_other t (g' := x) (by omega) _ (fun op ho => (hu op ho).1)]
   exact h.above i hi
  ·refine a.mode kf hkf1 fun e hks hmw hr => ?_
   rw [hkf2.1 e]
   exact hk3 e hks hmw hr
  ·obtain ⟨s, hc⟩ := h.ch
   exact ⟨s, by rw [a.ch, hkfx]; exact hc⟩
  ·obtain ⟨s, hc⟩ := h.cd
   exact ⟨s, by rw [a.cd, hkfx]; exact hc⟩
  ·intro e
   rw [hkfx]
   by_cases e0 : x = 0
   ·exact absurd e (a.hmp e0)
   ·exact h.mpark (by rw [← a.hmt e0]; exact e)
  ·intro e k hk
   rcases a.stages k hk with h7 | h10
   ·omega
   ·exact h10.2 e
  ·intro k hk hs
   by_cases e : x = p.base + k
   ·subst e
    exact a.rel k hk rfl hs
   ·obtain ⟨e1, _, _⟩ := a.hst k hk (Ne.symm e)
    rw [e1] at hs
    obtain ⟨r, hr, hb⟩ := h.rel k hk hs
    exact ⟨r, hr, hb.appOther (fun op ho => (hu op ho).1) e⟩
  ·intro idx y hy hl hs
   obtain ⟨z, hz, hza⟩ := touch_of hy
   rcases getElem?_append_cases hz with ⟨_, hz'⟩ | ⟨_, hzu⟩
   ·obtain ⟨h1, h2⟩ := h.said idx y (by rw [touchAt_of hz']; exact hza) hl hs
    exact ⟨fun e => (h1 e).app _, fun e => (h2 e).app _⟩
   ·obtain ⟨hg, e, he, hact⟩ := hu z hzu
    rw [hact] at hza
    obtain ⟨h1, h2⟩ := a.said e he y hza hs
    have := knows_own hz
    rw [hg] at this
    exact ⟨fun e => by rw [← h1 e]; exact this, fun e => by rw [← h2 e]; exact this⟩
  ·intro e
   by_cases exk : x = p.base + p.n
   ·exact a.acq exk (hkfr e)
   ·obtain ⟨e1, e2⟩ := a.hkt exk
    obtain ⟨qp, h1, h2⟩ := h.acq (e1 ▸ hkfr e)
    refine ⟨qp, h1.app fun k r hk hr => ?_, fun ex => (h2 (e2 ▸ ex)).app fun op ho hg => ?_⟩
    ·by_cases exk : x = p.base + k
     ·have hkj : k < j := by
       have hks : ks = true := by
        cases hks : ks with
        | true => rfl
        | false => have := (a.kk hks).1; rw [hkfr e] at this; cases this
       rw [hjn hks]; exact hk
      subst exk
      exact a.relx k hkj rfl (e1 ▸ hkfr e) r hr
     ·exact hr.appOther (fun op ho => (hu op ho).1) exk
    ·exact absurd ((hu op ho).1.symm.trans hg) exk
  ·rw [hsz]
   refine h.trc.app (x := x) (fun op ho => (hu op ho).1) (a.who.imp id fun hn op ho => ?_) (fun op ho => ?_) fun op ho => ?_
   ·obtain ⟨_, e, he, hact⟩ := hu op ho
    rw [hact]; exact hn e he
   ·obtain ⟨_, e, he, hact⟩ := hu op ho
    rw [hact]; exact a.norel e he
   ·obtain ⟨_, e, he, hact⟩ := hu op ho
    rw [hact]; exact a.atm e he
end
end Go.Mz


namespace Go.Mz
open Go.Conc Go.ConcN
open Go.ConcR (KK wgBlock WgAt stA smA rd wr mk Payload Aside2 DC0 Bk bk_of_mute)
variable {p : Pool} {W0 : World} {S0 : Nat → Prop} {n0 : Nat} {gs : Array Goroutine} {w : World} {t : Trace} {j : Nat} {ks : Bool} {st : Nat → Nat} {F : Nat → Tree} {cc : Nat → Nat} {cv : Nat → Value} {q : Nat → Nat} {kt : CTag} {kx : Nat} {mt : MTag} {R : Nat → Prop}
  {Ls : Nat → LH} {Sh : Nat → Prop} {sv mv : Int}
theorem Sit.mode_same (h : Sit p W0 S0 n0 gs w t j ks st F cc cv q kt kx mt R Ls Sh sv mv) (kt'' : CTag) (hk : kt'' = kt ∨ (kt = .blk ∧ kt'' = .w3)) : ConcN.Mode j (stg st) (tagOf kt'' mt) sv mv := by
 cases mt <;> first | exact h.mode | exact h.mode.retag hk
theorem Sit.tag_ks (h : Sit p W0 S0 n0 gs w t j ks st F cc cv q kt kx mt R Ls Sh sv mv) (hk : kt ≠ .kd) : ks = true ∧ (mt = .sel ∨ mt = .park) := by
 have hks : ks = true := by
  cases hks : ks with
  | true => rfl
  | false => exact absurd (h.kk hks).1 hk
 have hjm := h.jm
 subst hks
 refine ⟨rfl, ?_⟩
 cases mt <;> simp [jOk] at hjm ⊢
theorem Sit.ret_all (h : Sit p W0 S0 n0 gs w t j ks st F cc cv q kt kx mt R Ls Sh sv mv) (hk : kt = .ret) {k : Nat} (hkj : k < j) : st k = 1 := by
 have hm := h.mode
 have ht : tagOf kt mt = .ret := by
  obtain ⟨_, e | e⟩ := h.tag_ks (by rw [hk]; simp) <;> subst e <;> exact hk
 rw [ht] at hm
 cases hm with
 | opn h1 _ _ => exact h1.elim
 | reg h1 _ _ => exact h1.elim
 | last L h1 _ _ _ => exact h1.elim
 | fin _ h2' =>
  have := h2' k hkj
  simp only [stg] at this
  omega
theorem evOk_kind {L : LH} {e : Event} (h : EvOk L e) {a : Touch} (ha : (MemAct.ofEvent e).touch? = some a) : a.kind = .plain := by
 obtain ⟨loc, wr, sy⟩ := e
 cases loc with
 | cell x =>
  obtain ⟨h1, _⟩ := h
  simp only at h1
  subst h1
  simp only [MemAct.ofEvent, MemAct.touch?, Option.some.injEq] at ha
  subst ha
  rfl
 | obj r =>
  obtain ⟨h1, _⟩ := h
  simp only at h1
  subst h1
  simp only [MemAct.ofEvent, MemAct.touch?, Option.some.injEq] at ha
  subst ha
  rfl
 | mark m => rcases h with rfl | ⟨f, rfl⟩ <;> simp [MemAct.ofEvent, MemAct.touch?] at ha
 | output => exact h.elim
 | goroutines => exact h.elim
theorem evOk_norel {L : LH} {e : Event} (h : EvOk L e) (a : Addr) : MemAct.ofEvent e ≠ .mark (.release a) := by
 obtain ⟨loc, wr, sy⟩ := e
 cases loc with
 | cell x => simp [MemAct.ofEvent]
 | obj r =>
  obtain ⟨h1, _⟩ := h
  simp only at h1
  subst h1
  simp [MemAct.ofEvent]
 | mark m => rcases h with rfl | ⟨f, rfl⟩ <;> simp [MemAct.ofEvent]
 | output => exact h.elim
 | goroutines => exact h.elim
theorem evOk_still {L : LH} {e : Event} (h : EvOk L e) : e.loc ≠ .mark .disable ∧ e.loc ≠ .mark .enable := by
 obtain ⟨loc, wr, sy⟩ := e
 cases loc with
 | mark m => rcases h with rfl | ⟨f, rfl⟩ <;> simp
 | _ => simp
theorem Tr.deaf {L L' : LH} {w w' : World} {es : Array Event} (h : Tr L L' w w' es) (d : Nat) : deafBehind d es = d := deafBehind_still (fun e he => evOk_still (h.ev e he)) d
theorem Sit.oldStep (hT : Takes p) (h : Sit p W0 S0 n0 gs w t j ks st F cc cv q kt kx mt R Ls Sh sv mv) {x : Nat} (h0 : 0 < x) (hb : x < p.base) {g : Goroutine} (sl : Option (Nat × Nat)) (hx : gs[x]? = some g) (hrun : g.status = .running) :
    ∃ m' ops μ', runT p.P (crowd gs w sl) x = (.next m', ops) ∧ MLt (p.base + p.n + 1) μ' (meas p j ks st F kt kx mt) ∧ PInv p W0 S0 n0 μ' m' (t ++ ops) := by
  obtain ⟨hq, hF⟩ := h.cast.old x g h0 hb (by rw [h.size]; omega) hx
  have hx0 : (x == 0) = false := by simp; omega
  cases hqx : q x with
  | zero => rw [hqx] at hq; rw [hq.1] at hrun; cases hrun
  | succ m =>
    rw [hqx] at hq
    rcases hq with ⟨hf, _⟩ | ⟨_, g', es, hm, hstp, hq'⟩
    · rw [hf] at hrun; cases hrun
    have hn : ∀ e ∈ es, (MemAct.ofEvent e).touch? = none := fun e he => touch_mute (hm e he)
    have hop : ∀ op ∈ MemOp.ofEvents x g.frame.fn g.frame.place es, op.act.touch? = none := fun op ho => by
      obtain ⟨e, he, hx⟩ := Go.Conc.mem_ofEvents ho
      rw [hx]; exact hn e he
    refine h.turn hT sl hx (by rw [hx0]; exact hstp w) (st' := st) (F' := upd F x (Tree.num m)) (cc' := cc) (cv' := cv) (q' := upd q x m) (kt' := kt) (kx' := kx) (mt' := mt) (Ls' := Ls) (Sh' := Sh) (sv' := sv) (mv' := mv)
      { hF := fun i hi => upd_ne _ _ hi, hL := fun _ _ => rfl, hst := fun _ _ _ => ⟨rfl, rfl, rfl⟩, hq := fun i hi => upd_ne _ _ hi, hkt := fun _ => ⟨rfl, rfl⟩, hmt := fun _ => rfl, hmp := fun e => by omega,
        ho := fun _ _ => by rw [upd_same, upd_same]; exact ⟨hq', rfl⟩, hwk := fun k _ e => by omega, hcl := fun _ e => by omega, hmn := fun e => by omega,
        stages := fun k hk => (h.stages k hk).imp id fun x => ⟨x, fun e => h.pk e k hk⟩, less := fun _ _ => Nat.le_refl _, jm := h.jm, kk := h.kk, ncl := fun e1 e2 => ⟨e1, e2⟩, ncl' := rfl, res := h.res.mute (.refl _ _) hop, sh := fun _ h => h, lib := h.lib, ccs := fun _ _ _ _ => rfl,
        same := h.same, wg := h.wg, mode := fun kt'' hk _ => h.mode_same kt'' hk, ch := rfl, cd := rfl, relx := fun k _ e => by omega, rel := fun k _ e => by omega, said := fun e he a ha => (by rw [hn e he] at ha; cases ha),
        norel := fun e he => ?_, atm := fun e he x hx => (by rw [hn e he] at hx; cases hx), who := .inr hn, acq := fun e => by omega, nr := h.nr, lt := .inr ⟨rfl, .inl ?_⟩ }
    · have := hm e he
      obtain ⟨loc, wr, sy⟩ := e
      cases loc with
      | mark m => cases m <;> simp_all [Event.mute, MemAct.ofEvent]
      | _ => simp [Event.mute] at this
    · rw [upd_same, hF, hqx]
      exact Tree.num_sub w m
theorem Sit.ownStep (hT : Takes p) (h : Sit p W0 S0 n0 gs w t j ks st F cc cv q kt kx mt R Ls Sh sv mv) {x : Nat} {g g' : Goroutine} {w' : World} {es : Array Event} {L' : LH} {T' : Tree} (sl : Option (Nat × Nat)) (hx : gs[x]? = some g) (hmem : x = 0 ∨ (p.base ≤ x ∧ x < gs.size))
    (hgo : stepG p.P (x == 0) g w = .go g' w' es) (htr : Tr (Ls x) L' w w' es) (hsub : Tree.sub T' (F x)) (hmp : x = 0 → mt ≠ .park)
    (hwk : ∀ k, k < j → x = p.base + k → 10 ≤ st k ∧ WSt p k (st k) T' (cc k) (cv k) (Deaf t x) g' L' w') (hcl : ks = true → x = p.base + p.n → kt ≠ .ret ∨ kx ≠ 0) (hcl2 : ks = true → x = p.base + p.n → KSt p kt kx T' (Deaf t x) g' L')
    (hmn : x = 0 → MSt p mt R T' (Deaf t 0) g' L') :
    ∃ m' ops μ', runT p.P (crowd gs w sl) x = (.next m', ops) ∧ MLt (p.base + p.n + 1) μ' (meas p j ks st F kt kx mt) ∧ PInv p W0 S0 n0 μ' m' (t ++ ops) := by
  have hd := htr.deaf (Deaf t x)
  have hkeep : ∀ b, Sh b → w'.heap[b]? = w.heap[b]? := fun b hb => htr.keep b (h.res.shlt b hb) (h.res.sh x b hb)
  refine h.turn hT sl hx hgo (st' := st) (F' := upd F x T') (cc' := cc) (cv' := cv) (q' := q) (kt' := kt) (kx' := kx) (mt' := mt) (Ls' := upd Ls x L') (Sh' := Sh) (sv' := sv) (mv' := mv)
      { hF := fun i hi => upd_ne _ _ hi, hL := fun i hi => upd_ne _ _ hi, hst := fun _ _ _ => ⟨rfl, rfl, rfl⟩, hq := fun i hi => rfl, hkt := fun _ => ⟨rfl, rfl⟩, hmt := fun _ => rfl, hmp := hmp,
        ho := fun h1 h2 => by omega, hwk := fun k hk e => by rw [upd_same, upd_same, hd]; exact (hwk k hk e).2, hcl := fun hk e => by rw [upd_same, upd_same, hd]; exact hcl2 hk e, hmn := fun e => by subst e; rw [upd_same, upd_same, hd]; exact hmn rfl,
        stages := fun k hk => (h.stages k hk).imp id fun x => ⟨x, fun e => h.pk e k hk⟩, less := fun _ _ => Nat.le_refl _, jm := h.jm, kk := h.kk, ncl := fun e1 e2 => ⟨e1, e2⟩, ncl' := rfl, res := h.res.own htr _ _, sh := fun _ h => h, lib := h.lib, ccs := fun k hk _ h7 => hkeep _ (h.lib k hk h7).1,
        same := h.same.tr htr, wg := h.wg.of_block (hkeep _ h.shW), mode := fun kt'' hk _ => h.mode_same kt'' hk, ch := hkeep _ h.shC, cd := hkeep _ h.shD, relx := fun k hk e hr => ?_, rel := fun k hk e h6 => ?_,
        said := fun e he a ha hs => (by rw [evOk_kind (htr.ev e he) ha] at hs; cases hs),
        norel := fun e he => evOk_norel (htr.ev e he) _, atm := fun e he x hx hp => absurd (evOk_kind (htr.ev e he) hx) hp, who := .inl hmem, acq := fun e hr => ?_, nr := h.nr, lt := .inr ⟨rfl, .inl (by rw [upd_same]; exact hsub)⟩ }
  · have := h.ret_all hr hk
    have := (hwk k hk e).1
    omega
  · have := (hwk k hk e).1
    omega
  · obtain ⟨qp, h1, h2⟩ := h.acq hr
    have hks : ks = true := (h.tag_ks (by rw [hr]; simp)).1
    refine ⟨qp, h1.app fun k r hk hrel => hrel.appOther (g := x) (fun op ho => by obtain ⟨e, he, hx⟩ := Go.Conc.mem_ofEvents ho; rw [hx]) (by omega), fun ex => ?_⟩
    rcases hcl hks e with e1 | e1
    · exact absurd hr e1
    · exact absurd ex e1
end Go.Mz


namespace Go.Mz
open Go.Conc Go.ConcN
open Go.ConcR (KK wgBlock WgAt stA smA rd wr mk Payload Aside2 DC0 Bk bk_of_mute)
section
variable {j i : Nat} {D : Nat → WD} {tag : CTag} {sv mv : Int}
theorem pend_le (tag : CTag) : pend tag ≤ 1 := by cases tag <;> simp only [pend] <;> (try split) <;> omega
theorem mode_at5 (hm : ConcN.Mode j D tag sv mv) (hi : i < j) (h5 : (D i).stage = 5) (hj : j + 1 < 2147483648) : mv = 0 ∧ ∃ v wt : Nat, wt ≤ 1 ∧ v < 2147483647 ∧ sv = ((v : Int) + 1) * KK + wt := by
 have hc1 : cnt (D i) = 1 := by simp [cnt, h5]
 have hV1 : 1 ≤ Vc j D := by have := le_sumTo (f := fun x => cnt (D x)) hi; simp only [Vc]; omega
 have hVj := Vc_le j D
 have hp := pend_le tag
 cases hm with
 | opn h1 h2 h3 =>
  have e : ((Vc j D + pend tag : Nat) : Int) = ((Vc j D + pend tag - 1 : Nat) : Int) + 1 := by omega
  refine ⟨rfl, Vc j D + pend tag - 1, 0, by omega, by omega, ?_⟩
  rw [e]; simp
 | reg h1 h2 h3 =>
  have e : ((Vc j D : Nat) : Int) = ((Vc j D - 1 : Nat) : Int) + 1 := by omega
  refine ⟨rfl, Vc j D - 1, 1, by omega, by omega, ?_⟩
  rw [e]; simp
 | last L _ h2 h3 h4 =>
  by_cases e : i = L
  ·subst e; omega
  ·have := h4 i hi e; omega
 | sema h2 => have := h2 i hi; omega
 | fin _ h2 => have := h2 i hi; omega
theorem mode_dec {sv' : Int} (hm : ConcN.Mode j D tag sv mv) (hi : i < j) (h5 : (D i).stage = 5) (he : sv' + KK = sv) :
  (sv' = 1 → ConcN.Mode j (upd D i ⟨4, 0, 0⟩) tag sv' mv) ∧ (sv' ≠ 1 → ConcN.Mode j (upd D i ⟨1, 0, 0⟩) tag sv' mv) := by
 have hc1 : cnt (D i) = 1 := by simp [cnt, h5]
 have hV1 : 1 ≤ Vc j D := by have := le_sumTo (f := fun x => cnt (D x)) hi; simp only [Vc]; omega
 have h1v := Vc_upd D (⟨1, 0, 0⟩ : WD) hi
 have h4v := Vc_upd D (⟨4, 0, 0⟩ : WD) hi
 have c1 : cnt (⟨1, 0, 0⟩ : WD) = 0 := rfl
 have c4 : cnt (⟨4, 0, 0⟩ : WD) = 0 := rfl
 have hK : KK = 4294967296 := rfl
 cases hm with
 | opn h1 h2 h3 =>
  have hv' : (((Vc j (upd D i ⟨1, 0, 0⟩) + pend tag : Nat) : Int) * KK) = sv' := by
   have e : ((Vc j D + pend tag : Nat) : Int) = ((Vc j (upd D i ⟨1, 0, 0⟩) + pend tag : Nat) : Int) + 1 := by omega
   rw [e, Int.add_mul] at he
   omega
  refine ⟨fun h => ?_, fun _ => ?_⟩
  ·exfalso; rw [h, hK] at hv'; omega
  ·rw [← hv']
   refine .opn h1 (fun a ha => ?_) (fun vs ev => by have := h3 vs ev; omega)
   by_cases e : a = i
   ·subst e; rw [upd_same]; simp
   ·rw [upd_ne D _ e]; exact h2 a ha
 | reg h1 h2 h3 =>
  have hv' : (((Vc j (upd D i ⟨1, 0, 0⟩) : Nat) : Int) * KK + 1) = sv' := by
   have e : ((Vc j D : Nat) : Int) = ((Vc j (upd D i ⟨1, 0, 0⟩) : Nat) : Int) + 1 := by omega
   rw [e, Int.add_mul] at he
   omega
  refine ⟨fun h => ?_, fun h => ?_⟩
  ·have hv0 : Vc j D = 1 := by rw [h, hK] at hv'; omega
   have hoth : ∀ a, a < j → a ≠ i → (D a).stage = 1 := fun a ha e => by
    have c0 := others_uncounted hi hv0 hc1 a ha e
    have := h2 a ha
    simp only [cnt] at c0
    split at c0 <;> omega
   have := ConcN.Mode.last (j := j) (D := upd D i ⟨4, 0, 0⟩) (tag := tag) i h1 hi (by rw [upd_same]; simp) (fun a ha e => by rw [upd_ne D _ e]; exact hoth a ha e)
   rw [upd_same] at this
   rw [h]
   simpa using this
  ·rw [← hv']
   refine .reg h1 (fun a ha => ?_) ?_
   ·by_cases e : a = i
    ·subst e; rw [upd_same]; simp
    ·rw [upd_ne D _ e]; exact h2 a ha
   ·rcases Nat.eq_zero_or_pos (Vc j (upd D i ⟨1, 0, 0⟩)) with e0 | e0
    ·rw [e0] at hv'; exact absurd hv'.symm (by simpa using h)
    ·exact e0
 | last L _ h2 h3 h4 =>
  by_cases e : i = L
  ·subst e; omega
  ·have := h4 i hi e; omega
 | sema h2 => have := h2 i hi; omega
 | fin _ h2 => have := h2 i hi; omega
theorem mode_at43 (hm : ConcN.Mode j D tag sv mv) (hi : i < j) (h : (D i).stage = 4 ∨ (D i).stage = 3) : sv = 1 ∧ mv = 0 := by
 obtain ⟨_, _, h1, h2⟩ := hm.isLast hi (by omega)
 rw [if_neg (by omega)] at h1
 exact ⟨h1, h2⟩
theorem mode_at2 (hm : ConcN.Mode j D tag sv mv) (hi : i < j) (h : (D i).stage = 2) : sv = 0 ∧ mv = 0 := by
 obtain ⟨_, _, h1, h2⟩ := hm.isLast hi (by omega)
 rw [if_pos h] at h1
 exact ⟨h1, h2⟩
theorem mode_last (hm : ConcN.Mode j D tag sv mv) (hi : i < j) (h : (D i).stage = 4 ∨ (D i).stage = 3) {s' : Nat} (hs : s' = 3 ∨ s' = 2) : ConcN.Mode j (upd D i ⟨s', 0, 0⟩) tag (if s' = 2 then 0 else 1) 0 := by
 obtain ⟨hW3, hoth, _, _⟩ := hm.isLast hi (by omega)
 have := ConcN.Mode.last (j := j) (D := upd D i ⟨s', 0, 0⟩) (tag := tag) i hW3 hi (by rw [upd_same]; simp only; omega) (fun a ha e => by rw [upd_ne D _ e]; exact hoth a ha e)
 rw [upd_same] at this
 exact this
theorem mode_sema (hm : ConcN.Mode j D tag sv mv) (hi : i < j) (h : (D i).stage = 2) (ht : tag ≠ .blk) : tag = .w3 ∧ ConcN.Mode j (upd D i ⟨1, 0, 0⟩) .w3 0 1 := by
 obtain ⟨hW3, hoth, _, _⟩ := hm.isLast hi (by omega)
 refine ⟨by cases tag <;> first | rfl | exact hW3.elim | exact absurd rfl ht, .sema fun a ha => ?_⟩
 by_cases e : a = i
 ·subst e; rw [upd_same]
 ·rw [upd_ne D _ e]; exact hoth a ha e
end
theorem stg_upd (st : Nat → Nat) (k s : Nat) (h : s ≤ 7) : stg (upd st k s) = upd (stg st) k ⟨s, 0, 0⟩ := by
 funext a
 by_cases e : a = k
 ·subst e; simp only [stg, upd_same]; congr 1; omega
 ·simp only [stg, upd_ne _ _ e]
theorem stg_same (st : Nat → Nat) (k s : Nat) (h : min s 7 = min (st k) 7) : stg (upd st k s) = stg st := by
 funext a
 by_cases e : a = k
 ·subst e; simp only [stg, upd_same, h]
 ·simp only [stg, upd_ne _ _ e]
theorem wsum_upd {n j k s : Nat} {st : Nat → Nat} (hk : k < j) (hj : j ≤ n) (hs : s < st k) : wsum n j (upd st k s) < wsum n j st := by
 refine sumTo_less (i := k) (by omega) (fun a _ => ?_) ?_
 ·by_cases e : a = k
  ·subst e; simp only [upd_same]; split <;> omega
  ·simp only [upd_ne _ _ e]; exact Nat.le_refl _
 ·simp only [upd_same, hk, if_true]; exact hs
theorem wsum_same {k s : Nat} {st : Nat → Nat} (hs : s = st k) : upd st k s = st := by
 funext a
 by_cases e : a = k
 ·subst e; rw [upd_same]; exact hs
 ·rw [upd_ne _ _ e]
theorem krank_mono (n : Nat) {v v' : Nat} (h : v' ≤ v) (ks : Bool) (kt : CTag) (kx : Nat) : krank n v' ks kt kx ≤ krank n v ks kt kx := by
 cases kt <;> simp only [krank] <;> omega
theorem vc_upd_le {j k s : Nat} {st : Nat → Nat} (hk : k < j) (hs : s ≤ st k) : Vc j (stg (upd st k s)) ≤ Vc j (stg st) := by
 refine sumTo_mono fun a _ => ?_
 by_cases e : a = k
 ·subst e
  simp only [stg, upd_same, cnt]
  by_cases h1 : 5 ≤ min s 7 <;> by_cases h2 : 5 ≤ min (st a) 7 <;> simp only [h1, h2, if_true, if_false] <;> omega
 ·simp only [stg, upd_ne _ _ e]; exact Nat.le_refl _
theorem Res.shun {Ls : Nat → LH} {Sh Am Pt : Nat → Prop} {w : World} {t : Trace} (h : Res Ls Sh Am Pt w t) {c : Nat} (hn : ∀ i, Ls i c = none) (hlt : c < w.heap.size) : Res Ls (fun b => Sh b ∨ b = c) Am Pt w t :=
 { h with sh := fun i b hb => hb.elim (h.sh i b) fun e => by subst e; exact hn i, shlt := fun b hb => hb.elim (h.shlt b) fun e => by subst e; exact hlt, amsh := fun b hb => .inl (h.amsh b hb) }
variable {p : Pool} {W0 : World} {S0 : Nat → Prop} {n0 : Nat} {gs : Array Goroutine} {w : World} {t : Trace} {j : Nat} {ks : Bool} {st : Nat → Nat} {F : Nat → Tree} {cc : Nat → Nat} {cv : Nat → Value} {q : Nat → Nat} {kt : CTag} {kx : Nat} {mt : MTag} {R : Nat → Prop}
  {Ls : Nat → LH} {Sh : Nat → Prop} {sv mv : Int}
theorem lmove_ev {P : Program} {W Cc : Nat} {g g' : Goroutine} {w w' : World} {es : Array Event} {d m m' : Nat} {st sm st' sm' : Int} {s s' : Nat} (h : LMove P W Cc g g' w w' es d m m' st sm st' sm' s s') :
  (∀ e ∈ es, ∀ x, (MemAct.ofEvent e).touch? = some x → x.kind = .atomic ∧ blkOf x.loc = some W) ∧ (∀ e ∈ es, MemAct.ofEvent e ≠ .mark (.release (stA W))) := by
 have bk : (∀ e ∈ es, Bk W e) → (∀ e ∈ es, ∀ x, (MemAct.ofEvent e).touch? = some x → x.kind = .atomic ∧ blkOf x.loc = some W) ∧ (∀ e ∈ es, MemAct.ofEvent e ≠ .mark (.release (stA W))) := by
  intro hb
  refine ⟨fun e he x hx => ?_, fun e he => ?_⟩
  ·obtain ⟨loc, wr, sy⟩ := e
   rcases hb _ he with h1 | h1 | ⟨a, wr, h1, h2⟩
   ·simp only at h1; subst h1; simp [MemAct.ofEvent, MemAct.touch?] at hx
   ·simp only at h1; subst h1; simp [MemAct.ofEvent, MemAct.touch?] at hx
   ·cases h1
    simp only [MemAct.ofEvent, MemAct.touch?, Option.some.injEq] at hx
    subst hx
    exact ⟨rfl, by rw [← h2]; rfl⟩
  ·obtain ⟨loc, wr, sy⟩ := e
   rcases hb _ he with h1 | h1 | ⟨a, wr, h1, h2⟩
   ·simp only at h1; subst h1; simp [MemAct.ofEvent]
   ·simp only at h1; subst h1; simp [MemAct.ofEvent]
   ·cases h1; simp [MemAct.ofEvent]
 cases h with
 | idle7 _ _ hev _ _ =>
  refine ⟨fun e he x hx => ?_, fun e he hx => ?_⟩
  ·obtain ⟨h1, _⟩ := hev e he
   obtain ⟨_, h2⟩ := h1 0 ""
   rcases h2 x hx with ⟨⟨a, ha, hb⟩, k1, k2⟩ | h3 | ⟨h3, _⟩
   ·refine ⟨?_, by rw [ha]; simp [blkOf, hb]⟩
    cases hk : x.kind <;> first | rfl | exact absurd hk k1 | exact absurd hk k2
   ·exact h3.elim
   ·exact h3.elim
  ·have := (hev e he).2.2.2
   obtain ⟨loc, wr, sy⟩ := e
   cases loc with
   | mark m => simp only [MemAct.ofEvent, MemAct.mark.injEq] at hx; simp only at this; exact this (by rw [hx])
   | obj r => cases wr <;> cases sy <;> simp [MemAct.ofEvent] at hx
   | _ => simp [MemAct.ofEvent] at hx
 | rel _ he _ _ =>
  subst he
  refine ⟨fun e he x hx => ?_, fun e he => ?_⟩
  ·simp at he; subst he; simp [mk, MemAct.ofEvent, MemAct.touch?] at hx
  ·simp at he; subst he; simp [mk, MemAct.ofEvent]
 | book _ _ hb _ _ => exact bk hb
theorem LSit.deaf7 {P : Program} {ty W Cc : Nat} {v : Value} {s m d : Nat} {g : Goroutine} {w : World} (h : LSit P ty W Cc v s m d g w) (hs : s = 7) : d = 0 := by
 cases h <;> first | rfl | omega
theorem LSit.le7 {P : Program} {ty W Cc : Nat} {v : Value} {s m d : Nat} {g : Goroutine} {w : World} (h : LSit P ty W Cc v s m d g w) : 1 ≤ s ∧ s ≤ 7 := by
 cases h <;> omega
theorem WSt.is12 {k s : Nat} {T : Tree} {cc : Nat} {v : Value} {d : Nat} {g : Goroutine} {L : LH} {w : World} (h : WSt p k s T cc v d g L w) (h12 : 12 ≤ s) : s = 12 := by
 cases h with
 | own => rfl
 | park => omega
 | post => omega
 | lib h => have := LSit.le7 h; omega
theorem Sit.libStep (hT : Takes p) (h : Sit p W0 S0 n0 gs w t j ks st F cc cv q kt kx mt R Ls Sh sv mv) {k : Nat} (hk : k < j) {g : Goroutine} (sl : Option (Nat × Nat)) (hx : gs[p.base + k]? = some g) (hrun : g.status = .running)
    {c : Nat} {v : Value} {s m : Nat} (hl : LSit p.P p.ty p.W c v s m (Deaf t (p.base + k)) g w)
    (hs : (s = st k ∧ c = cc k ∧ F (p.base + k) = Tree.num m) ∨ (s = 7 ∧ 10 ≤ st k ∧ st k ≠ 11 ∧ (st k = 12 → p.mute k) ∧ ∃ o, Ls (p.base + k) c = some (o, true))) :
    ∃ m' ops μ', runT p.P (crowd gs w sl) (p.base + k) = (.next m', ops) ∧ MLt (p.base + p.n + 1) μ' (meas p j ks st F kt kx mt) ∧ PInv p W0 S0 n0 μ' m' (t ++ ops) := by
  have hb := h.base1
  have hjn := h.jn
  have hnn := h.nn
  obtain ⟨hs1, hs7⟩ := hl.le7
  have hx0 : (p.base + k == 0) = false := by simp; omega
  have hstk : (stg st k).stage = s := by
    simp only [stg]
    rcases hs with ⟨e, _⟩ | ⟨e, e2, _⟩ <;> omega
  have hle : s ≤ st k := by rcases hs with ⟨e, _⟩ | ⟨e, e2, _⟩ <;> omega
  -- the block of its own
  have hc : c ≠ p.W ∧ c ≠ p.C ∧ c ≠ p.D ∧ c < w.heap.size ∧ (∀ i, upd Ls (p.base + k) LH.nil i c = none) ∧ ∀ k', k' < j → k' ≠ k → st k' ≤ 7 → cc k' ≠ c := by
    rcases hs with ⟨e1, rfl, _⟩ | ⟨_, _, _, _, o, ho⟩
    · obtain ⟨h1, h2, h3, h4, h5⟩ := h.lib k hk (by omega)
      refine ⟨h2, h3, h4, h.res.shlt _ h1, fun i => ?_, h5⟩
      by_cases e : i = p.base + k
      · subst e; rw [upd_same]; rfl
      · rw [upd_ne _ _ e]; exact h.res.sh i _ h1
    · have hn : ∀ b, Sh b → c ≠ b := fun b hb e => by subst e; rw [h.res.sh _ _ hb] at ho; cases ho
      refine ⟨hn _ h.shW, hn _ h.shC, hn _ h.shD, (h.res.sub (p.base + k)).lt (by rw [ho]; simp), fun i => ?_, fun k' hk' _ h7 => Ne.symm (hn _ (h.lib k' hk' h7).1)⟩
      by_cases e : i = p.base + k
      · subst e; rw [upd_same]; rfl
      · rw [upd_ne _ _ e]; exact h.res.apart _ _ _ _ (Ne.symm e) ho
  obtain ⟨hcW, hcC, hcD, hclt, hcn, hcd⟩ := hc
  have hmode := h.mode
  obtain ⟨g', w', es, s', m', sv', mv', hgo, hl', hwg', hmv⟩ := lib_step hcW hl hrun h.wg (fun e => mode_at5 hmode hk (by rw [hstk]; exact e) (by omega)) (fun e => mode_at43 hmode hk (by rw [hstk]; exact e)) (fun e => mode_at2 hmode hk (by rw [hstk]; exact e))
  obtain ⟨hs1', hs7'⟩ := hl'.le7
  obtain ⟨hev1, hev2⟩ := lmove_ev hmv
  have hss : s' ≤ s := by cases hmv with
    | idle7 => exact Nat.le_refl _
    | rel => omega
    | book _ _ _ _ h5 => omega
  have hasz : w'.heap.size = w.heap.size ∧ (∀ b, b ≠ p.W → b ≠ c → w'.heap[b]? = w.heap[b]?) ∧ w'.tape = w.tape ∧ w'.os = w.os ∧ w'.output = w.output := by
    cases hmv with
    | idle7 _ ha _ _ _ => exact ⟨ha.size, fun b _ hb => ha.block b hb, ha.tape, ha.os, ha.output⟩
    | rel e _ _ _ => subst e; exact ⟨rfl, fun _ _ _ => rfl, rfl, rfl, rfl⟩
    | book _ ha _ _ _ => exact ⟨ha.size, fun b hb _ => ha.block b hb, ha.tape, ha.os, ha.output⟩
  obtain ⟨hsz, hblk, ht1, ht2, ht3⟩ := hasz
  have hop : ∀ op ∈ MemOp.ofEvents (p.base + k) g.frame.fn g.frame.place es, op.g = p.base + k ∧ ∃ e ∈ es, op.act = .ofEvent e := fun op hop => by
    obtain ⟨e, he, hx⟩ := Go.Conc.mem_ofEvents hop
    rw [hx]; exact ⟨rfl, e, he, rfl⟩
  have hres : Res (upd Ls (p.base + k) LH.nil) (fun b => Sh b ∨ b = c) (fun b => b = p.W ∨ b = p.D) (fun i => i = 0 ∨ (p.base ≤ i ∧ i < gs.size)) w' (t ++ MemOp.ofEvents (p.base + k) g.frame.fn g.frame.place es) := by
    refine ((h.res.less (i := p.base + k) (L' := LH.nil) (fun b o wr hb => by cases hb)).shun hcn hclt).sync (i := p.base + k) ⟨hsz, fun b hb => hblk b (fun e => hb (.inl (e ▸ h.shW))) (fun e => hb (.inr e))⟩ (.inr ⟨by omega, h.lt_size hk⟩) (fun op ho => (hop op ho).1) fun op ho x hx => ?_
    obtain ⟨_, e, he, hact⟩ := hop op ho
    rw [hact] at hx
    obtain ⟨h1, h2⟩ := hev1 e he x hx
    exact ⟨by rw [h1]; simp, ⟨_, h2, .inl rfl⟩, fun h3 => by rw [h1] at h3; cases h3⟩
  have hVle : Vc j (stg (upd st k s')) ≤ Vc j (stg st) := vc_upd_le hk (by omega)
  have hst' : ∀ k', p.base + k' ≠ p.base + k → upd st k s' k' = st k' ∧ upd cc k c k' = cc k' ∧ upd cv k v k' = cv k' := fun k' e => by
    have : k' ≠ k := fun x => e (by rw [x])
    exact ⟨upd_ne _ _ this, upd_ne _ _ this, upd_ne _ _ this⟩
  refine h.turn hT sl hx (by rw [hx0]; exact hgo) (st' := upd st k s') (F' := upd F (p.base + k) (Tree.num m')) (cc' := upd cc k c) (cv' := upd cv k v) (q' := q) (kt' := kt) (kx' := kx) (mt' := mt) (Ls' := upd Ls (p.base + k) LH.nil) (Sh' := fun b => Sh b ∨ b = c) (sv' := sv') (mv' := mv')
      { hF := fun i hi => upd_ne _ _ hi, hL := fun i hi => upd_ne _ _ hi, hst := fun k' _ e => hst' k' e, hq := fun i hi => rfl, hkt := fun _ => ⟨rfl, rfl⟩, hmt := fun _ => rfl, hmp := fun e => by omega,
        ho := fun h1 h2 => by omega, hwk := fun k' hk' e => ?_, hcl := fun _ e => by omega, hmn := fun e => by omega,
        stages := fun k' hk' => ?_, less := fun k' hk' => ?_, jm := h.jm, kk := h.kk, ncl := fun e1 e2 => ⟨e1, e2⟩, ncl' := rfl, res := hres, sh := fun _ h => .inl h, lib := fun k' hk' h7 => ?_, ccs := fun k' hk' hne h7 => ?_,
        same := ⟨ht1.trans h.same.tape, ht2.trans h.same.os, ht3.trans h.same.out⟩, wg := hwg', mode := fun kt'' hkt hw => ?_, ch := hblk _ (Ne.symm h.neC) (Ne.symm hcC), cd := hblk _ (Ne.symm h.neD) (Ne.symm hcD), relx := fun k' hk' e hr r hrel => ?_, rel := fun k' hk' e h6 => ?_,
        said := fun e he a ha hsd => (by rw [(hev1 e he a ha).1] at hsd; cases hsd),
        norel := hev2, atm := fun e he x hx _ => ⟨_, (hev1 e he x hx).2, .inl rfl⟩, who := .inl (.inr ⟨by omega, h.lt_size hk⟩), acq := fun e hr => by omega, nr := fun k' hk' hR hkj => ?_, lt := ?_ }
  · obtain rfl : k' = k := by omega
    rw [upd_same, upd_same, upd_same, upd_same, upd_same]
    exact .lib hl'
  · by_cases e : k' = k
    · subst e; rw [upd_same]; exact .inl hs7'
    · rw [upd_ne _ _ e]; exact (h.stages k' hk').imp id fun x => ⟨x, fun e => h.pk e k' hk'⟩
  · by_cases e : k' = k
    · subst e; rw [upd_same]; omega
    · rw [upd_ne _ _ e]; exact Nat.le_refl _
  · by_cases e : k' = k
    · subst e
      rw [upd_same]
      refine ⟨.inr rfl, hcW, hcC, hcD, fun k'' hk'' hne h7' => ?_⟩
      rw [upd_ne _ _ hne] at h7' ⊢
      exact hcd k'' hk'' hne h7'
    · rw [upd_ne _ _ e] at h7 ⊢
      obtain ⟨h1, h2, h3, h4, h5⟩ := h.lib k' hk' h7
      refine ⟨.inl h1, h2, h3, h4, fun k'' hk'' hne h7' => ?_⟩
      by_cases e2 : k'' = k
      · subst e2
        rw [upd_same]
        exact fun e3 => hcd k' hk' e h7 e3.symm
      · rw [upd_ne _ _ e2] at h7' ⊢
        exact h5 k'' hk'' hne h7'
  · have e : k' ≠ k := fun x => hne (by rw [x])
    exact hblk _ (h.lib k' hk' h7).2.1 (hcd k' hk' e h7)
  · have hm := h.mode_same kt'' hkt
    have hsame : s' = s → sv' = sv → mv' = mv → ConcN.Mode j (stg (upd st k s')) (tagOf kt'' mt) sv' mv' := by
      intro e1 e2 e3
      rw [e2, e3, stg_same st k s' (by simp only [stg] at hstk; omega)]
      exact hm
    cases hmv with
    | idle7 _ _ _ e1 e2 => exact hsame rfl e1 e2
    | rel _ _ e1 e2 =>
      rw [e1, e2, stg_upd _ _ _ hs7']
      exact hm.counted hk (by omega) (.inl rfl) 0 0
    | book _ _ _ _ h5 =>
      rcases h5 with ⟨e1, _, e2, e3⟩ | ⟨e1, e2, e3, e4⟩ | ⟨e1, e2, e3, e4⟩ | ⟨e1, e2, e3, e4⟩ | ⟨e1, e2, e3, e4⟩ | ⟨e1, e2, e3, e4, e5, e6⟩
      · exact hsame e1 e2 e3
      · rw [e3, e4, stg_upd _ _ _ hs7', e2]
        exact hm.counted hk (by omega) (.inr rfl) 0 0
      · rw [e3, stg_upd _ _ _ hs7']
        obtain ⟨d1, d2⟩ := mode_dec hm hk (by omega) e2
        rcases e4 with ⟨e4, e5⟩ | ⟨e4, e5⟩
        · rw [e5]; exact d1 e4
        · rw [e5]; exact d2 e4
      · obtain ⟨z1, z2⟩ := mode_at43 hm hk (by omega)
        rw [e3, e4, stg_upd _ _ _ hs7', e2, z1, z2]
        exact mode_last hm hk (by omega) (.inl rfl)
      · obtain ⟨z1, z2⟩ := mode_at43 hm hk (by omega)
        rw [e3, e4, stg_upd _ _ _ hs7', e2, z2]
        exact mode_last hm hk (by omega) (.inr rfl)
      · obtain ⟨z1, z2⟩ := mode_at2 hm hk (by omega)
        have hkd : kt ≠ .kd := by
          intro e
          obtain ⟨hW3, _⟩ := hm.isLast hk (by omega)
          rcases hkt with e7 | ⟨e7, _⟩
          · rw [e7, e] at hW3
            cases mt <;> exact hW3.elim
          · rw [e] at e7; cases e7
        obtain ⟨hks, hmt⟩ := h.tag_ks hkd
        have htg : tagOf kt'' mt = kt'' := by rcases hmt with e | e <;> rw [e] <;> rfl
        have hnb := hw (by omega) hks e5 e6
        rw [htg] at hm ⊢
        obtain ⟨f1, f2⟩ := mode_sema hm hk (by omega) hnb
        rw [e3, e4, stg_upd _ _ _ hs7', e2, z1, f1]
        exact f2
  · obtain rfl : k' = k := by omega
    have h1 := h.ret_all hr hk
    have hs1 : s = 1 := by omega
    subst hs1
    cases hmv with
    | book _ _ hb hd _ => exact hrel.book rfl _ _ hb hd
  · obtain rfl : k' = k := by omega
    rw [upd_same] at h6
    have hd7 := hl.deaf7
    clear hl hl'
    generalize hde : Deaf t (p.base + k') = dd at hmv hd7
    cases hmv with
    | idle7 => omega
    | rel _ he _ _ =>
      subst he
      exact ⟨t.size, h.trc.len, RelBy.new (hde.trans (hd7 rfl)) _ _⟩
    | book h6' _ hb hd _ =>
      obtain ⟨r, hr, hrel⟩ := h.rel k' hk (by rcases hs with ⟨e, _⟩ | ⟨e, _⟩ <;> omega)
      exact ⟨r, hr, hrel.book hde _ _ hb hd⟩
  · by_cases e : k' = k
    · subst e
      rw [upd_same]
      right
      refine ⟨hs7', ?_⟩
      rcases h.nr k' hk' hR hkj with h1 | ⟨_, h1⟩
      · rcases hs with ⟨e, _⟩ | ⟨_, _, e, hm, _⟩
        · omega
        · have : st k' = 12 := by
            obtain ⟨y, hy, hw⟩ := h.cast.wk k' hk (by have := h.lt_size hk; omega)
            exact hw.is12 (by omega)
          exact hm this
      · exact h1
    · rw [upd_ne _ _ e]; exact h.nr k' hk' hR hkj
  · have hkr := krank_mono p.n hVle ks kt kx
    by_cases e : s' < st k
    · left
      have := wsum_upd (n := p.n) hk hjn e
      omega
    · right
      have es : s' = st k := by omega
      have hst' : upd st k s' = st := wsum_same es
      refine ⟨by rw [hst'], .inl ?_⟩
      rw [upd_same]
      have e2 : s = st k := by omega
      rcases hs with ⟨_, _, hF⟩ | ⟨e3, e4, _⟩
      · rw [hF]
        have hm1 : m' + 1 = m := by
          cases hmv with
          | idle7 e7 => exact e7
          | rel => omega
          | book _ _ _ _ h5 => omega
        rw [← hm1]
        exact Tree.num_sub w m'
      · omega
end Go.Mz


namespace Go.Mz
open Go.Conc Go.ConcN
open Go.ConcR (KK wgBlock WgAt stA smA rd wr mk Payload Aside2 DC0 Bk bk_of_mute)
variable {p : Pool} {W0 : World} {S0 : Nat → Prop} {n0 : Nat} {gs : Array Goroutine} {w : World} {t : Trace} {j : Nat} {ks : Bool} {st : Nat → Nat} {F : Nat → Tree} {cc : Nat → Nat} {cv : Nat → Value} {q : Nat → Nat} {kt : CTag} {kx : Nat} {mt : MTag} {R : Nat → Prop}
  {Ls : Nat → LH} {Sh : Nat → Prop} {sv mv : Int}
theorem Sit.kTurn (hT : Takes p) (h : Sit p W0 S0 n0 gs w t j ks st F cc cv q kt kx mt R Ls Sh sv mv) (hks : ks = true) {g g' : Goroutine} {w' : World} {es : Array Event} (sl : Option (Nat × Nat)) (hx : gs[p.base + p.n]? = some g)
    (hgo : stepG p.P false g w = .go g' w' es) (hAs : Aside p.W w w')
    (hev : ∀ e ∈ es, (∀ x, (MemAct.ofEvent e).touch? = some x → x.kind ≠ .plain ∧ blkOf x.loc = some p.W ∧ (x.kind = .said → x.loc = .cell (smA p.W))) ∧ MemAct.ofEvent e ≠ .mark (.release (stA p.W)))
    {kt' : CTag} {kx' : Nat} {T' : Tree} {sv' mv' : Int} (hst : KSt p kt' kx' T' (deafBehind (Deaf t (p.base + p.n)) es) g' (Ls (p.base + p.n))) (hwg : WgAt p.ty p.W w' sv' mv')
    (hmode : ConcN.Mode j (stg st) kt' sv' mv') (hcl : closedAt kt' kx' = closedAt kt kx)
    (hacq : kt' = .ret → ∃ qp, AcqK p n0 (t ++ MemOp.ofEvents (p.base + p.n) g.frame.fn g.frame.place es) qp ∧ (kx' = 0 → ClsK p (t ++ MemOp.ofEvents (p.base + p.n) g.frame.fn g.frame.place es) qp))
    (hlt : krank p.n (Vc j (stg st)) true kt' kx' < krank p.n (Vc j (stg st)) true kt kx ∨ (krank p.n (Vc j (stg st)) true kt' kx' = krank p.n (Vc j (stg st)) true kt kx ∧ (Tree.sub T' (F (p.base + p.n)) ∨ (T' = F (p.base + p.n) ∧ bit kt' kx' < bit kt kx)))) :
    ∃ m' ops μ', runT p.P (crowd gs w sl) (p.base + p.n) = (.next m', ops) ∧ MLt (p.base + p.n + 1) μ' (meas p j ks st F kt kx mt) ∧ PInv p W0 S0 n0 μ' m' (t ++ ops) := by
  subst hks
  have hb := h.base1
  have hjn := jm_n h.jm rfl
  have hsz := h.size
  simp only [Bool.toNat_true] at hsz
  have hx0 : (p.base + p.n == 0) = false := by simp; omega
  have hmt : mt = .sel ∨ mt = .park := by
    have := h.jm
    cases mt <;> simp [jOk] at this ⊢
  have htag : ∀ k, tagOf k mt = k := fun k => by rcases hmt with e | e <;> rw [e] <;> rfl
  have hop : ∀ op ∈ MemOp.ofEvents (p.base + p.n) g.frame.fn g.frame.place es, op.g = p.base + p.n ∧ ∃ e ∈ es, op.act = .ofEvent e := fun op hop => by
    obtain ⟨e, he, hx⟩ := Go.Conc.mem_ofEvents hop
    rw [hx]; exact ⟨rfl, e, he, rfl⟩
  have hmem : p.base ≤ p.base + p.n ∧ p.base + p.n < gs.size := ⟨by omega, by omega⟩
  refine h.turn hT sl hx (by rw [hx0]; exact hgo) (st' := st) (F' := upd F (p.base + p.n) T') (cc' := cc) (cv' := cv) (q' := q) (kt' := kt') (kx' := kx') (mt' := mt) (Ls' := Ls) (Sh' := Sh) (sv' := sv') (mv' := mv')
      { hF := fun i hi => upd_ne _ _ hi, hL := fun i hi => rfl, hst := fun _ _ _ => ⟨rfl, rfl, rfl⟩, hq := fun i hi => rfl, hkt := fun e => absurd rfl e, hmt := fun _ => rfl, hmp := fun e => by omega,
        ho := fun h1 h2 => by omega, hwk := fun k hk e => by omega, hcl := fun _ _ => by rw [upd_same]; exact hst, hmn := fun e => by omega,
        stages := fun k hk => (h.stages k hk).imp id fun x => ⟨x, fun e => h.pk e k hk⟩, less := fun _ _ => Nat.le_refl _, jm := h.jm, kk := fun e => (by cases e), ncl := fun e1 e2 => closed_iff (by rw [← hcl, e1, e2]; rfl), ncl' := hcl,
        res := h.res.sync (i := p.base + p.n) ⟨hAs.size, fun b hb => hAs.block b fun e => hb (e ▸ h.shW)⟩ (.inr hmem) (fun op ho => (hop op ho).1) fun op ho x hx => ?_, sh := fun _ h => h, lib := h.lib, ccs := fun k hk _ h7 => hAs.block _ (h.lib k hk h7).2.1,
        same := ⟨hAs.tape.trans h.same.tape, hAs.os.trans h.same.os, hAs.output.trans h.same.out⟩, wg := hwg, mode := fun kt'' hk _ => ?_, ch := hAs.block _ (Ne.symm h.neC), cd := hAs.block _ (Ne.symm h.neD), relx := fun k hk e hr => by omega, rel := fun k hk e h6 => by omega,
        said := fun e he a ha hs => ⟨fun e => (by cases e), fun _ => rfl⟩,
        norel := fun e he => (hev e he).2, atm := fun e he x hx _ => ⟨_, ((hev e he).1 x hx).2.1, .inl rfl⟩, who := .inl (.inr hmem), acq := fun _ => hacq, nr := h.nr, lt := ?_ }
  · obtain ⟨_, e, he, hact⟩ := hop op ho
    rw [hact] at hx
    obtain ⟨h1, h2, h3⟩ := (hev e he).1 x hx
    exact ⟨h1, ⟨_, h2, .inl rfl⟩, fun hs idx a ha hl has => (h.said idx a ha (hl.trans (h3 hs)) has).2 rfl⟩
  · rw [htag]; exact hmode.retag hk
  · rcases hlt with hlt | ⟨heq, hlt⟩
    · left; omega
    · right
      rw [heq, upd_same]
      exact ⟨rfl, hlt.imp id fun x => ⟨rfl, x⟩⟩
theorem ev_rd (W : Nat) : ∀ e ∈ #[rd (stA W)], (∀ x, (MemAct.ofEvent e).touch? = some x → x.kind ≠ .plain ∧ blkOf x.loc = some W ∧ (x.kind = .said → x.loc = .cell (smA W))) ∧ MemAct.ofEvent e ≠ .mark (.release (stA W)) := by
 intro e he
 simp at he
 subst he
 refine ⟨fun x hx => ?_, by simp [rd, MemAct.ofEvent]⟩
 simp only [rd, MemAct.ofEvent, MemAct.touch?, Option.some.injEq] at hx
 subst hx
 exact ⟨by simp, rfl, fun h => by simp at h⟩
theorem ev_rw (W : Nat) : ∀ e ∈ #[rd (stA W), wr (stA W)], (∀ x, (MemAct.ofEvent e).touch? = some x → x.kind ≠ .plain ∧ blkOf x.loc = some W ∧ (x.kind = .said → x.loc = .cell (smA W))) ∧ MemAct.ofEvent e ≠ .mark (.release (stA W)) := by
 intro e he
 simp at he
 rcases he with rfl | rfl
 ·refine ⟨fun x hx => ?_, by simp [rd, MemAct.ofEvent]⟩
  simp only [rd, MemAct.ofEvent, MemAct.touch?, Option.some.injEq] at hx
  subst hx
  exact ⟨by simp, rfl, fun h => by simp at h⟩
 ·refine ⟨fun x hx => ?_, by simp [wr, MemAct.ofEvent]⟩
  simp only [wr, MemAct.ofEvent, MemAct.touch?, Option.some.injEq] at hx
  subst hx
  exact ⟨by simp, rfl, fun h => by simp at h⟩
theorem ev_sem (W : Nat) : ∀ e ∈ semEvents (smA W), (∀ x, (MemAct.ofEvent e).touch? = some x → x.kind ≠ .plain ∧ blkOf x.loc = some W ∧ (x.kind = .said → x.loc = .cell (smA W))) ∧ MemAct.ofEvent e ≠ .mark (.release (stA W)) := by
 intro e he
 simp [semEvents] at he
 rcases he with rfl | rfl | rfl | rfl
 ·exact ⟨fun x hx => by simp [MemAct.ofEvent, MemAct.touch?] at hx, by simp [MemAct.ofEvent]⟩
 ·refine ⟨fun x hx => ?_, by simp [MemAct.ofEvent]⟩
  simp only [MemAct.ofEvent, MemAct.touch?, Option.some.injEq] at hx
  subst hx
  exact ⟨by simp, rfl, fun h => by simp at h⟩
 ·refine ⟨fun x hx => ?_, by simp [MemAct.ofEvent]⟩
  simp only [MemAct.ofEvent, MemAct.touch?, Option.some.injEq] at hx
  subst hx
  exact ⟨by simp, rfl, fun h => by simp at h⟩
 ·exact ⟨fun x hx => by simp [MemAct.ofEvent, MemAct.touch?] at hx, by simp [MemAct.ofEvent]⟩
theorem ev_mk {m : Mark} (W : Nat) (h1 : ∀ a, m ≠ .release a) (h2 : (∀ a, m ≠ .read a ∧ m ≠ .write a) ∨ m = .write (smA W) ∨ m = .read (smA W)) : ∀ e ∈ #[mk m], (∀ x, (MemAct.ofEvent e).touch? = some x → x.kind ≠ .plain ∧ blkOf x.loc = some W ∧ (x.kind = .said → x.loc = .cell (smA W))) ∧ MemAct.ofEvent e ≠ .mark (.release (stA W)) := by
 intro e he
 simp at he
 subst he
 refine ⟨fun x hx => ?_, by simp only [mk, MemAct.ofEvent]; intro e; exact h1 _ (MemAct.mark.inj e)⟩
 rcases h2 with h2 | rfl | rfl
 ·cases m <;> simp only [mk, MemAct.ofEvent, MemAct.touch?] at hx <;> first | exact absurd rfl (h2 _).1 | exact absurd rfl (h2 _).2 | cases hx
 ·simp only [mk, MemAct.ofEvent, MemAct.touch?, Option.some.injEq] at hx
  subst hx
  exact ⟨by simp, rfl, fun _ => rfl⟩
 ·simp only [mk, MemAct.ofEvent, MemAct.touch?, Option.some.injEq] at hx
  subst hx
  exact ⟨by simp, rfl, fun _ => rfl⟩
theorem allQuit_of {j : Nat} {D : Nat → WD} (h : OpenSt j D) (hv : Vc j D = 0) : AllQuit j D := by
 intro a ha
 have := le_sumTo (f := fun x => cnt (D x)) ha
 simp only [Vc] at hv
 have h0 : cnt (D a) = 0 := by omega
 simp only [cnt] at h0
 have := h a ha
 split at h0 <;> omega
theorem Sit.kStep (hT : Takes p) (hA : ∀ g L, p.Anch g L → Way p.P false p.Φ (KLd p) g L) (h : Sit p W0 S0 n0 gs w t j ks st F cc cv q kt kx mt R Ls Sh sv mv) (hks : ks = true) {g : Goroutine} (sl : Option (Nat × Nat)) (hx : gs[p.base + p.n]? = some g) (hrun : g.status = .running)
  (hk : KSt p kt kx (F (p.base + p.n)) (Deaf t (p.base + p.n)) g (Ls (p.base + p.n))) (hnc : ∀ T, ¬ (kt = .ret ∧ kx = 1 ∧ KClose p g (Ls (p.base + p.n)) ∧ T = .leaf ∧ F (p.base + p.n) = T)) :
  ∃ m' ops μ', runT p.P (crowd gs w sl) (p.base + p.n) = (.next m', ops) ∧ MLt (p.base + p.n + 1) μ' (meas p j ks st F kt kx mt) ∧ PInv p W0 S0 n0 μ' m' (t ++ ops) := by
 subst hks
 have hb := h.base1
 have hjn := jm_n h.jm rfl
 have hsz := h.size
 simp only [Bool.toNat_true] at hsz
 have hx0 : (p.base + p.n == 0) = false := by simp; omega
 have hmt : mt = .sel ∨ mt = .park := by
  have := h.jm
  cases mt <;> simp [jOk] at this ⊢
 have hm := h.mode
 have htag : tagOf kt mt = kt := by rcases hmt with e | e <;> rw [e] <;> rfl
 rw [htag] at hm
 have hV := Vc_le j (stg st)
 have hnn := h.nn
 have hwg := h.wg
 have hsub := h.res.sub (p.base + p.n)
 -- an own step
 have own : ∀ {S : Goroutine → LH → Prop} {kt' : CTag} {kx' : Nat}, kt = kt' → kx = kx' → closedAt kt' kx' = false → (∀ T' g' L', At p.P false p.Φ S T' g' L' → KSt p kt' kx' T' (Deaf t (p.base + p.n)) g' L') →
   (∀ w, Sub (Ls (p.base + p.n)) w → p.Φ w → ∃ g' w' es L' T', stepG p.P false g w = .go g' w' es ∧ Tr (Ls (p.base + p.n)) L' w w' es ∧ At p.P false p.Φ S T' g' L' ∧ Tree.sub T' (F (p.base + p.n))) →
   ∃ m' ops μ', runT p.P (crowd gs w sl) (p.base + p.n) = (.next m', ops) ∧ MLt (p.base + p.n + 1) μ' (meas p j true st F kt kx mt) ∧ PInv p W0 S0 n0 μ' m' (t ++ ops) := by
  intro S kt' kx' e1 e2 hc hK hst
  subst e1 e2
  obtain ⟨g', w', es, L', T', h1, h2, h3, h4⟩ := hst w hsub ⟨_, _, h.wg⟩
  exact h.ownStep hT sl hx (.inr ⟨by omega, by omega⟩) (by rw [hx0]; exact h1) h2 h4 (fun e => by omega) (fun k hk e => by omega) (fun _ _ => by
   by_cases e1 : kt = .ret
   ·by_cases e2 : kx = 0
    ·subst e1 e2; cases hc
    ·exact .inr e2
   ·exact .inl e1) (fun _ _ => hK _ _ _ h3) (fun e => by omega)
 generalize hTr : F (p.base + p.n) = T0 at hk
 generalize hde : Deaf t (p.base + p.n) = d0 at hk
 cases hk with
 | dis hat =>
  rcases hat.cases with ⟨⟨_, g', hgo, hn⟩, hl⟩ | ⟨_, hst⟩
  ·obtain ⟨T', hT'⟩ := hn.at
   refine h.kTurn hT rfl sl hx (hgo w) (.refl _ w) (ev_mk _ (by simp) (.inl (by simp))) (kt' := .w1) (kx' := 0) (T' := T') (by rw [hde]; exact .ld hT') hwg ?_ rfl (by simp) (.inl ?_)
   ·cases hm with
    | opn h1 h2 h3 => exact ConcN.Mode.opn (tag := .w1) trivial h2 (by simp)
    | reg h1 => exact h1.elim
    | last L h1 => exact h1.elim
    | fin h1 => exact h1.elim
   ·simp only [krank, if_true]; omega
  ·exact own rfl rfl rfl (fun _ _ _ x => by rw [hde]; exact .dis x) (by rw [hTr]; exact hst)
 | ld hat =>
  rcases hat.cases with ⟨⟨_, ⟨g₀, hgo₀, hn₀⟩, hv⟩, hl⟩ | ⟨_, hst⟩
  ·cases hm with
   | reg h1 => exact h1.elim
   | last L h1 => exact h1.elim
   | fin h1 => exact h1.elim
   | opn h1 h2 h3 =>
    simp only [pend, Nat.add_zero] at hwg
    rcases Nat.eq_zero_or_pos (Vc j (stg st)) with e0 | e0
    ·obtain ⟨T', hT'⟩ := hn₀.at
     rw [e0] at hwg
     have hwg0 : WgAt p.ty p.W w 0 0 := by simpa using hwg
     refine h.kTurn hT rfl sl hx (hgo₀ w hwg0) (.refl _ w) (ev_rd _) (kt' := .ke) (kx' := 0) (T' := T') (by rw [hde]; exact .enb hT') hwg0 (.fin trivial (allQuit_of h2 e0)) rfl (by simp) (.inl ?_)
     simp only [krank]; omega
    ·obtain ⟨g', hgo, hn⟩ := hv (Vc j (stg st)) e0 (by omega)
     obtain ⟨T', hT'⟩ := hn.at
     refine h.kTurn hT rfl sl hx (hgo w hwg) (.refl _ w) (ev_rd _) (kt' := .w2 (Vc j (stg st))) (kx' := 0) (T' := T') (by rw [hde]; exact .cas hT') hwg ?_ rfl (by simp) (.inl ?_)
     ·have := ConcN.Mode.opn (tag := .w2 (Vc j (stg st))) (j := j) (D := stg st) trivial h2 (fun vs e => by cases e; exact ⟨Nat.le_refl _, e0⟩)
      simpa [pend] using this
     ·simp only [krank]; omega
  ·exact own rfl rfl rfl (fun _ _ _ x => by rw [hde]; exact .ld x) (by rw [hTr]; exact hst)
 | @cas vs T0 _ _ hat =>
  rcases hat.cases with ⟨⟨_, ⟨g₁, hgo₁, hn₁⟩, ⟨g₂, hgo₂, hn₂⟩⟩, hl⟩ | ⟨_, hst⟩
  ·cases hm with
   | reg h1 => exact h1.elim
   | last L h1 => exact h1.elim
   | fin h1 => exact h1.elim
   | opn h1 h2 h3 =>
    simp only [pend, Nat.add_zero] at hwg
    obtain ⟨v1, v2⟩ := h3 vs rfl
    by_cases e : Vc j (stg st) = vs
    ·rw [e] at hwg
     obtain ⟨T', hT'⟩ := hn₁.at
     refine h.kTurn hT rfl sl hx (hgo₁ w hwg) (aside_setCell w (stA p.W) _) (ev_rw _) (kt' := .w3) (kx' := 1) (T' := T') (by rw [hde]; exact .said hT') (hwg.setSt _) ?_ rfl (by simp) (.inl ?_)
     ·have := ConcN.Mode.reg (tag := .w3) (j := j) (D := stg st) trivial h2 (by omega)
      rw [e] at this
      exact this
     ·simp only [krank]; omega
    ·obtain ⟨T', hT'⟩ := (hn₂.bind hA).at
     refine h.kTurn hT rfl sl hx (hgo₂ w _ e (by omega) hwg) (.refl _ w) (ev_rd _) (kt' := .w1) (kx' := 0) (T' := T') (by rw [hde]; exact .ld hT') hwg ?_ rfl (by simp) (.inl ?_)
     ·have := ConcN.Mode.opn (tag := .w1) (j := j) (D := stg st) trivial h2 (by simp)
      simpa [pend] using this
     ·simp only [krank]; omega
  ·exact own rfl rfl rfl (fun _ _ _ x => by rw [hde]; exact .cas x) (by rw [hTr]; exact hst)
 | said hat =>
  rcases hat.cases with ⟨⟨_, g', hgo, hn⟩, hl⟩ | ⟨_, hst⟩
  ·obtain ⟨T', hT'⟩ := hn.at
   exact h.kTurn hT rfl sl hx (hgo w) (.refl _ w) (ev_mk _ (by simp) (.inr (.inl rfl))) (kt' := .w3) (kx' := 0) (T' := T') (by rw [hde]; exact .sem hT') hwg hm rfl (by simp) (.inl (by simp only [krank]; omega))
  ·exact own rfl rfl rfl (fun _ _ _ x => by rw [hde]; exact .said x) (by rw [hTr]; exact hst)
 | sem hat =>
  rcases hat.cases with ⟨hs, hl⟩ | ⟨_, hst⟩
  ·obtain ⟨_, _, hblk, g', hgo, hn⟩ := id hs
   have block : mv = 0 → ∃ m' ops μ', runT p.P (crowd gs w sl) (p.base + p.n) = (.next m', ops) ∧ MLt (p.base + p.n + 1) μ' (meas p j true st F .w3 0 mt) ∧ PInv p W0 S0 n0 μ' m' (t ++ ops) := by
    intro e
    subst e
    refine h.kTurn hT rfl sl hx (hblk w sv hwg) (.refl _ w) (by simp) (kt' := .blk) (kx' := 0) (T' := .leaf) (by rw [hde]; exact .blk hs) hwg ?_ rfl (by simp) (.inr ⟨rfl, .inr ⟨by rw [hTr, hl], by simp [bit]⟩⟩)
    cases hm with
    | opn h1 => exact h1.elim
    | reg h1 h2 h3 => exact .reg trivial h2 h3
    | last L h1 h2 h3 h4 => exact .last L trivial h2 h3 h4
    | fin h1 => exact h1.elim
   cases hm with
   | opn h1 => exact h1.elim
   | reg h1 h2 h3 => exact block rfl
   | last L h1 h2 h3 h4 => exact block rfl
   | sema h2 =>
    obtain ⟨T', hT'⟩ := hn.at
    exact h.kTurn hT rfl sl hx (hgo w hwg) (aside_setCell w (smA p.W) _) (ev_sem _) (kt' := .w4) (kx' := 0) (T' := T') (by rw [hde]; simpa [deafBehind, semEvents] using KSt.l4 hT') (hwg.setSm 0) (.fin trivial h2) rfl (by simp) (.inl (by simp only [krank]; omega))
   | fin h1 => exact h1.elim
  ·exact own rfl rfl rfl (fun _ _ _ x => by rw [hde]; exact .sem x) (by rw [hTr]; exact hst)
 | blk hs => cases hrun
 | l4 hat =>
  rcases hat.cases with ⟨⟨_, g', hgo, hn⟩, hl⟩ | ⟨_, hst⟩
  ·cases hm with
   | opn h1 => exact h1.elim
   | reg h1 => exact h1.elim
   | last L h1 => exact h1.elim
   | fin h1 h2 =>
    obtain ⟨T', hT'⟩ := hn.at
    exact h.kTurn hT rfl sl hx (hgo w hwg) (.refl _ w) (ev_rd _) (kt' := .ke) (kx' := 0) (T' := T') (by rw [hde]; exact .enb hT') hwg (.fin trivial h2) rfl (by simp) (.inl (by simp only [krank]; omega))
  ·exact own rfl rfl rfl (fun _ _ _ x => by rw [hde]; exact .l4 x) (by rw [hTr]; exact hst)
 | enb hat =>
  rcases hat.cases with ⟨⟨_, g', hgo, hn⟩, hl⟩ | ⟨_, hst⟩
  ·cases hm with
   | opn h1 => exact h1.elim
   | reg h1 => exact h1.elim
   | last L h1 => exact h1.elim
   | fin h1 h2 =>
    obtain ⟨T', hT'⟩ := hn.at
    exact h.kTurn hT rfl sl hx (hgo w) (.refl _ w) (ev_mk _ (by simp) (.inl (by simp))) (kt' := .acq) (kx' := 0) (T' := T') (by rw [hde]; exact .acq hT') hwg (.fin trivial h2) rfl (by simp) (.inl (by simp only [krank]; omega))
  ·exact own rfl rfl rfl (fun _ _ _ x => by rw [hde]; exact .enb x) (by rw [hTr]; exact hst)
 | acq hat =>
  rcases hat.cases with ⟨⟨_, g', hgo, hn⟩, hl⟩ | ⟨_, hst⟩
  ·cases hm with
   | opn h1 => exact h1.elim
   | reg h1 => exact h1.elim
   | last L h1 => exact h1.elim
   | fin h1 h2 =>
    obtain ⟨T', hT'⟩ := hn.at
    refine h.kTurn hT rfl sl hx (hgo w) (.refl _ w) (ev_mk _ (by simp) (.inl (by simp))) (kt' := .ret) (kx' := 1) (T' := T') (by rw [hde]; exact .cls hT') hwg (.fin trivial h2) rfl (fun _ => ⟨t.size, ?_, fun e => by cases e⟩) (.inl (by simp only [krank]; omega))
    have e1 : MemOp.ofEvents (p.base + p.n) g.frame.fn g.frame.place #[Go.ConcR.mk (.acquire (stA p.W))] = (#[{ g := p.base + p.n, fn := g.frame.fn, pos := g.frame.place, act := MemAct.mark (Mark.acquire (stA p.W)) }] : Array MemOp) := by rw [ofEvents_eq]; simp [Go.ConcR.mk, MemAct.ofEvent]
    rw [e1]
    refine ⟨by simp [Trace.act?], by simp [Trace.g?], ⟨p.base + p.n, by simp [Trace.g?], by rw [deaf_old (Nat.le_refl _)]; exact hde⟩, fun k hk => ?_⟩
    obtain ⟨r, hr, hrel⟩ := h.rel k (by omega) (by have := h2 k (by omega); simp only [stg] at this; omega)
    exact ⟨r, hr, hrel.appOther (g := p.base + p.n) (by simp) (by omega), lt_of_act? hrel.act⟩
  ·exact own rfl rfl rfl (fun _ _ _ x => by rw [hde]; exact .acq x) (by rw [hTr]; exact hst)
 | cls hat =>
  rcases hat.cases with ⟨hc, hl⟩ | ⟨_, hst⟩
  ·exact absurd ⟨rfl, rfl, hc, hl, hTr⟩ (hnc _)
  ·exact own rfl rfl rfl (fun _ _ _ x => by rw [hde]; exact .cls x) (by rw [hTr]; exact hst)
 | @quit q0 d0 _ _ hq =>
  cases q0 with
  | zero => rw [hq.1] at hrun; cases hrun
  | succ m =>
   rcases hq with ⟨hf, _⟩ | ⟨_, g', es, hmu, hstp, hq'⟩
   ·rw [hf] at hrun; cases hrun
   have hn : ∀ e ∈ es, (MemAct.ofEvent e).touch? = none := fun e he => touch_mute (hmu e he)
   refine h.kTurn hT rfl sl hx (hstp w) (.refl _ w) (fun e he => ⟨fun x hx => (by rw [hn e he] at hx; cases hx), fun e1 => ?_⟩) (kt' := .ret) (kx' := 0) (T' := Tree.num m) (by rw [hde]; exact .quit hq') hwg hm rfl (fun _ => ?_) (.inr ⟨rfl, .inl (by rw [hTr]; exact Tree.num_sub w m)⟩)
   ·have := hmu e he
    obtain ⟨loc, wr, sy⟩ := e
    cases loc with
    | mark m => cases m <;> simp_all [Event.mute, MemAct.ofEvent]
    | _ => simp [Event.mute] at this
   ·obtain ⟨qp, h1, h2⟩ := h.acq rfl
    refine ⟨qp, h1.app fun k r hk hrel => hrel.appOther (g := p.base + p.n) (fun op ho => by obtain ⟨e, he, hx⟩ := Go.Conc.mem_ofEvents ho; rw [hx]) (by omega), fun _ => (h2 rfl).app fun op ho _ => ?_⟩
    obtain ⟨e, he, hx⟩ := Go.Conc.mem_ofEvents ho
    rw [hx]
    exact hn e he
end Go.Mz


namespace Go.Mz
open Go.Conc Go.ConcN
open Go.ConcR (KK wgBlock WgAt stA smA rd wr Payload Aside2 DC0 Bk bk_of_mute)
variable {p : Pool} {W0 : World} {S0 : Nat → Prop} {n0 : Nat} {gs : Array Goroutine} {w : World} {t : Trace} {j : Nat} {ks : Bool} {st : Nat → Nat} {F : Nat → Tree} {cc : Nat → Nat} {cv : Nat → Value} {q : Nat → Nat} {kt : CTag} {kx : Nat} {mt : MTag} {R : Nat → Prop}
  {Ls : Nat → LH} {Sh : Nat → Prop} {sv mv : Int}
theorem Sit.mTurn (hT : Takes p) (h : Sit p W0 S0 n0 gs w t j false st F cc cv q kt kx mt R Ls Sh sv mv) {g g' : Goroutine} {w' : World} {es : Array Event} (sl : Option (Nat × Nat)) (hx : gs[0]? = some g)
    (hgo : stepG p.P true g w = .go g' w' es) (hAs : Aside p.W w w')
    (hev : ∀ e ∈ es, (∀ x, (MemAct.ofEvent e).touch? = some x → x.kind ≠ .plain ∧ blkOf x.loc = some p.W ∧ (x.kind = .said → x.loc = .cell (smA p.W))) ∧ MemAct.ofEvent e ≠ .mark (.release (stA p.W)))
    {mt' : MTag} {T' : Tree} {sv' mv' : Int} (hst : MSt p mt' R T' (deafBehind (Deaf t 0) es) g' (Ls 0)) (hwg : WgAt p.ty p.W w' sv' mv') (hmp : mt' ≠ .park) (hnp : mt ≠ .park) (hjm : jOk p.n j false mt')
    (hmode : ConcN.Mode j (stg st) (tagOf kt mt') sv' mv') (hlt : mrank mt' < mrank mt) :
    ∃ m' ops μ', runT p.P (crowd gs w sl) 0 = (.next m', ops) ∧ MLt (p.base + p.n + 1) μ' (meas p j false st F kt kx mt) ∧ PInv p W0 S0 n0 μ' m' (t ++ ops) := by
  have hb := h.base1
  obtain ⟨rfl, rfl⟩ := h.kk rfl
  have hop : ∀ op ∈ MemOp.ofEvents 0 g.frame.fn g.frame.place es, op.g = 0 ∧ ∃ e ∈ es, op.act = .ofEvent e := fun op hop => by
    obtain ⟨e, he, hx⟩ := Go.Conc.mem_ofEvents hop
    rw [hx]; exact ⟨rfl, e, he, rfl⟩
  refine h.turn hT sl hx hgo (st' := st) (F' := upd F 0 T') (cc' := cc) (cv' := cv) (q' := q) (kt' := .kd) (kx' := 0) (mt' := mt') (Ls' := Ls) (Sh' := Sh) (sv' := sv') (mv' := mv')
      { hF := fun i hi => upd_ne _ _ hi, hL := fun i hi => rfl, hst := fun _ _ _ => ⟨rfl, rfl, rfl⟩, hq := fun i hi => rfl, hkt := fun e => ⟨rfl, rfl⟩, hmt := fun e => absurd rfl e, hmp := fun e => hmp,
        ho := fun h1 h2 => by omega, hwk := fun k hk e => by omega, hcl := fun e => (by cases e), hmn := fun e => by rw [upd_same]; exact hst,
        stages := fun k hk => (h.stages k hk).imp id fun x => ⟨x, fun e => absurd e hmp⟩, less := fun _ _ => Nat.le_refl _, jm := hjm, kk := fun e => ⟨rfl, rfl⟩, ncl := fun e1 e2 => (by cases e1), ncl' := rfl,
        res := h.res.sync (i := 0) ⟨hAs.size, fun b hb => hAs.block b fun e => hb (e ▸ h.shW)⟩ (.inl rfl) (fun op ho => (hop op ho).1) fun op ho x hx => ?_, sh := fun _ h => h, lib := h.lib, ccs := fun k hk _ h7 => hAs.block _ (h.lib k hk h7).2.1,
        same := ⟨hAs.tape.trans h.same.tape, hAs.os.trans h.same.os, hAs.output.trans h.same.out⟩, wg := hwg, mode := fun kt'' hk _ => ?_, ch := hAs.block _ (Ne.symm h.neC), cd := hAs.block _ (Ne.symm h.neD), relx := fun k hk e hr => by omega, rel := fun k hk e h6 => by omega,
        said := fun e he a ha hs => ⟨fun _ => rfl, fun e => (by cases e)⟩,
        norel := fun e he => (hev e he).2, atm := fun e he x hx _ => ⟨_, ((hev e he).1 x hx).2.1, .inl rfl⟩, who := .inl (.inl rfl), acq := fun e => by omega, nr := h.nr, lt := .inl (by omega) }
  · obtain ⟨_, e, he, hact⟩ := hop op ho
    rw [hact] at hx
    obtain ⟨h1, h2, h3⟩ := (hev e he).1 x hx
    exact ⟨h1, ⟨_, h2, .inl rfl⟩, fun hs idx a ha hl has => (h.said idx a ha (hl.trans (h3 hs)) has).1 rfl⟩
  · rcases hk with rfl | ⟨e, _⟩
    · exact hmode
    · cases e
theorem Sit.mStep (hT : Takes p) (h : Sit p W0 S0 n0 gs w t j ks st F cc cv q kt kx mt R Ls Sh sv mv) {g : Goroutine} (sl : Option (Nat × Nat)) (hx : gs[0]? = some g)
  (hm : MSt p mt R (F 0) (Deaf t 0) g (Ls 0)) (hrun : g.status = .running) :
  (∃ m' ops μ', runT p.P (crowd gs w sl) 0 = (.next m', ops) ∧ MLt (p.base + p.n + 1) μ' (meas p j ks st F kt kx mt) ∧ PInv p W0 S0 n0 μ' m' (t ++ ops)) ∨
  (∃ r, mt = .go r ∧ Deaf t 0 = 0 ∧ MGo p (p.n - (r + 1)) (MSp p r) g (Ls 0)) ∨ (mt = .gok ∧ Deaf t 0 = 0 ∧ MGoK p g (Ls 0)) ∨
  (mt = .sel ∧ F 0 = .leaf ∧ Deaf t 0 = 0 ∧ ((p.ML R g (Ls 0)) ∨ ∃ g₀ g₂ cs shape kf kd zf zd, g = { parked g₂ cs shape with status := .running } ∧ SelAt p R g₀ (Ls 0) g₂ cs shape kf kd zf zd)) := by
 have hsub := h.res.sub 0
 have hmo := h.mode
 have hjm := h.jm
 -- an own step
 have own : ∀ {S : Goroutine → LH → Prop} {mt' : MTag}, mt = mt' → mt' ≠ .park → (∀ T' g' L', At p.P true p.Φ S T' g' L' → MSt p mt' R T' (Deaf t 0) g' L') →
   (∀ w, Sub (Ls 0) w → p.Φ w → ∃ g' w' es L' T', stepG p.P true g w = .go g' w' es ∧ Tr (Ls 0) L' w w' es ∧ At p.P true p.Φ S T' g' L' ∧ Tree.sub T' (F 0)) →
   (∃ m' ops μ', runT p.P (crowd gs w sl) 0 = (.next m', ops) ∧ MLt (p.base + p.n + 1) μ' (meas p j ks st F kt kx mt) ∧ PInv p W0 S0 n0 μ' m' (t ++ ops)) := by
  intro S mt' e1 hnp hK hst
  subst e1
  obtain ⟨g', w', es, L', T', h1, h2, h3, h4⟩ := hst w hsub ⟨_, _, h.wg⟩
  have hb := h.base1
  exact h.ownStep hT sl hx (.inl rfl) h1 h2 h4 (fun _ => hnp) (fun k hk e => by omega) (fun _ e => by omega) (fun _ e => by omega) (fun _ => hK _ _ _ h3)
 generalize hTr : F 0 = T0 at hm
 generalize hde : Deaf t 0 = d0 at hm
 cases hm with
 | kd hat =>
  rcases hat.cases with ⟨⟨_, g', hgo, hn⟩, hl⟩ | ⟨_, hst⟩
  ·obtain ⟨rfl⟩ : ks = false := hjm.2
   obtain ⟨T', hT'⟩ := hn.at
   exact .inl (h.mTurn hT sl hx (hgo w) (.refl _ w) (ev_mk _ (by simp) (.inl (by simp))) (mt' := .add _) (T' := T') (by rw [hde]; exact .add hT') h.wg (by simp) (by simp) hjm hmo (by simp only [mrank]; omega))
  ·exact .inl (own rfl (by simp) (fun _ _ _ x => by rw [hde]; exact .kd x) (by rw [hTr]; exact hst))
 | @add r _ _ _ _ hat =>
  rcases hat.cases with ⟨⟨_, hall⟩, hl⟩ | ⟨_, hst⟩
  ·obtain ⟨rfl⟩ : ks = false := hjm.2
   have hV := Vc_le j (stg st)
   have hnn := h.nn
   have hjn := hjm.1
   cases hmo with
   | reg h1 => exact h1.elim
   | last L h1 => exact h1.elim
   | fin h1 => exact h1.elim
   | opn h1 h2 h3 =>
    have hwg := h.wg
    simp only [pend, Nat.not_succ_le_self, if_false, Nat.add_zero, show ¬ (5 ≤ 3) by omega] at hwg
    obtain ⟨g', hgo, hn⟩ := hall (Vc j (stg st)) (by omega)
    have hmode : ∀ tg, tg = CTag.sp r 3 → ConcN.Mode j (stg st) tg (((Vc j (stg st) : Nat) : Int) * KK + KK) 0 := by
     intro tg e
     subst e
     have := ConcN.Mode.opn (tag := .sp r 3) (j := j) (D := stg st) trivial h2 (by simp)
     have e : (((Vc j (stg st) + pend (CTag.sp r 3) : Nat) : Int) * KK) = ((Vc j (stg st) : Nat) : Int) * KK + KK := by
      simp only [pend, Nat.le_refl, if_true]
      rw [show ((Vc j (stg st) + 1 : Nat) : Int) = (Vc j (stg st) : Int) + 1 by omega, Int.add_mul, Int.one_mul]
     rw [e] at this
     exact this
    have hw' := hwg.setSt ((((Vc j (stg st) : Nat) : Int) + 1) * KK)
    have e1 : ((((Vc j (stg st) : Nat) : Int) + 1) * KK) = ((Vc j (stg st) : Nat) : Int) * KK + KK := by rw [Int.add_mul, Int.one_mul]
    rcases hn with hn | hn
    ·obtain ⟨T', hT'⟩ := hn.at
     exact .inl (h.mTurn hT sl hx (hgo w hwg) (aside_setCell w (stA p.W) _) (ev_rw _) (mt' := .said _) (T' := T') (by rw [hde]; exact .said hT') hw' (by simp) (by simp) hjm (by rw [e1]; exact hmode _ rfl) (by simp only [mrank]; omega))
    ·obtain ⟨T', hT'⟩ := hn.at
     exact .inl (h.mTurn hT sl hx (hgo w hwg) (aside_setCell w (stA p.W) _) (ev_rw _) (mt' := .en _) (T' := T') (by rw [hde]; exact .en hT') hw' (by simp) (by simp) hjm (by rw [e1]; exact hmode _ rfl) (by simp only [mrank]; omega))
  ·exact .inl (own rfl (by simp) (fun _ _ _ x => by rw [hde]; exact .add x) (by rw [hTr]; exact hst))
 | said hat =>
  rcases hat.cases with ⟨⟨_, g', hgo, hn⟩, hl⟩ | ⟨_, hst⟩
  ·obtain ⟨rfl⟩ : ks = false := hjm.2
   obtain ⟨T', hT'⟩ := hn.at
   exact .inl (h.mTurn hT sl hx (hgo w) (.refl _ w) (ev_mk _ (by simp) (.inr (.inr rfl))) (mt' := .en _) (T' := T') (by rw [hde]; exact .en hT') h.wg (by simp) (by simp) hjm hmo (by simp only [mrank]; omega))
  ·exact .inl (own rfl (by simp) (fun _ _ _ x => by rw [hde]; exact .said x) (by rw [hTr]; exact hst))
 | en hat =>
  rcases hat.cases with ⟨⟨_, g', hgo, hn⟩, hl⟩ | ⟨_, hst⟩
  ·obtain ⟨rfl⟩ : ks = false := hjm.2
   obtain ⟨T', hT'⟩ := hn.at
   exact .inl (h.mTurn hT sl hx (hgo w) (.refl _ w) (ev_mk _ (by simp) (.inl (by simp))) (mt' := .go _) (T' := T') (by rw [hde]; exact .go hT') h.wg (by simp) (by simp) hjm hmo (by simp only [mrank]; omega))
  ·exact .inl (own rfl (by simp) (fun _ _ _ x => by rw [hde]; exact .en x) (by rw [hTr]; exact hst))
 | go hat =>
  rcases hat.cases with ⟨hs, hl⟩ | ⟨_, hst⟩
  ·exact .inr (.inl ⟨_, rfl, rfl, hs⟩)
  ·exact .inl (own rfl (by simp) (fun _ _ _ x => by rw [hde]; exact .go x) (by rw [hTr]; exact hst))
 | gok hat =>
  rcases hat.cases with ⟨hs, hl⟩ | ⟨_, hst⟩
  ·exact .inr (.inr (.inl ⟨rfl, rfl, hs⟩))
  ·exact .inl (own rfl (by simp) (fun _ _ _ x => by rw [hde]; exact .gok x) (by rw [hTr]; exact hst))
 | sel hat =>
  rcases hat.cases with ⟨hs, hl⟩ | ⟨_, hst⟩
  ·exact .inr (.inr (.inr ⟨rfl, hl, rfl, .inl hs⟩))
  ·exact .inl (own rfl (by simp) (fun _ _ _ x => by rw [hde]; exact .sel x) (by rw [hTr]; exact hst))
 | again hs => exact .inr (.inr (.inr ⟨rfl, rfl, rfl, .inr ⟨_, _, _, _, _, _, _, _, rfl, hs⟩⟩))
 | park hs => cases hrun
end Go.Mz

