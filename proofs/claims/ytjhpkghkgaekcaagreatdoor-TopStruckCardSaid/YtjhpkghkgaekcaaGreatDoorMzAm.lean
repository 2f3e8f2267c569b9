/- Lemmas on which the claim leans. -/
import Derived.Test.YtjhpkghkgaekcaaGreatDoorMzAl
import Derived.Conc.Token
namespace Go.Mz
open Go.Conc Go.ConcN
open Go.ConcR (KK wgBlock WgAt stA smA rd wr mk Payload Aside2 DC0 Bk bk_of_mute)
structure Pool where
 P : Program
 ty : Nat
 W : Nat
 C : Nat
 D : Nat
 n : Nat
 base : Nat
 out : Nat → Value → LH → Prop
 mute : Nat → Prop
 ML : (Nat → Prop) → Goroutine → LH → Prop
 Anch : Goroutine → LH → Prop
 Fin : Goroutine → LH → Prop
variable (p : Pool)
section
end
inductive MTag where
 | kd (r : Nat) | add (r : Nat) | said (r : Nat) | en (r : Nat) | go (r : Nat) | gok | sel | park
variable {p}
end Go.Mz


namespace Go.Mz
open Go.Conc Go.ConcN
open Go.ConcR (KK wgBlock WgAt stA smA rd wr mk Payload Aside2 DC0 Bk bk_of_mute)
variable {p : Pool}
section
variable {gs : Array Goroutine} {w w' : World} {t u : Trace} {j : Nat} {ks : Bool} {st : Nat → Nat} {F F' : Nat → Tree} {cc : Nat → Nat} {cv : Nat → Value} {q : Nat → Nat} {kt : CTag} {kx : Nat} {mt : MTag} {R : Nat → Prop} {Ls Ls' : Nat → LH} {x : Nat}
end
end Go.Mz


namespace Go.Mz
open Go.Conc Go.ConcN
open Go.ConcR (KK wgBlock WgAt stA smA rd wr mk Payload Aside2 DC0 Bk bk_of_mute)
variable (p : Pool)
def bit (kt : CTag) (kx : Nat) : Nat := match kt, kx with | .w3, 0 => 1 | _, _ => 0
variable {p}
section
variable {S0 : Nat → Prop} {n0 size : Nat} {t u : Trace}
end
end Go.Mz


namespace Go.Mz
open Go.Conc Go.ConcN
open Go.ConcR (KK wgBlock WgAt stA smA rd wr mk Payload Aside2 DC0 Bk bk_of_mute)
variable {p : Pool}
section
variable {W0 : World} {S0 : Nat → Prop} {n0 : Nat} {gs : Array Goroutine} {w : World} {t : Trace} {j : Nat} {ks : Bool} {st : Nat → Nat} {F : Nat → Tree} {cc : Nat → Nat} {cv : Nat → Value} {q : Nat → Nat} {kt : CTag} {kx : Nat} {mt : MTag} {R : Nat → Prop}
  {Ls : Nat → LH} {Sh : Nat → Prop} {sv mv : Int}
end
end Go.Mz


namespace Go.Mz
open Go.Conc Go.ConcN
open Go.ConcR (KK wgBlock WgAt stA smA rd wr mk Payload Aside2 DC0 Bk bk_of_mute)
variable {p : Pool} {W0 : World} {S0 : Nat → Prop} {n0 : Nat} {gs : Array Goroutine} {w : World} {t : Trace} {j : Nat} {ks : Bool} {st : Nat → Nat} {F : Nat → Tree} {cc : Nat → Nat} {cv : Nat → Value} {q : Nat → Nat} {kt : CTag} {kx : Nat} {mt : MTag} {R : Nat → Prop}
  {Ls : Nat → LH} {Sh : Nat → Prop} {sv mv : Int}
end Go.Mz


namespace Go.Mz
open Go.Conc Go.ConcN
open Go.ConcR (KK wgBlock WgAt stA smA rd wr mk Payload Aside2 DC0 Bk bk_of_mute)
section
variable {j i : Nat} {D : Nat → WD} {tag : CTag} {sv mv : Int}
end
variable {p : Pool} {W0 : World} {S0 : Nat → Prop} {n0 : Nat} {gs : Array Goroutine} {w : World} {t : Trace} {j : Nat} {ks : Bool} {st : Nat → Nat} {F : Nat → Tree} {cc : Nat → Nat} {cv : Nat → Value} {q : Nat → Nat} {kt : CTag} {kx : Nat} {mt : MTag} {R : Nat → Prop}
  {Ls : Nat → LH} {Sh : Nat → Prop} {sv mv : Int}
end Go.Mz


namespace Go.Mz
open Go.Conc Go.ConcN
open Go.ConcR (KK wgBlock WgAt stA smA rd wr mk Payload Aside2 DC0 Bk bk_of_mute)
variable {p : Pool} {W0 : World} {S0 : Nat → Prop} {n0 : Nat} {gs : Array Goroutine} {w : World} {t : Trace} {j : Nat} {ks : Bool} {st : Nat → Nat} {F : Nat → Tree} {cc : Nat → Nat} {cv : Nat → Value} {q : Nat → Nat} {kt : CTag} {kx : Nat} {mt : MTag} {R : Nat → Prop}
  {Ls : Nat → LH} {Sh : Nat → Prop} {sv mv : Int}
end Go.Mz


namespace Go.Mz
open Go.Conc Go.ConcN
open Go.ConcR (KK wgBlock WgAt stA smA rd wr Payload Aside2 DC0 Bk bk_of_mute)
variable {p : Pool} {W0 : World} {S0 : Nat → Prop} {n0 : Nat} {gs : Array Goroutine} {w : World} {t : Trace} {j : Nat} {ks : Bool} {st : Nat → Nat} {F : Nat → Tree} {cc : Nat → Nat} {cv : Nat → Value} {q : Nat → Nat} {kt : CTag} {kx : Nat} {mt : MTag} {R : Nat → Prop}
  {Ls : Nat → LH} {Sh : Nat → Prop} {sv mv : Int}
end Go.Mz


namespace Go.Mz
open Go.Conc Go.ConcN
open Go.ConcR (KK wgBlock WgAt stA smA rd wr Payload Aside2 DC0 Bk bk_of_mute)
variable {p : Pool} {W0 : World} {S0 : Nat → Prop} {n0 : Nat} {gs : Array Goroutine} {w : World} {t : Trace} {j : Nat} {ks : Bool} {st : Nat → Nat} {F : Nat → Tree} {cc : Nat → Nat} {cv : Nat → Value} {q : Nat → Nat} {kt : CTag} {kx : Nat} {mt : MTag} {R : Nat → Prop}
  {Ls : Nat → LH} {Sh : Nat → Prop} {sv mv : Int}
end Go.Mz


namespace Go.Mz
open Go.Conc Go.ConcN
open Go.ConcR (KK wgBlock WgAt stA smA rd wr Payload Aside2 DC0 Bk bk_of_mute)
variable {p : Pool} {W0 : World} {S0 : Nat → Prop} {n0 : Nat} {gs gs' : Array Goroutine} {w : World} {t : Trace} {j : Nat} {ks : Bool} {st : Nat → Nat} {F : Nat → Tree} {cc : Nat → Nat} {cv : Nat → Value} {q : Nat → Nat} {kt : CTag} {kx : Nat} {mt : MTag} {R : Nat → Prop}
  {Ls : Nat → LH} {Sh : Nat → Prop} {sv mv : Int}
end Go.Mz


namespace Go.Mz
open Go.Conc Go.ConcN
open Go.ConcR (KK wgBlock WgAt stA smA rd wr Payload Aside2 DC0 Bk bk_of_mute)
variable {p : Pool} {W0 : World} {S0 : Nat → Prop} {n0 : Nat} {gs gs' : Array Goroutine} {w : World} {t : Trace} {j : Nat} {ks : Bool} {st : Nat → Nat} {F : Nat → Tree} {cc : Nat → Nat} {cv : Nat → Value} {q : Nat → Nat} {kt : CTag} {kx : Nat} {mt : MTag} {R : Nat → Prop}
  {Ls : Nat → LH} {Sh : Nat → Prop} {sv mv : Int}
end Go.Mz


namespace Go.Mz
open Go.Conc Go.ConcN
open Go.ConcR (KK wgBlock WgAt stA smA rd wr Payload Aside2 DC0 Bk bk_of_mute)
variable {p : Pool} {W0 : World} {S0 : Nat → Prop} {n0 : Nat} {gs gs' : Array Goroutine} {w : World} {t : Trace} {j : Nat} {ks : Bool} {st : Nat → Nat} {F : Nat → Tree} {cc : Nat → Nat} {cv : Nat → Value} {q : Nat → Nat} {kt : CTag} {kx : Nat} {mt : MTag} {R : Nat → Prop}
  {Ls : Nat → LH} {Sh : Nat → Prop} {sv mv : Int}
end Go.Mz


namespace Go.Mz
open Go.Conc Go.ConcN
open Go.ConcR (KK wgBlock WgAt stA smA rd wr Payload Aside2 DC0 Bk bk_of_mute)
variable {p : Pool} {W0 : World} {Post : Value → World → Prop} {S0 : Nat → Prop} {n0 : Nat} {gs gs' : Array Goroutine} {w : World} {t : Trace} {j : Nat} {ks : Bool} {st : Nat → Nat} {F : Nat → Tree} {cc : Nat → Nat} {cv : Nat → Value} {q : Nat → Nat} {kt : CTag} {kx : Nat} {mt : MTag} {R : Nat → Prop}
  {Ls : Nat → LH} {Sh : Nat → Prop} {sv mv : Int}
end Go.Mz


namespace Go.Mz
open Go.Conc Go.ConcN
open Go.ConcR (KK wgBlock WgAt stA smA rd wr Payload Aside2 DC0 Bk bk_of_mute)
end Go.Mz

