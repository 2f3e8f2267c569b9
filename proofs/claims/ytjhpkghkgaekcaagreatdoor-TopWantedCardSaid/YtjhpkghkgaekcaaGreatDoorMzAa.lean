/- Lemmas for the claim. -/
import Derived.KernelRfl
import Derived.Conc.Own
set_option linter.defProp false
namespace Go.Mz
open Go.Conc
def O {α:Sort _}{a:α}:a=a:=rfl
def M{p:Prop}(h:p:=by omega):p:=h
def U{p:Prop}(h:p:=by simp):p:=h
def V{p:Prop}(h:p:=by decide):p:=h
def aN{p:Prop}(h:p:=by kernel_rfl):p:=h
def bU{p:Prop}(h:p:=by simp;omega):p:=h
def dV{p:Prop}(h:p:=by rintro _ _ _ ⟨rfl,rfl,rfl⟩;exact⟨ij _,rfl,.inl rfl⟩):p:=h
def eA{p:Prop}(h:p:=by cases e):p:=h
def iu{p:Prop}(h:p:=by decide+kernel):p:=h
def lB{p:Prop}(h:p:=by rcases e with e | e <;> cases e):p:=h
def mw{p:Prop}(h:p:=by simpa using c1):p:=h
def jw{p:Prop}(h:p:=by rintro _ _ ⟨rfl,rfl⟩;exact Le.refl _):p:=h
def kO{p:Prop}(h:p:=by exact⟨rfl,rfl,trivial⟩):p:=h
def lA{p:Prop}(h:p:=by simpa using c):p:=h
def lX{p:Prop}(h:p:=by simp[MemAct.ofEvent]):p:=h
def lY{p:Prop}(h:p:=by intro e;cases e):p:=h
def lZ{p:Prop}(h:p:=by rcases r.kd with e | e <;> rw[e] <;> decide):p:=h
def nj{p:Prop}(h:p:=by rintro _ _ _ ⟨rfl,rfl,rfl⟩;exact⟨ij _,rfl,.inr rfl⟩):p:=h
def oO{p:Prop}(h:p:=by rw[r.ro]):p:=h
def oP{p:Prop}(h:p:=by simp[Bp,Db,Dc]):p:=h
def qx{p:Prop}(h:p:=by rw[t];simp only[jl.eY];omega):p:=h
def qy{p:Prop}(h:p:=by exact trivial):p:=h
def ri{p:Prop}(h:p:=by simpa using h):p:=h
def rj{p:Prop}(h:p:=by exact⟨rfl,rfl,rfl,rfl,rfl,rfl,rfl,trivial⟩):p:=h
def sV{p:Prop}(h:p:=by exact⟨rfl,trivial⟩):p:=h
def uR{p:Prop}(h:p:=by simp only[v];omega):p:=h
def uS{p:Prop}(h:p:=by rw[H];rfl):p:=h
def uT{p:Prop}(h:p:=by simpa using c2):p:=h
def uU{p:Prop}(h:p:=by exact⟨rfl,rfl,rfl,rfl,rfl,rfl,trivial⟩):p:=h
def wu{p:Prop}(h:p:=by simpa using q):p:=h
def wz{p:Prop}(h:p:=by simp at c1;omega):p:=h
def wA{p:Prop}(h:p:=by simp at c2;omega):p:=h
def xQ{p:Prop}(h:p:=by simpa using e):p:=h
def xR{p:Prop}(h:p:=by simp at F;omega):p:=h
def xS{p:Prop}(h:p:=by rw[o];exact J):p:=h
def xT{p:Prop}(h:p:=by rw[e];simp):p:=h
def xU{p:Prop}(h:p:=by simp only;omega):p:=h
def xV{p:Prop}(h:p:=by simp[cV,i]):p:=h
def xW{p:Prop}(h:p:=by simpa [Dc,i] using q):p:=h
def xX{p:Prop}(h:p:=by simpa using e1):p:=h
def xY{p:Prop}(h:p:=by rw[f];omega):p:=h
def As{p:Prop}(h:p:=by simp only[lV];omega):p:=h
def Au{p:Prop}(h:p:=by first | exact Nat.zero_le _ | assumption):p:=h
def Av{p:Prop}(h:p:=by simp at e;omega):p:=h
def Aw{p:Prop}(h:p:=by exact O):p:=h
def C1{p:Prop}(h:p:=by simpa using t):p:=h
def C2{p:Prop}(h:p:=by rw[o];exact y):p:=h
def C3{p:Prop}(h:p:=by rw[c1,c2];rfl):p:=h
def FZ{p:Prop}(h:p:=by rw[u];simp):p:=h
def F0{p:Prop}(h:p:=by rw[hx];simp):p:=h
def F1{p:Prop}(h:p:=by simpa using v):p:=h
def F2{p:Prop}(h:p:=by rw[<-kp];exact hj):p:=h
def F3{p:Prop}(h:p:=by simpa using D):p:=h
def F4{p:Prop}(h:p:=by simpa using g):p:=h
def F5{p:Prop}(h:p:=by rw[z];exact e):p:=h
def F6{p:Prop}(h:p:=by simp only[loc];omega):p:=h
def F7{p:Prop}(h:p:=by rw[a];simp[jl.deaf,deafBehind,Go.ConcR.mk]):p:=h
def F8{p:Prop}(h:p:=by unfold cV;rw[c];rfl):p:=h
def F9{p:Prop}(h:p:=by simp at c1 c2;simp[c1,c2]):p:=h
def Ga{p:Prop}(h:p:=by split <;> omega):p:=h
def Gc{p:Prop}(h:p:=by exact⟨rfl,rfl,rfl,rfl,rfl,rfl,rfl,rfl,trivial⟩):p:=h
def Gd{p:Prop}(h:p:=by rintro _ _ ⟨_,_,rfl,o,_⟩;exact o):p:=h
def Ge{p:Prop}(h:p:=by simpa using e2):p:=h
def Gg{p:Prop}(h:p:=by rw[List.length_append];rfl):p:=h
def Lh{p:Prop}(h:p:=by simpa using s):p:=h
def Li{p:Prop}(h:p:=by simpa using G):p:=h
def Lj{p:Prop}(h:p:=by simpa using f):p:=h
def Ll{p:Prop}(h:p:=by simpa using u):p:=h
def Lo{p:Prop}(h:p:=by rw[List.length_take];omega):p:=h
def Lp{p:Prop}(h:p:=by rw[<-wO h s,<-List.map_toArray]):p:=h
def Lq{p:Prop}(h:p:=by simp[deafBehind]):p:=h
def Lr{p:Prop}(h:p:=by simp only[jj];omega):p:=h
def Lt{p:Prop}(h:p:=by rw[<-hY];exact⟨rfl,rfl⟩):p:=h
def Lu{p:Prop}(h:p:=by simpa using x):p:=h
def Lv{p:Prop}(h:p:=by rw[H];simp[Ph.eY]):p:=h
def Lw{p:Prop}(h:p:=by simpa using w):p:=h
def Lx{p:Prop}(h:p:=by simpa using m):p:=h
def Ly{p:Prop}(h:p:=by simpa using z):p:=h
def LA{p:Prop}(h:p:=by rintro _ _ _ ⟨rfl,rfl,rfl⟩;exact⟨Le.refl _,rfl,.inr rfl⟩):p:=h
def LB{p:Prop}(h:p:=by exact⟨rfl,rfl,rfl,rfl,trivial⟩):p:=h
def LD{p:Prop}(h:p:=by simpa using he):p:=h
def LF{p:Prop}(h:p:=by rw[t];exact Q):p:=h
def LG{p:Prop}(h:p:=by rw[S.o];simp):p:=h
def LI{p:Prop}(h:p:=by rintro _ _ _ ⟨_,_,rfl,rfl,_,_⟩;exact⟨ij _,rfl,.inl rfl⟩):p:=h
def QR{p:Prop}(h:p:=by rw[kp];exact hj):p:=h
def QS{p:Prop}(h:p:=by rw[dO,if_pos rfl]):p:=h
def QT{p:Prop}(h:p:=by rw[aB _ _ (Ne.symm i)];exact g2):p:=h
def QU{p:Prop}(h:p:=by rw[Trace.g?,u5];simp[v.1]):p:=h
def QV{p:Prop}(h:p:=by unfold Bu at I;rw[H] at I;exact I):p:=h
def QW{p:Prop}(h:p:=by rw[a];simp[jl.deaf,deafBehind,rd]):p:=h
def QX{p:Prop}(h:p:=by rw[aj];simp):p:=h
def QY{p:Prop}(h:p:=by rw[bM,Nat.zero_add]):p:=h
def QZ{p:Prop}(h:p:=by rw[<-Bool.not_and,h];simp):p:=h
def Q0{p:Prop}(h:p:=by simp[cV];omega):p:=h
def Q1{p:Prop}(h:p:=by rintro _ _ ⟨rfl,o⟩;exact o):p:=h
def Q2{p:Prop}(h:p:=by rw[aj];exact congrArg (λc=>some (Obj.cells c 188 (0,0),true)) D):p:=h
def Q3{p:Prop}(h:p:=by unfold LH.bT;rw[if_pos rfl]):p:=h
def Ig{p:Prop}(h:p:=by show(kd:Int)<_;omega):p:=h
def Qp{p:Prop}(h:p:=by rw[aB _ _ i];exact p):p:=h
def Qq{p:Prop}(h:p:=by cases k <;> first | rfl | cases h):p:=h
def Qr{p:Prop}(h:p:=by rw[touchAt_of sJ];exact m):p:=h
def Qs{p:Prop}(h:p:=by simp[deafBehind,semEvents]):p:=h
def Qt{p:Prop}(h:p:=by have:=h.lt_size f;omega):p:=h
def Qu{p:Prop}(h:p:=by rw[<-hX];exact⟨rfl,rfl⟩):p:=h
def Qv{p:Prop}(h:p:=by rw[touchAt_of JA];exact t):p:=h
def Qw{p:Prop}(h:p:=by simp only[loc,sP];omega):p:=h
def Qx{p:Prop}(h:p:=by simp only[loc];rw[adS hw];omega):p:=h
def Qz{p:Prop}(h:p:=by cases hp:(ws k).ph <;> first | rfl | exact absurd hp hd'):p:=h
def QA{p:Prop}(h:p:=by rw[hd,H];simp[Ph.deaf,deafBehind,Go.ConcR.mk]):p:=h
def QB{p:Prop}(h:p:=by rw[H];simp[Ph.deaf,deafBehind,Go.ConcR.mk]):p:=h
def QC{p:Prop}(h:p:=by rw[a];simp[jl.deaf,deafBehind,rd,wr]):p:=h
def QD{p:Prop}(h:p:=by rw[<-Bool.not_and,h];rfl):p:=h
def QE{p:Prop}(h:p:=by unfold gy;simp[i,cV,Dc,lv] at q ⊢;intro h;omega):p:=h
def QF{p:Prop}(h:p:=by rw[List.length_append,List.length_singleton];omega):p:=h
def QG{p:Prop}(h:p:=by rw[List.length_append];omega):p:=h
def QH{p:Prop}(h:p:=by have:=h.a;show 0<=P.a/\P.a<=c+60;omega):p:=h
def QI{p:Prop}(h:p:=by rw[List.size_toArray,f];show 0+0+k * 1+1<=10;omega):p:=h
def QJ{p:Prop}(h:p:=by rw[List.size_toArray,o];show 0+3+k * 1+1<=10;omega):p:=h
def QK{p:Prop}(h:p:=by rw[IntKind.wrap_i32];omega):p:=h
def QL{p:Prop}(h:p:=by rintro _ _ _ ⟨_,rfl,rfl,F,_⟩;exact⟨ij _,rfl,.inl rfl⟩):p:=h
def QM{p:Prop}(h:p:=by unfold LH.bT;rw[if_pos O]):p:=h
def QO{p:Prop}(h:p:=by exact(show 0+i * 1+1<=4 by omega)):p:=h
def QP{p:Prop}(h:p:=by rw[List.length_singleton];omega):p:=h
def Yz{p:Prop}(h:p:=by rw[show j - n=(j - (n+1))+1 by omega];simpa using z):p:=h
def YA{p:Prop}(h:p:=by intro e z;simp at z;subst z;exact bk_cell _ _ rfl):p:=h
def YB{p:Prop}(h:p:=by have:=le_sumTo (f:=λx=>cnt (D x)) i;simp only[Vc];omega):p:=h
def YD{p:Prop}(h:p:=by rw[show p.base+(J.g - p.base)=J.g by omega];exact hr):p:=h
def YE{p:Prop}(h:p:=by cases hp:s'.ph <;> first | rfl | exact absurd hp hd):p:=h
def YF{p:Prop}(h:p:=by rw[show(C.base+k==0)=false by simp;omega];exact d):p:=h
def YG{p:Prop}(h:p:=by show i+1<=_;rw[List.size_toArray,List.length_append,List.length_map,List.length_replicate];omega):p:=h
def YH{p:Prop}(h:p:=by rintro _ _ _ ⟨_,rfl,rfl,_,_⟩;exact⟨ij _,rfl,.inl rfl⟩):p:=h
def YI{p:Prop}(h:p:=by rintro _ _ _ ⟨_,rfl,rfl,rfl,rfl⟩;exact⟨ij _,rfl,.inl rfl⟩):p:=h
def YK{p:Prop}(h:p:=by rw[<-Nat.succ_mul];exact Nat.mul_le_mul_right _ f):p:=h
def YL{p:Prop}(h:p:=by rw[aj];exact congrArg (λc=>some (Obj.cells c 239 (0,0),true)) F):p:=h
def YM{p:Prop}(h:p:=by simp only[List.length_append,List.length_cons,List.length_nil];omega):p:=h
def YN{p:Prop}(h:p:=by show(s.aC++[x]).length<=5;have:=h.w5;simp;omega):p:=h
def YO{p:Prop}(h:p:=by unfold nM;rw[List.length_map,List.length_take,List.length_map];omega):p:=h
def YP{p:Prop}(h:p:=by exact⟨rfl,rfl,rfl,rfl,rfl,rfl,rfl,rfl,rfl,rfl,trivial⟩):p:=h
def bR:type_of%@Option.some.inj:=@Option.some.inj
def bX:type_of%@List.getElem?_eq_getElem:=@List.getElem?_eq_getElem
def dA:type_of%@Nat.le_refl:=@Nat.le_refl
def dG:type_of%@Ne.symm:=@Ne.symm
def eP:type_of%@List.mem_cons:=@List.mem_cons
def eT:type_of%@List.length_map:=@List.length_map
def fC:type_of%@List.mem_cons_self:=@List.mem_cons_self
def fG:type_of%@List.mem_cons_of_mem:=@List.mem_cons_of_mem
def fK:type_of%@List.mem_map:=@List.mem_map
def fZ:type_of%@List.mem_of_getElem?:=@List.mem_of_getElem?
def dJ:type_of%@List.mem_singleton:=@List.mem_singleton
def dL:type_of%@List.getD_eq_getElem?_getD:=@List.getD_eq_getElem?_getD
def eO:type_of%@List.getElem?_eq_some_iff:=@List.getElem?_eq_some_iff
def eX:type_of%@List.length_append:=@List.length_append
def fg:type_of%@List.mem_append:=@List.mem_append
def fj:type_of%@Nat.zero_le:=@Nat.zero_le
def fo:type_of%@List.mem_range:=@List.mem_range
def fY:type_of%@List.getElem_mem:=@List.getElem_mem
def gq:type_of%@List.getElem?_toArray:=@List.getElem?_toArray
def il:type_of%@Option.map_eq_some_iff:=@Option.map_eq_some_iff
def im:type_of%@List.getElem?_map:=@List.getElem?_map
def iq:type_of%@List.map_append:=@List.map_append
def iH:type_of%@List.map_cons:=@List.map_cons
def iL:type_of%@Array.getElem?_eq_some_iff:=@Array.getElem?_eq_some_iff
def iM:type_of%@Bool.false_eq_true:=@Bool.false_eq_true
def iN:type_of%@Array.getElem?_toList:=@Array.getElem?_toList
def ja:type_of%@List.take_succ_eq_append_getElem:=@List.take_succ_eq_append_getElem
def jI:type_of%@Array.getElem?_setIfInBounds_ne:=@Array.getElem?_setIfInBounds_ne
def jJ:type_of%@Nat.zero_add:=@Nat.zero_add
def kB:type_of%@List.not_mem_nil:=@List.not_mem_nil
def kR:type_of%@Option.some.injEq:=@Option.some.injEq
def kS:type_of%@List.getElem?_append_left:=@List.getElem?_append_left
def kT:type_of%@Int.toNat_natCast:=@Int.toNat_natCast
def lg:type_of%@Nat.lt_of_lt_of_le:=@Nat.lt_of_lt_of_le
def lh:type_of%@List.getElem?_append_right:=@List.getElem?_append_right
def lj:type_of%@List.drop_eq_getElem_cons:=@List.drop_eq_getElem_cons
def lI:type_of%@Nat.le_trans:=@Nat.le_trans
def lJ:type_of%@List.foldl_cons:=@List.foldl_cons
def lK:type_of%@List.take_length:=@List.take_length
def mg:type_of%@Option.map_some:=@Option.map_some
def mh:type_of%@List.getElem?_eq_none:=@List.getElem?_eq_none
def mi:type_of%@List.length_take:=@List.length_take
def mK:type_of%@List.all_eq_true:=@List.all_eq_true
def mW:type_of%@List.length_singleton:=@List.length_singleton
def nF:type_of%@Bool.and_eq_true:=@Bool.and_eq_true
def nG:type_of%@List.map_nil:=@List.map_nil
def nH:type_of%@List.mem_filter:=@List.mem_filter
def nI:type_of%@List.range_succ:=@List.range_succ
def nW:type_of%@Nat.not_lt_zero:=@Nat.not_lt_zero
def nX:type_of%@List.drop_of_length_le:=@List.drop_of_length_le
def oY:type_of%@List.map_toArray:=@List.map_toArray
def oZ:type_of%@Array.getElem?_setIfInBounds_self_of_lt:=@Array.getElem?_setIfInBounds_self_of_lt
def pf:type_of%@List.append_nil:=@List.append_nil
def pR:type_of%@List.length_cons:=@List.length_cons
def pT:type_of%@Nat.add_zero:=@Nat.add_zero
def pU:type_of%@Nat.eq_zero_or_pos:=@Nat.eq_zero_or_pos
def qE:type_of%@Nat.le_of_ble_eq_true:=@Nat.le_of_ble_eq_true
def qF:type_of%@Classical.byContradiction:=@Classical.byContradiction
def qG:type_of%@List.take_of_length_le:=@List.take_of_length_le
def rQ:type_of%@Array.append_empty:=@Array.append_empty
def rT:type_of%@List.flatMap_cons:=@List.flatMap_cons
def tp:type_of%@List.mem_flatMap:=@List.mem_flatMap
def tq:type_of%@List.append_assoc:=@List.append_assoc
def uo:type_of%@Array.empty_append:=@Array.empty_append
def uq:type_of%@Nat.eq_of_beq_eq_true:=@Nat.eq_of_beq_eq_true
def uu:type_of%@Nat.sub_self:=@Nat.sub_self
def vp:type_of%@Bool.or_eq_true:=@Bool.or_eq_true
def vq:type_of%@Nat.mul_one:=@Nat.mul_one
def vr:type_of%@List.mem_iff_getElem?:=@List.mem_iff_getElem?
def vt:type_of%@List.length_range:=@List.length_range
def wF:type_of%@Bool.not_eq_true':=@Bool.not_eq_true'
def wG:type_of%@List.size_toArray:=@List.size_toArray
def wH:type_of%@Nat.sub_zero:=@Nat.sub_zero
def yn:type_of%@Array.getElem?_map:=@Array.getElem?_map
def yo:type_of%@List.mem_of_mem_take:=@List.mem_of_mem_take
def yp:type_of%@List.nil_append:=@List.nil_append
def zb:type_of%@Option.getD_some:=@Option.getD_some
def zc:type_of%@List.getElem?_cons_zero:=@List.getElem?_cons_zero
def ze:type_of%@List.flatMap_append:=@List.flatMap_append
def zg:type_of%@Bool.and_false:=@Bool.and_false
def zh:type_of%@List.mem_toArray:=@List.mem_toArray
def zi:type_of%@List.foldl_append:=@List.foldl_append
def zk:type_of%@List.length_replicate:=@List.length_replicate
def Bw:type_of%@Array.getElem?_eq_getElem:=@Array.getElem?_eq_getElem
def By:type_of%@Bool.false_or:=@Bool.false_or
def Bz:type_of%@List.all_cons:=@List.all_cons
def BA:type_of%@Int.mul_nonneg:=@Int.mul_nonneg
def BB:type_of%@List.length_filter_le:=@List.length_filter_le
def Ds:type_of%@Array.getD_eq_getD_getElem?:=@Array.getD_eq_getD_getElem?
def Dt:type_of%@List.length_eq_zero_iff:=@List.length_eq_zero_iff
def Du:type_of%@Int.le_refl:=@Int.le_refl
def Dv:type_of%@Bool.not_eq_false:=@Bool.not_eq_false
def Dw:type_of%@List.pairwise_cons:=@List.pairwise_cons
def Dx:type_of%@Int.mul_le_mul:=@Int.mul_le_mul
def GC:type_of%@Array.getElem?_push:=@Array.getElem?_push
def GD:type_of%@Array.mapM_eq_mapM_toList:=@Array.mapM_eq_mapM_toList
def GF:type_of%@Bool.true_and:=@Bool.true_and
def GG:type_of%@List.getElem?_set_ne:=@List.getElem?_set_ne
def GH:type_of%@Array.length_toList:=@Array.length_toList
def GJ:type_of%@Array.toArray_toList:=@Array.toArray_toList
def yN:type_of%@Nat.testBit_or:=@Nat.testBit_or
def yO:type_of%@Nat.zero_mul:=@Nat.zero_mul
def yP:type_of%@Nat.add_mul:=@Nat.add_mul
def yQ:type_of%@Bool.false_and:=@Bool.false_and
def yR:type_of%@Nat.min_eq_left:=@Nat.min_eq_left
def yS:type_of%@Bool.toNat_true:=@Bool.toNat_true
def yT:type_of%@List.mem_append_left:=@List.mem_append_left
def yU:type_of%@List.ext_getElem?:=@List.ext_getElem?
def yV:type_of%@List.filter_cons:=@List.filter_cons
def yW:type_of%@List.map_map:=@List.map_map
def yX:type_of%@List.map_congr_left:=@List.map_congr_left
def yY:type_of%@List.filter_append:=@List.filter_append
def yZ:type_of%@List.length_drop:=@List.length_drop
def za:type_of%@Array.toList_push:=@Array.toList_push
def Cf:type_of%@Bool.not_eq_true:=@Bool.not_eq_true
def Cg:type_of%@Option.map_none:=@Option.map_none
def Ch:type_of%@List.mapM_cons:=@List.mapM_cons
def Ci:type_of%@Bool.not_true:=@Bool.not_true
def Cj:type_of%@List.set_cons_zero:=@List.set_cons_zero
def Cl:type_of%@Bool.not_false:=@Bool.not_false
def Cm:type_of%@Array.size_append:=@Array.size_append
def Cn:type_of%@Nat.lt_or_ge:=@Nat.lt_or_ge
def Co:type_of%@Bool.and_true:=@Bool.and_true
def Cp:type_of%@List.cons.inj:=@List.cons.inj
def Cq:type_of%@Nat.pow_le_pow_right:=@Nat.pow_le_pow_right
def E6:type_of%@Array.ext_getElem?:=@Array.ext_getElem?
def E7:type_of%@List.getElem?_set_self:=@List.getElem?_set_self
def E8:type_of%@List.any_eq_true:=@List.any_eq_true
def E9:type_of%@Nat.mul_le_mul:=@Nat.mul_le_mul
def Fa:type_of%@Array.getElem?_append_right:=@Array.getElem?_append_right
def Fb:type_of%@List.length_set:=@List.length_set
def Fc:type_of%@List.mem_filterMap:=@List.mem_filterMap
def Fe:type_of%@Bool.eq_iff_iff:=@Bool.eq_iff_iff
def Ff:type_of%@List.pairwise_map:=@List.pairwise_map
def Fg:type_of%@List.eq_nil_of_length_eq_zero:=@List.eq_nil_of_length_eq_zero
def Fh:type_of%@List.filterMap_append:=@List.filterMap_append
def Fj:type_of%@List.getElem?_range:=@List.getElem?_range
def IJ:type_of%@Array.push_eq_append:=@Array.push_eq_append
def IK:type_of%@Array.getElem?_append_left:=@Array.getElem?_append_left
def IL:type_of%@List.getElem?_cons_succ:=@List.getElem?_cons_succ
def IM:type_of%@Array.mem_iff_getElem?:=@Array.mem_iff_getElem?
def IN:type_of%@List.getElem?_replicate:=@List.getElem?_replicate
def IP:type_of%@List.dropLast_concat_getLast:=@List.dropLast_concat_getLast
def IQ:type_of%@List.mem_append_right:=@List.mem_append_right
def IS:type_of%@List.take_add_one:=@List.take_add_one
def IT:type_of%@List.pairwise_append:=@List.pairwise_append
def IU:type_of%@List.set_append_right:=@List.set_append_right
def IV:type_of%@List.filter_eq_nil_iff:=@List.filter_eq_nil_iff
def IW:type_of%@Option.mem_toList:=@Option.mem_toList
def OY:type_of%@Int.tdiv_eq_ediv_of_nonneg:=@Int.tdiv_eq_ediv_of_nonneg
def A:type_of%@if_neg:=@if_neg
def ax:type_of%@if_pos:=@if_pos
def ar{a b:Prop}(h:a)(k:¬a):b:=absurd h k
def aJ:type_of%@congrArg:=@congrArg
def aE:type_of%@trivial:=@trivial
def sC:type_of%@dif_pos:=@dif_pos
def gN:type_of%@of_decide_eq_true:=@of_decide_eq_true
def jX:type_of%@of_decide_eq_false:=@of_decide_eq_false
def jY:type_of%@decide_eq_true:=@decide_eq_true
def mB:type_of%@decide_eq_false:=@decide_eq_false
abbrev aK:=Array Value
abbrev aH:=List Int
abbrev aV:=Program
abbrev aU:=List Nat
abbrev bh:=TypeId
abbrev bO:=FuncId
abbrev bP:=Nat->Nat
abbrev bt:=Nat->Prop
abbrev bA:=Option Addr
abbrev aR:=List Value
abbrev aT:=Goroutine
abbrev aW:=Operand
abbrev bD:=Option Nat
abbrev cR:=Array Edge
abbrev cU:=Array Oper
abbrev cZ:=Option (Nat×Bool)
abbrev dp:=Value->World->Prop
abbrev dr:=Array Goroutine
abbrev bI:=List Item
abbrev dW:=CallKind
abbrev dX:=List Frame
abbrev fD:=Option Tmp
abbrev fE:=IntKind
abbrev fJ:=Nat->Value
abbrev fX:=Array TypeId
abbrev gw:=Option (Nat×Nat)
abbrev gx:=List (List Int)
abbrev cj:=List Deferred
abbrev ck:=String
abbrev gW:=Array Event
abbrev iF:=World->Prop
abbrev jk:=Array Operand
abbrev km:=Nat×Nat
abbrev ko:=List UInt8
abbrev me:=Option Int
abbrev nm:=List Oper
abbrev wB:=FrameMode
abbrev x7:=Nat->Bool
abbrev x8:=Array MapEntry
abbrev C6:=List (Nat×Nat)
abbrev C8:=List Nat->Bool
abbrev Da:=List (List Nat)
abbrev Gk:=Nat->Option Nat
abbrev LP:=Array (Nat×Operand)
abbrev LQ:=List (Nat×Value)
abbrev LR:=Option Operand
abbrev Q4:=Array (String×TypeId)
abbrev Q8:=World->World->Prop
abbrev Q9:=Option (Addr×Int)
abbrev Xh:=World->World->Array Event->Prop
abbrev Xi:=Goroutine->World->Prop
instance:Coe Int Value:=⟨.int .i64⟩
instance:Coe Nat Value:=⟨λn=>.int .i64 n⟩
instance{α:Type _}:CoeOut (List α) Nat:=⟨List.length⟩
instance:Coe Bool Value:=⟨.bool⟩
instance:Coe Addr Value:=⟨λa=>.pointer (some a)⟩
end Go.Mz
