/- StreamWell: a part of the proof. -/
import Derived.Test.YtiiiphndmbabcaaGreatC1
import Derived.Orders
import Derived.LoopN
import Derived.Below
set_option linter.all false
namespace Go.Proofs.YtiiiphndmbabcaaGreat
namespace sx
open Go Go.RowKit
section
variable {D:Data}
variable {Z:Rc D} {Y:List (Rc D)}
noncomputable def uy (rj:Nat->Bool):List (Rc D)->Nat->Nat->Option (AO D.E)
 | [],_,_=>none
 | r::rs,j,b=>if piece D r=true/\rj j=true/\r.lo=b then r.pc.get b else uy rj rs (j+1) b
theorem sT (rj:Nat->Bool) (r:Rc D) (rs:List (Rc D)) (j b:Nat):uy rj (r::rs) j b=if piece D r/\rj j/\r.lo=b then r.pc.get b else uy rj rs (j+1) b:=rfl
def ik (rs:List (Rc D)):Prop:=∀(j k:Nat) (r q:Rc D),j<k->rs[j]?=some r->rs[k]?=some q->r.hi<=q.lo
def ik.tail (h:ik (Z::Y)):ik Y:=λj k Z q a c b=>h (j+1) (k+1) Z q ω (by assumption) (by assumption)
theorem kL (h:piece D Z):Z.cls=1/\Z.lo<Z.hi:=by
 obtain⟨h1,a⟩:=l4 h;grind [aN,cu]
def ik.head {q:Rc D} {k:Nat} (h:ik (Z::Y)) (a:piece D Z) (b:Y[k]?=some q):Z.lo≠q.lo:=by
 have:=h 0 (k+1) Z q ω rfl (by assumption);have:=(kL a).2;omega
def ik.uniq {j k:Nat} {q:Rc D} (h:ik Y) (c:Y[j]?=some Z) (b:Y[k]?=some q) (p:piece D Z) (p2:piece D q) (e:Z.lo=q.lo):j=k:=by
 rcases Zcs j k with a | rfl | a
 ·have:=h j k Z q a c b;have:=(kL p).2;omega
 ·rfl
 ·have:=h k j q Z a b c;have:=(kL p2).2;omega
theorem jF {rj:Nat->Bool}:∀{rs:List (Rc D)} {j0 b:Nat} {o:AO D.E},ik rs->(uy rj rs j0 b=some o↔∃(j:Nat) (r:Rc D),rs[j]?=some r/\piece D r/\rj (j0+j)/\r.lo=b/\r.pc.get b=some o)
 | [],j0,b,o,_=>by simp[uy]
 | r::rs,j0,b,o,hA=>by
  have g:=jF (rj:=rj) (j0:=j0+1) (b:=b) (o:=o) hA.tail;rw[sT];by_cases a:piece D r/\rj j0/\r.lo=b
  ·rw[Zac a];constructor
   ·intro h;exact⟨0,r,rfl,a.1,a.2.1,a.2.2,h⟩
   ·rintro⟨j,q,h1,e,f,c,d⟩;cases j with
    | zero=>cases(show some r=some q from h1);exact d
    | succ j=>exact absurd (a.2.2.trans c.symm) (hA.head a.1 (by assumption))
  ·rw[Zaa a,g];constructor
   ·rintro⟨j,q,h1,e,f,c,d⟩;exact⟨j+1,q,by assumption,e,by grind,c,d⟩
   ·grind
theorem kM {rj:Nat->Bool}:∀{rs:List (Rc D)} {a:Nat} {h d:T (AO D.E)},(kH D rj rs a h).H d->ik rs->∀b,d.get b=match uy rj rs a b with
  | some o=>some o
  | none=>h.get b
 | [],a,h,d,e,_,b=>by cases av.1 (show(C.ret h).H d from e);rfl
 | r::rs,a,h,d,e,hA,b=>by
  rcases gS.1 (show(bE (Bool.and (piece D r) (rj a)) (aA (cN (r.pc.get r.lo)) λo=>aA (cN (h.put r.lo (some o))) λh=>kH D rj rs (a+1) h) (kH D rj rs (a+1) h)).H d from e) with⟨g,h1⟩ | ⟨g,h1⟩
  ·obtain⟨k,hs⟩:=l4 g;obtain⟨o,i,f⟩:=an.1 h1;obtain⟨l,c,m⟩:=an.1 f;rw[bC] at i c;rw[kM m hA.tail b,T.dU _ _ _ _ c b];rw[sT];by_cases s:b=r.lo
   ·subst s;rw[Zac (show piece D r/\rj a/\r.lo=r.lo from⟨k,hs,rfl⟩),i,Zac rfl];cases t:uy rj rs (a+1) r.lo with
    | none=>rfl
    | some q=>
     obtain⟨j,x,n,_,_,p,_⟩:=(jF hA.tail).1 t;exact absurd p.symm (hA.head k n)
   ·grind
  ·have u:¬(piece D r/\rj a/\r.lo=b):=λ⟨f,l,_⟩=>by grind
   rw[kM h1 hA.tail b];grind [sT]
end
section
variable {D:Data} {M:Pm D}
variable {u:Unit} {x y:AV D.E}
theorem pK {b:Bool} (h:(vZ b).H u):b:=(bz.1 h).1
theorem wE {v:Value} (h:(v8 x y).H u) (d:VR M x v):VR M y v:=by
 cases x<;>simp only[v8] at h<;>(try exact h.elim)
 case bool a=>
  obtain⟨b,p,h1,e⟩:=bq.1 h;obtain⟨rfl,_⟩:=cG.1 e;cases y<;>simp only[AZ] at h1<;>(try exact h1.elim)
  ·grind [av]
  ·cases av.1 h1;cases d;exact .lit _
 case lit a=>
  cases y<;>simp only at h<;>(try exact h.elim)
  ·obtain⟨rfl,_⟩:=cG.1 h;cases d;exact .bool _
  ·have h1:=pK h
   rename_i b
   cases a<;>cases b<;>first | exact d | cases h1
 case int k a=>
  obtain⟨l,b,h1,e⟩:=bq.1 h;obtain⟨f,g⟩:=bz.1 e;obtain⟨rfl,_⟩:=cG.1 g;obtain rfl:=fV.1 f;cases y<;>simp only[da] at h1<;>(try exact h1.elim)
  ·grind [av]
  ·cases av.1 h1;cases d;exact .num (by assumption)
 case num k a=>
  cases y<;>simp only at h<;>(try exact h.elim)
  ·obtain⟨f,g⟩:=bz.1 h;obtain⟨rfl,_⟩:=cG.1 g;obtain rfl:=fV.1 f;cases d;exact .int (by assumption)
  ·grind [bz,fV,pK,qE]
 case str a=>
  obtain⟨b,h1,e⟩:=an.1 h;obtain⟨rfl,_⟩:=cG.1 e;cases y<;>simp only[gR] at h1<;>(try exact h1.elim);grind [av]
 case fC=>cases y<;>simp only at h<;>first | exact h.elim | exact d
 case ptr b o=>
  cases y<;>simp only at h<;>(try exact h.elim);grind [pK,aN]
 case kF b o=>
  cases y<;>simp only at h<;>(try exact h.elim);grind [pK,aN]
 case ma b k i j=>
  cases y<;>simp only at h<;>(try exact h.elim);grind [bz,cG,aN]
 case nu c x j=>
  cases y<;>simp only at h<;>(try exact h.elim);grind [bz,an,Js,cG,aN]
 case cW=>cases y<;>simp only at h<;>first | exact h.elim | exact d
 case own b k n=>
  cases y<;>simp only at h<;>(try exact h.elim);grind [bz,cG,aN]
 case pre b k n=>
  cases y<;>simp only at h<;>(try exact h.elim);grind [bz,cG,aN]
 case part b k o n=>
  cases y<;>simp only at h<;>(try exact h.elim);grind [bz,cG,aN]
 case grow c xs b=>
  cases y<;>simp only at h<;>(try exact h.elim);grind [bz,an,cM,cG,aN]
 case sub b o n=>
  cases y<;>simp only at h<;>(try exact h.elim);grind [pK,aN]
 case list c xs=>
  cases y<;>simp only at h<;>(try exact h.elim);grind [an,cM,cG]
 case qh=>cases y<;>simp only at h<;>first | exact h.elim | exact d
 case map b=>
  cases y<;>simp only at h<;>(try exact h.elim);grind [aN,pK]
 case nilFunc=>cases y<;>simp only at h<;>first | exact h.elim | exact d
 case nilIface=>cases y<;>simp only at h<;>first | exact h.elim | exact d
theorem oU:∀{xs a:List (AV D.E)} {u:Unit} {b:List Value},(y0 xs a).H u->LR M xs b->LR M a b
 | [],[],_,_,_,h=>h
 | [],_::_,_,_,h,_=>(h:False).elim
 | _::_,[],_,_,h,_=>(h:False).elim
 | x::xs,y::a,u,b,h,hl=>by
  obtain⟨_,h1,c⟩:=an.1 (show(aA (v8 x y) λ_=>y0 xs a).H u from h);obtain⟨f,r,rfl,e,d⟩:=hl.aP;exact .cons (wE h1 e) (oU c d)
theorem Jy {f g:Fn} (h:Wt f g):f=g:=by
 cases f<;>simp only[Wt] at h<;>(try cases h);grind [aN]
def Pf {v:Value} (h:(OE x y).H u) (b:VR M x v):VR M y v:=by
 cases x<;>simp only[OE] at h<;>(try exact wE h b)
 case agg xs=>
  cases y<;>simp only at h<;>(try exact h.elim);cases b with
  | agg hl a=>exact(VR.CJ (oU h ⟨hl,a⟩):)
 case tuple xs=>
  cases y<;>simp only at h<;>(try exact h.elim);cases b with
  | tuple hl a=>exact(VR.CK (oU h ⟨hl,a⟩):)
 case func f xs k=>
  cases y<;>simp only at h<;>(try exact h.elim);obtain⟨h0,h1⟩:=bz.1 h;obtain⟨_,i,j⟩:=an.1 h1;obtain rfl:=Jy h0;cases b with
  | func _ hl a d c=>
   have e:=oU i ⟨hl,a⟩;have g:=oU j ⟨d,c⟩;exact .func _ e.1 e.2 g.1 g.2
end
section
variable {P:Program} {D:Data} {cd:TypeId->Option Nat} {ex:tK D.E} {φ:T (AV D.E)}
variable {Z:List (Rc D)} {v:AV D.E} {Y:List Nat}
def Pg:sR P D V9:=λ_f a c d b h=>h.elim
theorem LS {mu g:Bool} {o:Oper} {s:St D.E} {w:St D.E} (h:iD P o=2) (d:(Jg P D cd mu g o.op V9 s φ).H (v,w)):w=s:=by
 have p:∃v,(OB P D cd mu o.op V9 s φ).H (v,w):=by
  unfold Jg at d;cases hk:Fq cd with
  | true=>
   rw[hk] at d;obtain⟨O,N,h1,q⟩:=bq.1 (show(aQ (knw (OB P D cd mu o.op V9 s φ)) λv s=>.ret (clo D v,s)).H (v,w) from d);cases av.1 q;exact⟨_,Qah h1⟩
  | false=>
  rw[hk] at d;cases g with
  | false=>exact⟨v,d⟩
  | true=>
   obtain⟨O,N,h1,q⟩:=bq.1 (show(aQ (OB P D cd mu o.op V9 s φ) λv s=>aA (settle D v) λv=>.ret (v,s)).H (v,w) from d);grind [an,av]
 clear d;obtain⟨v,p⟩:=p;unfold iD at h;cases M:o.op<;>rw[M] at h p<;>simp only at h<;>(try cases h)
 case load t a=>
  obtain⟨_,_,h1⟩:=an.1 p;exact(dB h1).2
 case lookup t x i ok=>exact(p:False).elim
 case convert src dst x=>
  obtain⟨u,_,h1⟩:=an.1 p;obtain⟨ds,z,q⟩:=an.1 h1;obtain⟨C,_,f⟩:=an.1 q;rw[gT] at z;have A:Qb8 ds=false:=by
   rw[z] at h;cases ds<;>first | rfl | cases h
  cases u<;>simp only at f<;>(try exact f.elim)
  case int=>obtain⟨_,_,j⟩:=an.1 f;cases av.1 j;rfl
  case num=>obtain⟨_,_,j⟩:=an.1 f;cases av.1 j;rfl
  case str=>rw[A] at f;exact(f:False).elim
  case own b k n=>
   rcases gS.1 f with⟨_,f⟩ | ⟨_,f⟩
   ·obtain⟨_,_,j⟩:=an.1 f;obtain⟨_,_,G⟩:=an.1 j;obtain⟨_,I⟩:=bz.1 G;obtain⟨_,J⟩:=bz.1 I;obtain⟨_,_,K⟩:=an.1 J;obtain⟨_,L⟩:=bz.1 K;obtain⟨_,_,B⟩:=an.1 L;rcases gS.1 B with⟨_,y⟩ | ⟨_,y⟩
    ·exact y.elim
    grind [av,cX]
   ·obtain⟨e,_,j⟩:=an.1 f;cases C<;>simp only at j<;>(try exact j.elim);grind [an,bz,av]
  all_goals
   obtain⟨e,_,j⟩:=an.1 f;cases C<;>simp only at j<;>(try exact j.elim);grind [an,bz,av]
 case call c=>
  cases l:c.callee with
  | value x=>rw[l] at h;cases h
  | invoke r m=>rw[l] at h;cases h
  | builtin b=>
   rw[l] at h;simp only at h;obtain⟨F,_,h1⟩:=an.1 (show(aA (Om P D φ c.args.toList) λF=>kt P D cd mu b s c.argTypes.toList F).H (v,w) from(by simp only[OB] at p;rw[l] at p;exact p));cases b<;>simp only[Qe5] at h<;>(try cases h);simp only[kt] at h1;obtain⟨_,_,q⟩:=an.1 h1;obtain⟨_,_,f⟩:=an.1 q;exact(dB f).2
theorem Ph {g:Bool} {o:Oper} {rj:Nat->Bool} {h:T (AO D.E)} (c:iD P o=2) (a:(loadAt P D cd g φ o rj Z h).H v):
  ∃k,(kH D rj Z 0 h).H k/\(Jg P D cd false g o.op V9 ⟨k,0⟩ φ).H (v,⟨k,0⟩):=by
 obtain⟨k,h1,b⟩:=an.1 a;grind [bq,av,LS]
theorem rL {i:Nat} {r:Rc D}:∀{hs:List (T (AO D.E))} {last:Nat} {es:List Nat} {u:Unit},(kh P D cd Y Z i r hs last es).H u->∀(k:Nat) (h:T (AO D.E)),hs[k]?=some h->k<=es.length->
  oH Y i (match k with | 0=>last | k+1=>es.getD k 0+1) (es.drop k)->∃u,(A9 P D cd Y Z i (match k with | 0=>last | k+1=>es.getD k 0+1) r h).H u
 | [],last,es,_,_,k,h,hk,_,_=>by simp at hk
 | h0::hs,last,es,u,hc,k,h,hk,hle,hm=>by
  obtain⟨_,h1,b⟩:=an.1 (show(aA (bE (oH Y i last es) (A9 P D cd Y Z i last r h0) eU) λ_=>(List.rec (motive:=λ_=>C Unit) eU (λe es _=>kh P D cd Y Z i r hs (e+1) es) es:C Unit)).H u from hc);cases k with
  | zero=>
   grind [gS]
  | succ k=>
   cases es with
   | nil=>simp at hle
   | cons e es=>
    have c:(kh P D cd Y Z i r hs (e+1) es).H u:=b;have a:hs[k]?=some h:=by assumption
    have:=rL c k h a (by grind);grind
theorem tT {hs:List (T (AO D.E))} {es:List Nat}:∀{l:List (Rc D)} {i:Nat} {u:Unit},(Ft P D cd Y Z hs es l i).H u->∀(j:Nat) (r:Rc D),l[j]?=some r->r.cls=2->∃u,(kh P D cd Y Z (i+j) r hs 0 es).H u
 | [],i,u,_,j,r,b,_=>by grind
 | a::l,i,u,h,j,r,b,hc=>by
  obtain⟨_,h1,c⟩:=an.1 (show(aA (bE (Nat.beq a.cls 2) (kh P D cd Y Z i a hs 0 es) eU) λ_=>Ft P D cd Y Z hs es l (i+1)).H u from h);cases j with
  | zero=>
   cases(show some a=some r from b);rcases gS.1 h1 with⟨_,d⟩ | ⟨d,_⟩
   ·grind
   ·simp_all
  | succ j=>
   have:=tT c j r (by assumption) hc;grind
end
section
variable {P:Program} {D:Data} {cd:TypeId->Option Nat} {mu:Bool} {ex:tK D.E} {ops:Array Oper} {N:Nat} {ms:List Nat} {φ0:T (AV D.E)} {s:St D.E} {d:Ds D} {M0:Pm D} {w0:World}
theorem cP.Pj {H d:Hp D} {M e:Pm D} {w g:World} {lo hi c a:Nat} (h:cP H M w d e g lo hi) (h1:c<=lo\/lo=hi) (k:hi<=a\/lo=hi) (i:c<=a):cP H M w d e g c a:=
 ⟨h.fJ,λb f=>h.ext b ω,h.Jn,h.lK,h.size,h.aR,h.born,λb f=>by
  rcases h.LK b f with j | j
  ·grind
  ·exact .inr ω,h.os,h.tape,h.output,i⟩
theorem cP.Qcu {H n f:Hp D} {M p g:Pm D} {w r i:World} {lo hi:Nat} (h:cP H M w n p r lo hi) (k:cP n p r f g i lo hi):cP H M w f g i lo hi:=by
 refine⟨k.fJ,λb a=>by rw[k.ext b a,h.ext b a],λb o v e=>k.Jn _ _ _ (h.Jn _ _ _ e),λb o a=>?_,Zav h.size k.size,λc q y=>?_,λb o C a u z=>?_,λb a=>?_,k.os.trans h.os,k.tape.trans h.tape,k.output.trans h.output,h.le⟩
 ·rcases k.lK b o a with d | d | d
  ·exact h.lK b o d
  ·exact .inr (.inl (Zav h.size d))
  ·exact .inr (h.wrt d)
 ·rw[k.aR c (ZbB q h.size) λhw=>?_,h.aR c q y];rcases h.wrt hw with d | d
  ·omega
  ·grind
 ·rcases k.born b o C a u z with hs | ⟨b1,F,m,lD,j,l,t,B⟩
  ·exact .inl (Zav h.size hs)
  ·rcases h.born b1 F m lD j l with hs | ⟨G,J,E,s,x,A,I,hw⟩
   ·omega
   ·grind
 ·rcases k.LK b a with lD | lD
  ·exact h.LK b lD
  ·omega
noncomputable def SG (d:Ds D) (ms:List Nat) (E:Nat->Bool) (k:Nat):Hp D:=λb=>match (d.hs.getD k .nil).get b with
 | some o=>some o
 | none=>uy (λj=>E j&&cg ms (fS d.es k) j) d.rs 0 b
structure Inv (ops:Array Oper) (N:Nat) (ms:List Nat) (φ0:T (AV D.E)) (s:St D.E) (d:Ds D) (M0:Pm D) (w0:World) (E:Nat->Bool) (a:Act) (w:World) (k:Nat) (M:Pm D):Prop where
 kle:k<=d.es.length
 ek:∀(l e:Nat),d.es[l]?=some e->(E e=true↔l<k)
 FM:cP s.h.get M0 w0 (SG d ms E k) M w s.nx d.nx
 fresh:∀(i:Nat) (r:Rc D),d.rs[i]?=some r->E i=false->bW M r.lo r.hi
 fr1:∀(i:Nat) (o:Oper) (r:Rc D) (t:Tmp),ops.toList[i]?=some o->d.rs[i]?=some r->o.dst=some t->E i=true->VR M r.v (a.tmps.getD t Go.undef)
 fr2:∀t:Tmp,(∀(i:Nat) (o:Oper),ops.toList[i]?=some o->E i=true->o.dst≠some t)->∀v,φ0.get t=some v->VR M v (a.tmps.getD t Go.undef)
 size:a.tmps.size=N
 defers:a.defers=[]
 i1:∀(j:Nat) (r:Rc D),E j=true->d.rs[j]?=some r->piece D r=true->cg ms (fS d.es k) j=true->(d.hs.getD k .nil).get r.lo=none
 down:∀i j,j5 ms i j=true->E j=true->E i=true
variable {k j:Nat} {E:Nat->Bool}
theorem FN {ms:List Nat} {es:List Nat}:cg ms (fS es k) j↔(k=0\/j5 ms j (es.getD (k-1) 0)=false):=by
 cases k with
 | zero=>exact⟨λ_=>.inl rfl,λ_=>rfl⟩
 | succ k=>
  show Bool.not (j5 ms j (es.getD k 0))↔_
  simp
theorem iI (a:ik d.rs) {o:AO D.E}:SG d ms E k j=some o↔(d.hs.getD k .nil).get j=some o\/((d.hs.getD k .nil).get j=none/\∃(b:Nat) (r:Rc D),d.rs[b]?=some r/\piece D r/\E b/\cg ms (fS d.es k) b/\r.lo=j/\r.pc.get j=some o):=by
 unfold SG;grind [jF]
def ins (E:Nat->Bool) (i:Nat):Nat->Bool:=λj=>decide (j=i)||E j
theorem rM (E:Nat->Bool) (i:Nat):ins E i i:=by simp[ins]
theorem kN (h:j≠k):ins E k j=E j:=by simp[ins,h]
def Bn (h:E j):ins E k j:=by simp[ins,h]
theorem Jz {h:T (AO D.E)} (e:d.hs[k]?=some h):d.hs.getD k .nil=h:=by grind
structure Nx (ops:Array Oper) (ms:List Nat) (E:Nat->Bool) (i:Nat) (o:Oper) (r:Rc D) (d:Ds D):Prop where
 o:ops.toList[i]?=some o
 r:d.rs[i]?=some r
 no:E i=false
 pre:∀j,j5 ms j i=true->E j=true
variable {E:Nat->Bool} {i k:Nat} {o:Oper} {Z:Rc D} {a:Act} {w:World} {M:Pm D}
theorem Nx.eff (n:Nx ops ms E i o Z d) (h:Inv ops N ms φ0 s d M0 w0 E a w k M):cg ms (fS d.es k) i:=by
 rw[FN];cases k with
 | zero=>exact .inl rfl
 | succ k=>
  right;cases b:j5 ms i (d.es.getD k 0) with
  | false=>simpa using b
  | true=>
   have hk:k<d.es.length:=by have:=h.kle;omega
   have c:=Zaf hk;have e2:d.es.getD k 0=d.es[k]:=by grind
   have e:=(h.ek k d.es[k] c).2 ω;rw[e2] at b;have:=h.down i _ b e;rw[n.no] at this;cases this
theorem Inv.frame (Q:oS P D cd mu ex ops.toList N ms φ0 s ops.toList.length d) (A:wC P ops.toList ms) (h:Inv ops N ms φ0 s d M0 w0 E a w k M) (n:Nx ops ms E i o Z d):
  ∃a2:Act,FR M Z.φ a2 N/\execOp a2.eval o=execOp a.eval o/\Region.wanted o (yielded ops a2.tmps)=Region.wanted o (yielded ops a.tmps):=by
 have rc:=Q.rc i o Z n.o n.r;obtain⟨φ,⟨p1,p2⟩,p3⟩:=rc.fr;have W:∀t,Reads ops.toList o t->∀v,Z.φ.get t=some v->VR M v (a.tmps.getD t Go.undef):=by
  intro t ht v z;rw[(p3 t).1 ht] at z;by_cases hex:∃(j:Nat) (l:Oper),ops.toList[j]?=some l/\l.dst=some t/\j<i
  ·obtain⟨j,l,h1,F,r⟩:=hex;have J:j<d.rs.length:=by rw[Q.len];exact(Zam.1 h1).1
   have T:=Zaf J;rw[p1 j d.rs[j] l t (by grind) h1 F] at z;cases z;rcases A.rd i j o l t n.o h1 ω F ht with y | y
   ·have:=A.tonD.lt y;omega
   ·exact h.fr1 j l d.rs[j] t h1 T F (n.pre j y)
  ·rw[p2 t (λj q l O m e=>hex ⟨j,l,m,e,by
    rw[Za7] at O;split at O
    ·assumption
    ·cases O⟩)] at z
   refine h.fr2 t (λj l m H e=>?_) v z;by_cases I:j=i
   ·subst I;rw[n.no] at H;cases H
   ·have C:¬j<i:=λC=>hex ⟨j,l,m,e,C⟩
    rcases A.rd i j o l t n.o m ω e ht with y | y
    ·have:=h.down i j y H;rw[n.no] at this;cases this
    ·have:=A.tonD.lt y;omega
 let u:Array Value:=(Array.range N).map λt=>if reads ops.toList o t then a.tmps.getD t Go.undef else Go.undef
 have X:∀t,u.getD t Go.undef=if t<N/\reads ops.toList o t=true then a.tmps.getD t Go.undef else Go.undef:=by
  intro t;rw[ZaT];grind
 have R:∀t,¬t<N->a.tmps.getD t Go.undef=Go.undef:=λt ht=>by
  rw[ZaT,Zcq (by rw[h.size];exact ZdA (by assumption))];rfl
 have c:∀t,Reads ops.toList o t->u.getD t Go.undef=a.tmps.getD t Go.undef:=λt ht=>by
  grind [zq]
 have G:FR M Z.φ { tmps:=u,defers:=[] } N:=by
  refine⟨λt v z=>?_,by grind,rfl⟩;grind
 have L:∀x∈o.op.operands,(Act.eval { tmps:=u,defers:=[] } x)=a.eval x:=by
  intro x hx;cases x with
  | tmp t=>exact c t (by unfold Reads pB;rw[pC];exact ZaU _ (ZcL.2 ⟨.tmp t,by grind,rfl⟩))
  | const v=>rfl
  | global g=>rfl
  | func f=>rfl
 refine⟨{ tmps:=u,defers:=[] },G,execOp_congr o (A.rj i o n.o) L,?_⟩;unfold Region.wanted;cases U:o.guard with
 | none=>rfl
 | some p=>
  obtain⟨g,b⟩:=p;simp only;congr 1;unfold yielded;cases K:ops[g]? with
  | none=>rfl
  | some Y=>
   rw[ZcE];cases B:Y.dst with
   | none=>rfl
   | some t=>
    rw[ZcE,ZcE];have ht:Reads ops.toList o t:=by
     unfold Reads pB A5;rw[U];refine Zbf.2 (.inl ?_);show some t=oB (gM ops.toList g) λx=>x.dst
     rw[fb,ZaL,K];exact B.symm
    have e:=c t ht;by_cases V:t<N
    ·have S:u[t]?=some (u.getD t Go.undef):=by
      grind
     have e2:a.tmps[t]?=some (a.tmps.getD t Go.undef):=by
      rw[ZaT,Za5 (by rw[h.size];exact V)];rfl
     grind
    ·have S:u[t]?=none:=Zcq (by grind);have e2:a.tmps[t]?=none:=Zcq (by rw[h.size];exact ZdA (by assumption));grind
theorem Inv.put {z:Nat} {T:World} {K:Pm D} {J:Value} (g:oS P D cd mu ex ops.toList N ms φ0 s ops.toList.length d) (U:wC P ops.toList ms) (h:Inv ops N ms φ0 s d M0 w0 E a w k M) (n:Nx ops ms E i o Z d)
  (R:VR K Z.v J) (u:cP (SG d ms E k) M w (SG d ms (ins E i) z) K T Z.lo Z.hi) (hk:(z=k/\Z.cls≠3)\/(z=k+1/\d.es[k]?=some i))
  (L:∀(j:Nat) (q:Rc D),ins E i j->d.rs[j]?=some q->piece D q->cg ms (fS d.es z) j->(d.hs.getD z .nil).get q.lo=none):Inv ops N ms φ0 s d M0 w0 (ins E i) (a.put o.dst J) T z K:=by
 have C:=g.oT.2 i Z n.r;have A:=u.Le (h.fresh i Z n.r n.no);have Q:∀x,o.dst=some x->x<a.tmps.size:=λx X=>by rw[h.size];exact g.dst i o x (Zam.1 n.o).1 n.o X
 refine⟨?_,λl e H=>?_,h.FM.Qcu (u.Pj (.inl C.1) (.inl C.2) (by have:=g.oT.1;omega)),λj q p m=>?_,λj I q t f p ht m=>?_,λt ht=>?_,by rw[size_put,h.size],by rw[wy,h.defers],L,λx y F S=>?_⟩
 ·rcases hk with⟨e,_⟩ | ⟨e,e2⟩
  ·rw[e];exact h.kle
  ·grind
 ·by_cases B:e=i
  ·subst B;rw[rM];rcases hk with⟨_,r⟩ | ⟨Y,e2⟩
   ·obtain⟨_,q,h1,O⟩:=g.esr l e H;rw[n.r] at h1;cases h1;omega
   ·have:l=k:=by
     rcases Zcs l k with h1 | h1 | h1
     ·have:=g.inc l k e e h1 H e2;omega
     ·exact h1
     ·have:=g.inc k l e e h1 e2 H;omega
    simp;omega
  ·rw[kN B,h.ek l e H];grind
 ·have c:j≠i:=λe=>by grind [rM]
  rw[kN c] at m;have W:=h.fresh j q p m;have V:q.hi<=Z.lo\/Z.hi<=q.lo:=by
   rcases Nat.lt_or_gt_of_ne c with h1 | h1
   ·exact .inl (g.apart j i q Z h1 p n.r)
   ·exact .inr (g.apart i j Z q h1 n.r p)
  intro b h1 O;rw[u.ext b ω];exact W b h1 O
 ·rw[wx a o.dst J t Q];by_cases c:j=i
  ·subst c;rw[n.o] at f;cases f;rw[n.r] at p;cases p;grind
  ·rw[Zaa (U.wr i j o I t n.o f (λe=>c e.symm) ht)];rw[kN c] at m;exact(h.fr1 j I q t f p ht m).mono A
 ·rw[wx a o.dst J t Q,Zaa (ht i o n.o (rM E i))];exact λv R=>(h.fr2 t (λj I f m=>ht j I f (Bn m)) v R).mono A
 ·by_cases G:y=i
  ·subst G;exact Bn (n.pre x F)
  ·rw[kN G] at S;exact Bn (h.down x y F S)
end
section
variable {P:Program} {D:Data} {cd:TypeId->Option Nat} {mu:Bool} {ex:tK D.E} {ops:Array Oper} {N:Nat} {ms:List Nat} {φ0:T (AV D.E)} {s:St D.E} {d:Ds D} {M0:Pm D} {w0:World}
variable {i k j:Nat} {Z:Rc D} {E:Nat->Bool} {Y:List Nat}
theorem sU (a:ik d.rs) (e:d.rs[i]?=some Z) (c:piece D Z=false):SG d ms (ins E i) k=SG d ms E k:=by
 funext b;refine Zdo λo=>?_
 grind [iI,kN]
theorem LU (a:ik d.rs) (h:d.rs[i]?=some Z) (g:piece D Z) (e:cg ms (fS d.es k) i) (hz:SG d ms E k Z.lo=none) (b:Nat):
  SG d ms (ins E i) k b=if b=Z.lo then Z.pc.get Z.lo else SG d ms E k b:=by
 have f:(d.hs.getD k .nil).get Z.lo=none:=by
  cases c:(d.hs.getD k .nil).get Z.lo with
  | none=>rfl
  | some o=>rw[(iI a).2 (.inl c)] at hz;cases hz
 refine Zdo λo=>?_
 grind [iI,rM,kN]
theorem nbs (e:Y[i]?=some k):cg ms (fS Y (i+1)) j↔j5 ms j k=false:=by
 grind [FN]
def zr {o:Oper} {rs:List (Rc D)} {hs:List (T (AO D.E))} (h:Pd P D cd mu ex ops.toList ms φ0 rs hs Y i o Z) (a:Z.cls=3):iD P o=3:=by
 rcases h.kind with⟨e,_⟩ | ⟨e,_⟩ | ⟨e,_⟩ | ⟨_,_,e,_⟩
 ·omega
 ·omega
 ·omega
 ·exact e
def Pk (a:oS P D cd mu ex ops.toList N ms φ0 s ops.toList.length d) (c:wC P ops.toList ms) {f:Nat} (b:i<k) (g:d.es[i]?=some j) (l:d.es[k]?=some f):j5 ms j f:=by
 have v:=a.inc i k j f b g l;obtain⟨h1,r,n,o⟩:=a.esr i j g;obtain⟨p,q,t,u⟩:=a.esr k f l;have e:=Zaf h1;have m:=Zaf p;have c1:=zr (a.rc j _ r e n) o;have c2:=zr (a.rc f _ q m t) u;rcases c.eff j f _ _ e m ω c1 c2 with h | h
 ·exact h
 ·have:=c.tonD.lt h;omega
theorem nbk (c:oS P D cd mu ex ops.toList N ms φ0 s ops.toList.length d) (a:wC P ops.toList ms) (e:d.es[i]?=some k) (g:j5 ms j k=false):cg ms (fS d.es i) j:=by
 rw[FN];cases i with
 | zero=>exact .inl rfl
 | succ i=>
  right;have hk:i<d.es.length:=by grind
  have b:=Zaf hk;have e2:d.es.getD (i+1-1) 0=d.es[i]:=by grind
  rw[e2];cases f:j5 ms j d.es[i] with
  | false=>rfl
  | true=>
   have:=a.tonD.trans f (Pk c a (Zbr i) b e);grind
theorem Inv.step (hD:a7 D) {o:Oper} {r:Rc D} {a:Act} {w:World} {M:Pm D} {K:Act->World->Prop} {Q:Exit->Act->World->Prop} (N':sS P) (hex:sR P D ex)
  (W:oS P D cd mu ex ops.toList N ms φ0 s ops.toList.length d) (hL:wC P ops.toList ms) (hlc:∀(i:Nat) (r:Rc D),d.rs[i]?=some r->r.cls=2->∃u,(kh P D cd ms d.rs i r d.hs 0 d.es).H u)
  (h:Inv ops N ms φ0 s d M0 w0 E a w k M) (n:Nx ops ms E i o r d) (hK:∀a' w' R M',Inv ops N ms φ0 s d M0 w0 (ins E i) a' w' R M'->K a' w'):wpOp P ops Q i K a w:=by
 obtain⟨a2,hf,he,hw⟩:=h.frame W hL n;have rc:=W.rc i o r n.o n.r;have p:ik d.rs:=W.apart;have hS:=h.FM.fJ;have hnb:=n.eff h;unfold wpOp;rw[show ops[i]?=some o by rw[<-ZaL];exact n.o];simp only;rcases rc.kind with⟨c,F,Z,hhi⟩ | ⟨c,F,_,V,hhi⟩ | ⟨c,F,hcls,hhi⟩ | ⟨c,F,hcls,R,h0,h1,H,last,t,hh0,hh1,_,S,V⟩
 ·rw[Zaa (by grind [pI])];have O:piece D r=false:=by unfold piece;rw[c];rfl
  refine hK _ _ k M (h.put W hL n (by rw[Z];exact .undef) ?_ (.inl ⟨rfl,ω⟩) λj q L l f B=>?_)
  ·rw[sU p n.r O,hhi];exact .refl hS _
  ·by_cases e:j=i
   ·subst e;rw[n.r] at l;cases l;rw[O] at f;cases f
   ·rw[kN e] at L;exact h.i1 j q L l f B
 ·rw[Zac (by grind [pI])];have J:=h.fresh i r n.r n.no;have hz:r.lo<r.hi->SG d ms E k r.lo=none:=λX=>by
   cases A:SG d ms E k r.lo with
   | none=>rfl
   | some ob=>
    obtain⟨mi,hm,_⟩:=hS.obj _ _ A;rw[J r.lo (Zah _) X] at hm;cases hm
  have U:=Bm (s:=⟨.nil,r.lo⟩) (s':=⟨r.pc,r.hi⟩) hD N' Pg V (hS.sub (K:=(T.nil:T (AO D.E)).get) λb ob I=>by grind [T.get_nil]) hf J;refine .inl (U.wp he.symm _ _ λM' v' w' Z C=>hK _ _ k M' (h.put W hL n Z ?_ (.inl ⟨rfl,ω⟩) λj q L l f B=>?_))
  ·refine C.frame hS J (λb ob I=>by grind [T.get_nil]) λb=>?_
   have hdom:r.pc.get b≠none->b=r.lo/\r.lo<r.hi:=λI=>by
    rcases C.LK b I with h2 | h2
    ·grind [T.get_nil]
    ·grind
   show SG d ms (ins E i) k b=if (T.nil:T (AO D.E)).get b=none/\r.pc.get b=none then SG d ms E k b else r.pc.get b
   by_cases O:piece D r
   ·rw[LU p n.r O hnb (hz (kL O).2)];grind [T.get_nil,kL]
   ·have hp':piece D r=false:=by grind
    rw[sU p n.r hp'];cases A:r.pc.get b with
    | none=>rw[Zac ⟨T.get_nil _,rfl⟩]
    | some ob=>
     have h5:=(hdom (by grind)).2;exact absurd (show piece D r=true by unfold piece;rw[c,cu.2 h5];rfl) O
  ·by_cases e:j=i
   ·subst e;rw[n.r] at l;cases l;cases A:(d.hs.getD k .nil).get r.lo with
    | none=>rfl
    | some ob=>have:=hz (kL f).2;rw[(iI p).2 (.inl A)] at this;cases this
   ·rw[kN e] at L;exact h.i1 j q L l f B
 ·rw[Zac (by grind [pI])];have O:piece D r=false:=by unfold piece;rw[c];rfl
  have hkl:k<d.hs.length:=by rw[W.qG];have:=h.kle;omega
  have hh:=Zaf hkl;have hms:oH ms i (fS d.es k) (d.es.drop k):=by
   unfold oH;rw[hnb];cases hdr:d.es.drop k with
   | nil=>rfl
   | cons e es=>
    have t:d.es[k]?=some e:=by
     have:=ZbX (xs:=d.es) (i:=k) (j:=0);grind
    show Bool.not (j5 ms e i)
    cases l:j5 ms e i with
    | false=>rfl
    | true=>
     have:=(h.ek k e t).1 (n.pre e l);omega
  have Qfj:∃u,(A9 P D cd ms d.rs i (fS d.es k) r d.hs[k]).H u:=by
   obtain⟨u,hu⟩:=hlc i r n.r c;have:=rL hu k _ hh h.kle;cases k with
   | zero=>exact this hms
   | succ k=>exact this hms
  obtain⟨u,hu⟩:=Qfj;obtain⟨v,hld,hsame⟩:=an.1 hu;rw[rc.op] at hld;obtain⟨H,S,V⟩:=Ph hcls hld;have z:=kM S p;have m:∀b ob,H.get b=some ob->SG d ms E k b=some ob:=by
   intro b ob I;rw[z b] at I;cases A:uy (λj=>Bool.and (j5 ms j i) (cg ms (fS d.es k) j)) d.rs 0 b with
   | none=>rw[A] at I;exact(iI p).2 (.inl (by grind))
   | some ob2=>
    rw[A] at I;cases I;obtain⟨j,q,g1,g2,g3,g4,g5⟩:=(jF p).1 A;rw[Za6] at g3;obtain⟨g6,g7⟩:=l4 g3;have hE:=n.pre j g6;refine(iI p).2 (.inr ⟨?_,j,q,g1,g2,hE,g7,g4,g5⟩);rw[<-g4];exact h.i1 j q hE g1 g2 g7
  have U:=(Bm (s:=⟨H,0⟩) (s':=⟨H,0⟩) hD N' Pg V (hS.sub m) hf (λb _ I=>ω)).same λM' v' Z=>Pf hsame Z
  refine .inl (U.wp he.symm _ _ λM' v' w' Z C=>hK _ _ k M' (h.put W hL n Z ?_ (.inl ⟨rfl,ω⟩) λj q L l f B=>?_))
  ·have:=C.frame hS (λb _ I=>ω) m (H':=SG d ms (ins E i) k) λb=>by
    rw[sU p n.r O];show _=if H.get b=none/\H.get b=none then _ else H.get b
    cases A:H.get b with
    | none=>rw[Zac ⟨rfl,rfl⟩]
    | some ob=>rw[Zaa (by simp),m b ob A]
   exact this.Pj (.inr rfl) (.inr rfl) rc.le
  ·by_cases e:j=i
   ·subst e;rw[n.r] at l;cases l;rw[O] at f;cases f
   ·rw[kN e] at L;exact h.i1 j q L l f B
 ·rw[Zac (by grind [pI])];have hkk:R=k:=by
   have e1:¬R<k:=λX=>by
    have:=(h.ek R i t).2 X;rw[n.no] at this;cases this
   by_cases e2:k<R
   ·have hk:k<d.es.length:=by grind
    have e3:=Zaf hk;have:=(h.ek k _ e3).1 (n.pre _ (Pk W hL e2 e3 t));omega
   ·omega
  subst hkk;have O:piece D r=false:=by unfold piece;rw[c];rfl
  have J:=h.fresh i r n.r n.no;have hg0:=Jz hh0;have hg1:=Jz hh1;have hAt:ik (d.rs.take i):=λx y q q2 hxy l Y=>by
   rw[Za7] at l Y;split at l
   ·split at Y
    ·exact p x y q q2 hxy l Y
    ·cases Y
   ·cases l
  have z:=kM S hAt;have G:∀b ob,H.get b=some ob->(h0.get b=some ob/\True)\/∃(j:Nat) (q:Rc D),d.rs[j]?=some q/\piece D q/\j5 ms j i/\cg ms (fS d.es R) j/\q.lo=b/\q.pc.get b=some ob:=by
   grind [jF]
  have m:∀b ob,H.get b=some ob->SG d ms E R b=some ob:=by
   intro b ob I;rcases G b ob I with⟨I,_⟩ | ⟨j,q,g1,g2,g3,g4,g5,g6⟩
   ·grind [iI]
   ·have hE:=n.pre j g3;refine(iI p).2 (.inr ⟨?_,j,q,g1,g2,hE,g4,g5,g6⟩);rw[<-g5];exact h.i1 j q hE g1 g2 g4
  have hnone:∀(j:Nat) (q:Rc D),d.rs[j]?=some q->piece D q->E j->j5 ms j i=false->H.get q.lo=none:=by
   intro j q l f hE L;cases A:H.get q.lo with
   | none=>rfl
   | some ob=>
    exfalso;rcases G _ _ A with⟨I,_⟩ | ⟨j2,q2,g1,g2,g3,g4,g5,g6⟩
    ·have:=h.i1 j q hE l f (nbk W hL t L);grind
    ·have:=p.uniq g1 l g2 f g5;grind
  have U:=Bm (s:=⟨H,r.lo⟩) (s':=⟨h1,r.hi⟩) hD N' hex V (hS.sub m) hf J;refine .inl (U.wp he.symm _ _ λM' v' w' Z C=>hK _ _ (R+1) M' (h.put W hL n Z ?_ (.inr ⟨rfl,t⟩) λj q L l f B=>?_))
  ·refine C.frame hS J m λb=>?_
   show SG d ms (ins E i) (R+1) b=if H.get b=none/\h1.get b=none then SG d ms E R b else h1.get b
   have hins:∀(j:Nat) (q:Rc D),d.rs[j]?=some q->piece D q->ins E i j->E j:=λj q l f L=>by
    by_cases e:j=i
    ·subst e;rw[n.r] at l;cases l;rw[O] at f;cases f
    ·grind [kN]
   cases A:h1.get b with
   | some ob=>rw[Zaa (by simp)];exact(iI p).2 (.inl (by grind))
   | none=>
    cases hgK:H.get b with
    | some ob=>
     rw[Zaa (by simp)];cases hgS:SG d ms (ins E i) (R+1) b with
     | none=>rfl
     | some ob2=>
      grind [iI,nbs]
    | none=>
     rw[Zac ⟨rfl,rfl⟩];have hz:=z b;rw[hgK] at hz;have hz1:uy (λj=>Bool.and (j5 ms j i) (cg ms last j)) (d.rs.take i) 0 b=none/\h0.get b=none:=by
      grind
     refine Zdo λob=>?_
     rw[iI p,iI p,hg0,hg1,A,hz1.2];constructor
     ·grind [nbk,nbs]
     ·rintro(g | ⟨_,j,q,g1,g2,g3,g4,g5,g6⟩)
      ·cases g
      ·refine .inr ⟨rfl,j,q,g1,g2,Bn g3,(nbs t).2 ?_,g5,g6⟩;cases hm:j5 ms j i with
       | false=>rfl
       | true=>
        have X:=hL.tonD.lt hm;grind [jF]
  ·have e:j≠i:=λe=>by subst e;rw[n.r] at l;cases l;rw[O] at f;cases f
   rw[kN e] at L;have hm:=(nbs t).1 B;rw[hg1];cases A:h1.get q.lo with
   | none=>rfl
   | some ob=>
    exfalso;rcases C.LK q.lo (show h1.get q.lo≠none by grind) with g | g
    ·grind
    ·have g1:r.lo<=q.lo:=g.1;have g2:q.lo<r.hi:=g.2;have g3:=(kL f).2;rcases Nat.lt_or_gt_of_ne e with g4 | g4
     ·have:=p j i q r g4 l n.r;omega
     ·have:=p i j r q g4 n.r l;omega
end
section
variable {P:Program} {D:Data} {cd:TypeId->Option Nat} {mu:Bool} {ex:tK D.E} {ops:Array Oper} {N:Nat} {ms:List Nat} {φ0:T (AV D.E)} {s:St D.E} {d:Ds D} {M0:Pm D} {w0:World}
variable {l:Array Bool} {i:Nat}
theorem LV (d:wC P ops.toList ms) (dd:l.size=ops.size) (h:Region.ready .any ops l=[]):∀j,j<ops.size->l.getD j false:=by
 intro j
 induction j using Nat.strongRecOn with
 | _ j k=>
  intro g;cases c:l.getD j false with
  | true=>rfl
  | false=>
   have b:j<l.size:=ω;have:j∈Region.ready .any ops l:=mem_ready.2 ⟨by
    rw[ZaT,Za5 b] at c ⊢;exact c,ops[j],Za5 g,λe a f=>by
     have i:ops.toList[j]?=some ops[j]:=by grind
     obtain⟨h1,_,_⟩:=d.Qcs j _ e i (by grind) f;exact k e.on h1 ω⟩
   grind
theorem count_set (h:i<l.size) (a:l.getD i true=false):(l.setIfInBounds i true).toList.count false+1=l.toList.count false:=by
 rw[Array.toList_setIfInBounds];have h1:l.toList[i]'(by assumption)=false:=by
  simp_all
 grind
theorem FO (h:l.toList.count false=0):∀j,j<l.size->l.getD j false:=by
 intro j a;have h1:l.toList[j]'(by assumption)≠false:=λe=>by
  grind
 simp_all
theorem Inv.done (c:oS P D cd mu ex ops.toList N ms φ0 s ops.toList.length d) {r:T (AO D.E)} (o:(kH D (cg ms d.last) d.rs 0 d.h).H r) {E:Nat->Bool} {a:Act} {w:World} {M:Pm D} (h:Inv ops N ms φ0 s d M0 w0 E a w i M) (k:∀j,j<ops.size->E j):
  cP s.h.get M0 w0 r.get M w s.nx d.nx/\FR M d.φ a N:=by
 have n:ik d.rs:=c.apart;have hk:i=d.es.length:=by
  have:=h.kle;by_cases z:i<d.es.length
  ·have A:=Zaf z;have u:=(c.esr i _ A).1;have:=(h.ek i _ A).1 (k _ (by assumption));omega
  ·omega
 subst hk;have l:d.hs.getD d.es.length .nil=d.h:=Jz c.aT;have B:∀(j:Nat) (q:Rc D),d.rs[j]?=some q->E j:=λj q C=>k j (by
  have:=(Zam.1 C).1;rw[c.len] at this;simpa using this)
 refine⟨?_,λt v p=>?_,h.size,h.defers⟩
 ·have:r.get=SG d ms E d.es.length:=by
   funext b;rw[kM o n b];refine Zdo λob=>?_
   rw[iI n,l];cases I:uy (cg ms d.last) d.rs 0 b with
   | some J=>
    obtain⟨j,q,g1,g2,g3,g4,g5⟩:=(jF n).1 I;rw[Za6,c.last] at g3;have hz:=h.i1 j q (B j q g1) g1 g2 g3;rw[l,g4] at hz;constructor
    ·grind
    ·rintro(g | ⟨_,F,G,k1,k2,k3,k4,k5,k6⟩)
     ·grind
     ·have:=n.uniq k1 g1 k2 g2 (k5.trans g4.symm);grind
   | none=>
    constructor
    ·grind
    ·rintro(g | ⟨_,F,G,k1,k2,k3,k4,k5,k6⟩)
     ·exact g
     ·have:uy (cg ms d.last) d.rs 0 b=some ob:=(jF n).2 ⟨F,G,k1,k2,by rw[Za6,c.last];exact k4,k5,k6⟩;grind
  rw[this];exact h.FM
 ·by_cases hex:∃(j:Nat) (f:Oper),ops.toList[j]?=some f/\f.dst=some t
  ·obtain⟨j,f,h1,u⟩:=hex;have y:j<d.rs.length:=by rw[c.len];exact(Zam.1 h1).1
   have x:=Zaf y;rw[c.phi.1 j _ f t x h1 u] at p;cases p;exact h.fr1 j f _ t h1 x u (B j _ x)
  ·rw[c.phi.2 t λj q f C m e=>hex ⟨j,f,m,e⟩] at p;exact h.fr2 t (λj f m _ e=>hex ⟨j,f,m,e⟩) v p
theorem Qcv (K:a7 D) {Q:Exit->Act->World->Prop} {t:T (AO D.E)} (z:sS P) (hex:sR P D ex) (m:oS P D cd mu ex ops.toList N ms φ0 s ops.toList.length d) (v:wC P ops.toList ms) (y:∀(i:Nat) (r:Rc D),d.rs[i]?=some r->r.cls=2->∃u,(kh P D cd ms d.rs i r d.hs 0 d.es).H u)
  (f:(kH D (cg ms d.last) d.rs 0 d.h).H t) (L:∀p q C,cP s.h.get M0 w0 t.get p C s.nx d.nx->FR p d.φ q N->Q .normal q C):
  ∀(fuel:Nat) (b:Array Bool) (a:Act) (w:World) (k:Nat) (M:Pm D),b.size=ops.size->b.toList.count false<=fuel->Inv ops N ms φ0 s d M0 w0 (λj=>b.getD j false) a w k M->wpAny P .any ops Q fuel b a w:=by
 intro fuel
 induction fuel with
 | zero=>
  intro b a w k M dd F h;have g:=FO (Zda.1 F);have c:=h.done m f (λj x=>g j ω);refine⟨?_,L M a w c.1 c.2⟩;refine List.eq_nil_iff_forall_not_mem.2 λj x=>?_
  grind [mem_ready]
 | succ fuel U=>
  intro b a w k M dd F h;refine⟨λR=>?_,λi hi=>?_⟩
  ·have c:=h.done m f (LV v dd R);grind
  ·obtain⟨h1,o,I,J⟩:=mem_ready.1 hi;have l:i<ops.size:=(ZbU.1 I).1;have O:i<b.size:=ω;have G:ops.toList[i]?=some o:=by grind
   have B:i<d.rs.length:=by rw[m.len];simpa using l
   have A:b.getD i false=false:=by
    grind
   have n:Nx ops ms (λj=>b.getD j false) i o d.rs[i] d:=⟨G,Zaf B,A,λj x=>by
    obtain⟨W,e,g1,g2,g3,_,g4⟩:=v.back j i x;rw[G] at g1;cases g1;have g5:=J e (by grind) g3;rcases g4 with rfl | g4
    ·exact g5
    ·exact h.down j e.on g4 g5⟩
   refine h.step K z hex m v y n λq C V p t=>?_
   have S:ins (λj=>b.getD j false) i=λj=>(b.setIfInBounds i true).getD j false:=by
    funext j;unfold ins;by_cases e:j=i
    ·simp_all
    ·rw[getD_set_ne false (Ne.symm e)];simp[e]
   grind [count_set]
theorem C0 (R:a7 D) {id:Nat} {m:St D.E} {φ n:T (AV D.E)} (g:P.follows .mixedOrders) (F:sS P) (hex:sR P D ex) (h:(CD P D cd mu ex ops.toList N s φ).H (m,n)):s.nx<=m.nx/\
  ∀(M:Pm D) (a:Act) (w:World),dX M s.h.get w->FR M φ a N->bW M s.nx m.nx->∀Q:Exit->Act->World->Prop,
   (∀p q v,cP s.h.get M w m.h.get p v s.nx m.nx->FR p n q N->Q .normal q v)->(Code.region id ops true).wp P Q a w:=by
 obtain⟨ms,k,h1⟩:=an.1 h;obtain⟨d,y,K⟩:=an.1 h1;obtain⟨u,x,L⟩:=an.1 K;obtain⟨W,f,O⟩:=an.1 L;cases av.1 O;rw[bC] at k;have I:=yz k;have c:=wD (pre:=[]) I rfl (oS.start s φ) y;have C:∀(i:Nat) (r:Rc D),d.rs[i]?=some r->r.cls=2->∃u,(kh P D cd ms d.rs i r d.hs 0 d.es).H u:=λi r G V=>by
  have:=tT x i r G V;grind
 refine⟨c.oT.1,λM a w J z B Q U=>?_⟩;have S:(λj=>(Array.replicate ops.size false).getD j false)=λ_=>false:=by
  funext j;rw[ZaT,Array.getElem?_replicate];split<;>rfl
 refine wp_region_any g (Qcv (M0:=M) (w0:=w.drew) R F hex c I C f (λp q v hs A=>U p q v ((cP.u_ J s.nx).trans hs) A) _ _ _ _ 0 M (by simp) (by simp) ?_);rw[S];have h0:d.hs.getD 0 .nil=s.h:=Jz c.h0;refine⟨Zaj _,λl e _=>⟨λh=>(by cases h),λh=>ω⟩,?_,λi r G _ b X Y=>?_,λi o r t _ _ _ h=>(by cases h),λt _=>z.at_ t,z.size,z.defers,λj r h=>(by cases h),λi j _ h=>(by cases h)⟩
 ·have:SG d ms (λ_=>false) 0=s.h.get:=by
   funext b;refine Zdo λob=>?_
   rw[iI c.apart,h0];grind
  rw[this];exact(cP.refl (cP.u_ J s.nx).fJ s.nx).Pj (.inr rfl) (.inr rfl) c.oT.1
 ·have:=c.oT.2 i r G;exact B b ω (by grind)
end
section
variable {P:Program} {D:Data} {M M':Pm D} {w w':World} {H:Hp D} {s s':St D.E} {lo:Nat}
variable {b a:Nat} {Z:Ren} {c:MI}
def TF (M:Pm D) (n:Nat):Prop:=∀b,n<=b->M.pl b=none
def TF.fresh (h:TF M b):bW M b a:=λlo h1 _=>h lo h1
def TF.FM {hi:Hp D} (h:TF M b) (hs:cP H M w hi M' w' b a):TF M' a:=λlo c=>by
 have:=hs.le;rw[hs.ext lo ω];exact h lo ω
theorem bW.next {c:Hp D} {lo hi:Nat} (h:bW M lo hi) (hs:cP H M w c M' w' lo a):bW M' a hi:=λb h1 d=>by
 have:=hs.le;rw[hs.ext b ω];exact h b ω d
def bW.fst {hi:Nat} (h:bW M b hi) (d:a<=hi):bW M b a:=λlo h1 c=>h lo h1 ω
def TF.lt (h:TF M b) (n:M.pl a=some c):a<b:=by
 refine Zdy λhle=>?_
 rw[h a hle] at n;cases n
noncomputable def rl (r:Ren) (M:Pm D):Pm D:=⟨λt=>(dT r t).bind M.pl,M.sg⟩
def Ext (r a:Ren):Prop:=∀t b,dT r t=some b->dT a t=some b
def Inj (r:Ren):Prop:=∀t a b,dT r t=some b->dT r a=some b->t=a
theorem wF (h:dT Z b=some a) (t:M.pl a=some c):(rl Z M).pl b=some c:=by
 show(dT Z b).bind M.pl=some c
 grind
theorem fW (h:(rl Z M).pl b=some c):∃t,dT Z b=some t/\M.pl t=some c:=by
 have a:(dT Z b).bind M.pl=some c:=h;cases d:dT Z b with
 | none=>rw[d] at a;cases a
 | some t=>rw[d] at a;exact⟨t,rfl,a⟩
def JA {c:Ren} (a:Le M M') (e:Ext Z c):Le (rl Z M) (rl c M'):=⟨λt f h=>by
 obtain⟨b,h1,d⟩:=fW h;exact wF (e _ _ h1) (a.1 _ _ d),a.2⟩
theorem Ext.refl (r:Ren):Ext r r:=λ_ _ h=>h
def Ext.trans {c a:Ren} (h:Ext Z c) (k:Ext c a):Ext Z a:=λt b e=>k t b (h t b e)
theorem ji (t b:Nat) (r:Ren) (x:Nat):dT ((t,b)::r) x=if t=x then some b else dT r x:=by
 grind [dT,rv]
theorem C3 (h:dT Z b=some a):(b,a)∈Z:=by
 induction Z with
 | nil=>cases(show none=some a from h)
 | cons p Z t=>
  grind [ji]
theorem my (h:yu Z b=false):∀t,dT Z t≠some b:=λt e=>by
 have:yu Z b:=wB.2 ⟨(t,b),C3 e,aN.2 rfl⟩;grind
theorem fh {α:Type} (t:Nat) (a:α) (l:List (Nat×α)) (x:Nat):cy ((t,a)::l) x=if t=x then some a else cy l x:=by
 grind [cy,rv]
theorem oV {α:Type} {l:List (Nat×α)} {a:α} (h:cy l b=some a):(b,a)∈l:=by
 induction l with
 | nil=>cases(show none=some a from h)
 | cons p l t=>
  grind [fh]
structure Mv (m m':Mt D.E):Prop where
 inj:Inj m.r->Inj m'.r
 ext:Ext m.r m'.r
 WG:∀t b,dT m.r t=some b->m'.s.h.get b=m.s.h.get b
 td:∀p∈m.todo,p∈m'.todo
 new:∀t b,dT m'.r t=some b->dT m.r t=some b\/(t,b)∈m'.todo
 le:m.s.nx<=m'.s.nx
theorem Mv.refl (m:Mt D.E):Mv m m:=⟨id,.refl _,λ_ _ _=>rfl,λ_ h=>h,λ_ _ h=>.inl h,Zah _⟩
theorem Mv.trans {m d a:Mt D.E} (h:Mv m d) (k:Mv d a):Mv m a:=
 ⟨λi=>k.inj (h.inj i),h.ext.trans k.ext,λt b e=>(k.WG t b (h.ext t b e)).trans (h.WG t b e),λp f=>k.td p (h.td p f),λt b e=>by
  rcases k.new t b e with h1 | h1
  ·rcases h.new t b h1 with c | c
   ·grind
   ·exact .inr (k.td _ c)
  ·exact .inr h1,Zav h.le k.le⟩
abbrev Sm (m a:Mt D.E) (M:Pm D) (w:World) (b:Pm D):Prop:=cP m.s.h.get M w a.s.h.get b w m.s.nx a.s.nx
variable {b:Nat} {y:AO D.E} {m a:Mt D.E}
theorem Bo {t:Nat} (h:(pair D m b t).H a):Mv m a/\a.s=m.s/\dT a.r b=some t:=by
 unfold pair at h;cases g:dT m.r b with
 | some j=>
  rw[g] at h;obtain⟨h1,d⟩:=bz.1 (show(bB (Nat.beq j t) (.ret m)).H a from h);cases av.1 d;exact⟨.refl _,rfl,by simp_all⟩
 | none=>
  rw[g] at h;rcases gS.1 (show(bE (yu m.r t) .fail (.ret ⟨m.s,(b,t)::m.r,(b,t)::m.todo⟩)).H a from h) with⟨_,d⟩ | ⟨h1,d⟩
  ·exact d.elim
  ·cases av.1 d;have k:=my h1;refine⟨⟨λhi x i c e f=>?_,λx c e=>?_,λ_ _ _=>rfl,λp l=>ZaU _ l,λx c e=>?_,Zah _⟩,rfl,by grind [ji]⟩
   ·rw[ji] at e f;by_cases q:b=x<;>by_cases n:b=i
    ·omega
    ·grind
    ·grind
    ·rw[Zaa q] at e;rw[Zaa n] at f;exact hi x i c e f
   ·grind [ji]
   ·grind [ji]
theorem cP.void {o1:AO D.E} {i:MI} (f:dX M H w) (B:H b=some y) (C:M.pl b=some i) (F:i.real=false) (u:OR M o1 i w) (lo:Nat):cP H M w (jc H b (some o1)) M w lo lo:=by
 have a:∀c o,c≠b->jc H b (some o1) c=some o->H c=some o:=λc o e h=>by grind [jc]
 refine⟨⟨λc o h=>?_,λc l o x m v h p e n r A s=>?_,f.gL,λc o m h hw e d j t=>?_,λc k xs e m h g d=>?_,⟨f.mb.1,λc o m h hw e d=>?_⟩⟩,λ_ _=>rfl,λ_ _ _ h=>h,λ_ _ h=>.inl h,Zah _,λ_ _ _=>rfl,λc o m h e d=>?_,λc h=>?_,rfl,rfl,rfl,Zah _⟩
 ·by_cases q:c=b
  ·grind [jc]
  ·exact f.obj c o (a c o q h)
 ·have q:c≠b:=λq=>by grind
  have z:l≠b:=λq=>by grind
  exact f.inj c l o x m v (a _ _ q h) (a _ _ z p) e n r A s
 ·have q:c≠b:=λq=>by grind
  exact f.sep c o m (a _ _ q h) hw e d j t
 ·have q:c≠b:=λq=>by grind
  exact f.Jm c k xs e m (a _ _ q h) g d
 ·have q:c≠b:=λq=>by grind
  exact f.mb.2 c o m (a _ _ q h) hw e d
 ·grind
 ·by_cases q:c=b
  ·grind
  ·obtain⟨o,u⟩:=Zbs.1 h;grind
theorem cP.lock {o1:AO D.E} {a:MI} {cs:List (AV D.E)} (s:dX M H w) (t:H b=some y) (hw:y.wr) (f:∀j,y.sO a j) (n:M.pl b=some a) (p:a.real) (B:o1.wr=false)
  (A:∀v∈cs,ml v) (x:∀(i:Nat) (v:AV D.E),cs[i]?=some v->∃m,w.cell? ⟨a.bZ,a.sh+i,none⟩=some m/\VR M v m)
  (z:∀r,sx.Le M r->OR r o1 a w) (q:∀c xs e,o1=.arr c xs e true->cx (⟨M.pl,db M.sg a.bZ a.sh cs⟩:Pm D) a.bZ a.sh c xs) (lo:Nat):
  cP H M w (jc H b (some o1)) ⟨M.pl,db M.sg a.bZ a.sh cs⟩ w lo lo:=by
 have d:∀j,M.sg a.bZ j=none:=λj=>s.sep b y a t hw n p j (f j)
 have k:∀b o v,M.sg b o=some v->db M.sg a.bZ a.sh cs b o=some v:=kK λo _ _=>d o
 have hle:sx.Le M ⟨M.pl,db M.sg a.bZ a.sh cs⟩:=⟨λ_ _ h=>h,k⟩;have:=cP.upon (M1:=⟨M.pl,db M.sg a.bZ a.sh cs⟩) (sg1:=db M.sg a.bZ a.sh cs) (b0:=b) (b1:=b) (o1:=o1) (Bd:=a) (lo:=lo) (hi:=lo) (w':=w) s t hw n p p rfl (by
   congr 1;funext c;by_cases e:c=b
   ·rw[Zac e,e];exact n
   ·rw[Zaa e]) (.inl ⟨rfl,rfl,rfl⟩) k (λb o h=>mr h) rfl (λ_ _=>rfl) rfl rfl rfl (z _ hle)
  (λo v g=>by
   unfold db at g;split at g
   ·rename_i l
    obtain⟨m,h1,u⟩:=x _ v g;refine⟨A v (ZaJ g),m,?_,u.mono hle⟩;grind
   ·rw[d] at g;cases g) (λh=>by grind) q
 have e2:(λc=>if c=b then some o1 else if c=b then none else H c)=jc H b (some o1):=by
  grind [jc]
 grind
theorem Pl (h:H b=some y):jc H b (some y)=H:=by
 grind [jc]
theorem kO (A:a7 D) {x:Ar D.E} (h:(rr D m b).H (x,a)):Mv m a/\a.r=m.r/\∀M w,dX M m.s.h.get w->∃n,Sm m a M w n/\n.pl=M.pl/\
  ∃d,M.pl b=some d/\d.len=x.xs.length/\d.jh=D.size x.c/\(d.real->cx n d.bZ d.sh x.c x.xs):=by
 unfold rr at h;rcases gS.1 h with⟨_,h0⟩ | ⟨h0,h1⟩
 ·exact h0.elim
 obtain⟨F,K,I⟩:=an.1 h1;obtain⟨z,hs,q⟩:=an.1 I;have q:=av.1 q;simp only[Zbx] at q;obtain⟨rfl,rfl⟩:=q;have j:=jx K;obtain⟨q1,B⟩:=kJ hs;have L:=my h0;refine⟨⟨id,.refl _,λt c e=>?_,λ_ h=>h,λ_ _ h=>.inl h,Zd1 B.symm⟩,rfl,λM w o=>?_⟩
 ·show z.h.get c=m.s.h.get c
  rw[q1];grind [jc]
 ·obtain⟨d,k,f,g,p⟩:=o.obj b _ j;obtain⟨c,xs,e,ro⟩:=F;simp only at j q1 f g p ⊢;unfold Sm;show ∃n,cP m.s.h.get M w z.h.get n w m.s.nx z.nx/\_
  rw[q1,B];cases ro with
  | true=>
   refine⟨M,by rw[Pl j];exact .refl o _,rfl,d,k,f,g,λl=>o.Jm b c xs e d j k l⟩
  | false=>
   by_cases l:d.real
   ·obtain⟨C,G,k1,k2,k3,k4,k5⟩:=p l;refine⟨_,cP.lock (o1:=.arr c xs e true) (cs:=aY c xs) o j rfl (λ_=>trivial) k l rfl (λv u=>(dY A u).2) (λi v u=>?_) (λP J=>⟨f,g,λ_=>⟨C,G,k1,k2,k3,λi v u=>let ⟨N,x,b⟩:=k4 i v u;⟨N,x,b.mono J⟩,λh=>by cases h⟩⟩) (λc2 O e2 Q=>?_) _,rfl,d,k,f,g,λ_=>cx.add A⟩
    ·grind [World.cell?]
    ·grind [cx.add]
   ·have y:d.real=false:=by grind
    exact⟨M,cP.void (o1:=.arr c xs e true) o j k y ⟨f,g,λh=>absurd h l⟩ _,rfl,d,k,f,g,λh=>absurd h l⟩
end
section
variable {P:Program} {D:Data} {M M':Pm D} {w w':World} {H:Hp D} {s s':St D.E} {lo:Nat} {m m':Mt D.E}
variable {b o c:Nat} {a Y:AV D.E} {Z:Int} {X:AO D.E} {W:St D.E} {V:List (Nat×AO D.E)}
variable {O:Nat} {U:List (D.E c)}
def yo (m b:Mt D.E) (a t:AV D.E):Prop:=Mv m b/\∀M w,dX M m.s.h.get w->bW M m.s.nx b.s.nx->∃c,Sm m b M w c/\∀v,VR M a v->VR (rl b.r c) t v
theorem cx.take (h:cx M b o c U) (n:Nat):cx M b o c (U.take n):=λi hi j v e=>by
 have a:i<U.length:=by grind
 rw[ZcP] at e;exact h i a j v e
theorem cx.drop (h:cx M b o c U) (n:Nat):cx M b (o+n*D.size c) c (U.drop n):=λi hi j v e=>by
 have a:n+i<U.length:=by grind
 rw[Zdm] at e;have:=h (n+i) a j v e;grind
theorem lM {r:Ren} {v:Value} (h:VR M a v) (t:ml a):VR (rl r M) a v:=h.pure t λ_ _ _ e=>e
def yo.same (c:ml Y) (h:∀M v,VR M a v->VR M Y v) (m:Mt D.E):yo m m a Y:=
 ⟨.refl m,λM e b _=>⟨M,.refl b _,λv d=>lM (h M v d) c⟩⟩
theorem sV {c:Nat} {xs:List (D.E c)} {b k:Nat} {v:Value} {a:MI} (p:M'.pl=M.pl) (i:M.pl b=some a) (hl:a.len=xs.length) (hz:a.jh=D.size c) (hs:a.real->cx M' a.bZ a.sh c xs):
  (VR M (.own b k Z) v->VR M' (.list c xs) v)/\(VR M (.pre b k Z) v->VR M' (.list c (dv xs Z)) v)/\(∀o,VR M (.part b k o Z) v->VR M' (.list c (rq xs o Z)) v):=by
 refine⟨λh=>?_,λh=>?_,λo h=>?_⟩
 ·cases h with
  | own h hk g f d j ht=>
   rw[i] at h;cases h;rw[hl] at d j ⊢;exact .list (hs g) d j
  | l5 h hk g f h0=>
   rw[i] at h;cases h;have:xs=[]:=Zap ω;subst this;exact .dW
 ·cases h with
  | pre h hk g f d hle j ht=>
   rename_i l cap m
   rw[i] at h;cases h;subst f;have e:(dv xs (l:Int)).length=l:=by grind [dv]
   have:=VR.list (M:=M') (c:=c) (xs:=dv xs (l:Int)) (b:=a.bZ) (o:=a.sh) (cap:=cap) ((hs g).take _) ω ω;grind
  | oL h hk g f h0=>
   rw[i] at h;cases h;have:xs=[]:=Zap ω;subst this;have e:dv ([]:List (D.E c)) Z=[]:=by simp[dv]
   rw[e];exact .dW
 ·cases h with
  | part h hk g f q hle d j=>
   rename_i l cap m
   rw[i] at h;cases h;subst f;have e:(rq xs o (l:Int)).length=l:=by simp[rq];omega
   have:=VR.list (M:=M') (c:=c) (xs:=rq xs o (l:Int)) (b:=a.bZ) (o:=a.sh+o.toNat*D.size c) (cap:=cap) (((hs g).drop _).take _) ω ω;grind
  | jC h hk f q=>
   subst f;have e:rq xs o 0=[]:=by rfl
   rw[e];exact .dW
def Pn (t:a7 D) {y:List (D.E b)} (h:(OJ D m a b y).H m'):yo m m' a (.list b y):=by
 cases a<;>simp only[OJ] at h<;>(try exact h.elim)
 case list r xs=>
  obtain⟨s,h1,g⟩:=an.1 h;obtain⟨rfl,e⟩:=cM h1;cases e;obtain⟨rfl,d⟩:=cG.1 g;cases av.1 d;exact .same rfl (λM v f=>f) m
 case grow r xs c=>
  obtain⟨s,h1,g⟩:=an.1 h;obtain⟨rfl,e⟩:=cM h1;cases e;obtain⟨rfl,d⟩:=cG.1 g;cases av.1 d;refine .same rfl (λM v f=>?_) m;cases f with
  | grow h B hl hz hs A z ht=>exact .list hs A z
  | j6 h B=>exact .dW
 case cW=>
  obtain⟨rfl,d⟩:=cG.1 h;cases av.1 d;refine .same rfl (λM v f=>?_) m;cases f;exact .dW
 case own c k n=>
  obtain⟨a,m1,h1,g⟩:=bq.1 h;obtain⟨s,d,j⟩:=an.1 g;obtain⟨r,xs,e,ro⟩:=a;obtain⟨rfl,e⟩:=cM d;cases e;obtain⟨rfl,l⟩:=cG.1 j;cases av.1 l;obtain⟨q1,x,q⟩:=kO t h1;refine⟨q1,λM w p _=>?_⟩;obtain⟨i,g1,g2,u,g3,g4,g5,g6⟩:=q M w p;exact⟨i,g1,λv f=>lM ((sV g2 g3 g4 g5 g6).1 f) rfl⟩
 case pre c k n=>
  obtain⟨a,m1,h1,g⟩:=bq.1 h;obtain⟨s,d,j⟩:=an.1 g;obtain⟨r,xs,e,ro⟩:=a;obtain⟨rfl,e⟩:=cM d;cases e;obtain⟨rfl,l⟩:=cG.1 j;cases av.1 l;obtain⟨q1,x,q⟩:=kO t h1;refine⟨q1,λM w p _=>?_⟩;obtain⟨i,g1,g2,u,g3,g4,g5,g6⟩:=q M w p;exact⟨i,g1,λv f=>lM ((sV g2 g3 g4 g5 g6).2.1 f) rfl⟩
 case part c k o n=>
  obtain⟨a,m1,h1,g⟩:=bq.1 h;obtain⟨s,d,j⟩:=an.1 g;obtain⟨r,xs,e,ro⟩:=a;obtain⟨rfl,e⟩:=cM d;cases e;obtain⟨rfl,l⟩:=cG.1 j;cases av.1 l;obtain⟨q1,x,q⟩:=kO t h1;refine⟨q1,λM w p _=>?_⟩;obtain⟨i,g1,g2,u,g3,g4,g5,g6⟩:=q M w p;exact⟨i,g1,λv f=>lM ((sV g2 g3 g4 g5 g6).2.2 o f) rfl⟩
theorem Qfk (d:(m.s.new X).H (b,W)) (h:yu m.r b=false):Mv m ⟨W,m.r,m.todo⟩:=by
 obtain⟨rfl,g,f⟩:=qw d;refine⟨id,.refl _,λt c e=>?_,λ_ h=>h,λ_ _ h=>.inl h,by grind⟩;show W.h.get c=m.s.h.get c
 rw[f];grind [my,jc]
theorem C4 {o:AO D.E} {mi:MI} (k:(m.s.new o).H (O,W)) (h:(Jh D ⟨W,m.r,m.todo⟩ b O).H m') (g:∀c xs e,o≠.arr c xs e true) (z:mi.real=false) (u:∀M w,OR M o mi w)
  (x:∀M j,j.pl O=some mi->dT m'.r b=some O->∀v,VR M a v->VR (rl m'.r j) Y v):yo m m' a Y:=by
 rcases gS.1 h with⟨_,h0⟩ | ⟨h0,h⟩
 ·exact h0.elim
 have h1:=Qfk k h0;obtain⟨p1,p2,p3⟩:=Bo h;obtain⟨rfl,l,y⟩:=qw k;refine⟨h1.trans p1,λM w p d=>⟨M.add m.s.nx mi,?_,λv i=>x M _ (by simp[Pm.add]) p3 v i⟩⟩;rw[p2] at d;have d:bW M m.s.nx W.nx:=d;unfold Sm;rw[p2];show cP m.s.h.get M w W.h.get _ w m.s.nx W.nx
 rw[l] at d;rw[l,y];exact cP.nv (o:=o) (mi:=mi) p (d _ (Zah _) (Zbr _)) (λh=>by grind) (Zah _) (λ_ _=>rfl) rfl rfl rfl (u _ _) (λc xs e q=>absurd q (g c xs e))
def Po (h:(Qae D V m b o Z).H m'):yo m m' .cW (.own b o Z):=by
 obtain⟨k,a,h1⟩:=an.1 h;clear a;cases k<;>simp only at h1<;>(try exact h1.elim)
 rename_i c _ e _
 obtain⟨hk,f⟩:=bz.1 h1;obtain⟨d,t,g,i⟩:=bq.1 f;obtain⟨q,j⟩:=cG.1 i;refine C4 (mi:=⟨0,0,0,D.size c,0,false⟩) g j (λ_ _ _ h=>by cases h) rfl (λM w=>⟨rfl,rfl,λh=>by cases h⟩) λM s p l v r=>?_
 cases r;exact .l5 (wF l p) (aN.1 hk) rfl q.symm rfl
def Pp {f:List (D.E o)} (h:(Qaf D V m b o f).H m'):yo m m' .cW (.grow o f b):=by
 obtain⟨c,a,h1⟩:=an.1 h;clear a;cases c<;>simp only at h1<;>(try exact h1.elim)
 rename_i c2 e
 obtain⟨d,q,g,i⟩:=bq.1 h1;obtain⟨rfl,j⟩:=cG.1 i;refine C4 (mi:=⟨0,0,0,D.size c2,0,false⟩) g j (λ_ _ _ h=>by cases h) rfl (λM w=>⟨rfl,λh=>by cases h⟩) λM p l k v n=>?_
 cases n;exact .j6 (wF k l) rfl
theorem WH (Q:a7 D) {k:Nat} {n:Int} (h:(Qcd D m b O Z c k n).H m'):yo m m' (.pre b O Z) (.own c k n):=by
 unfold Qcd at h;rcases gS.1 h with⟨_,h0⟩ | ⟨h0,h1⟩
 ·exact h0.elim
 obtain⟨hk,h2⟩:=bz.1 h1;obtain rfl:=aN.1 hk;obtain⟨a,ha,h3⟩:=an.1 h2;rcases gS.1 h3 with⟨_,P⟩ | ⟨K,P⟩
 ·exact P.elim
 obtain⟨A,hs,X⟩:=an.1 P;obtain⟨b2,q,u,N⟩:=bq.1 X;obtain⟨rfl,h7⟩:=cG.1 N;rcases gS.1 h7 with⟨_,y⟩ | ⟨y,h9⟩
 ·exact y.elim
 have y:yu m.r b2=false:=y;have F:=jx ha;obtain⟨W,xs,e,ro⟩:=a;simp only at K F u;subst K;obtain⟨q1,f⟩:=kJ hs;obtain⟨p1,p2,p3⟩:=Bo h9;obtain⟨rfl,g1,g2⟩:=qw u;rw[f] at g1 y p3;rw[f,q1] at g2;have hno:=my h0;have Y:=my y;have T:Mv m ⟨q,m.r,m.todo⟩:=by
  refine⟨id,.refl _,λt W e=>?_,λ_ h=>h,λ_ _ h=>.inl h,by grind⟩;show q.h.get W=m.s.h.get W
  rw[g2];grind [jc]
 refine⟨T.trans p1,λM w z x=>?_⟩;obtain⟨mi,I,X,N,S⟩:=z.obj b _ F;rw[p2] at x;have E:bW M m.s.nx q.nx:=x;rw[g1] at E;have x:M.pl m.s.nx=none:=E _ (Zah _) (Zbr _);unfold Sm;rw[p2];show ∃B,cP m.s.h.get M w q.h.get B w m.s.nx q.nx/\_
 rw[g1,g2]
 
 by_cases hle:0<=Z/\Z.toNat<=mi.len
 ·let d:MI:=⟨mi.bZ,mi.sh,mi.qu,mi.jh,Z.toNat,mi.real⟩
  have G:d.len=(dv xs Z).length:=by grind [dv]
  have L:∀B:Pm D,B.pl m.s.nx=some d->∀v,VR M (.pre b O Z) v->VR (rl m'.r B) (.own c O Z) v:=λB J v p=>by
   cases p with
   | pre h hk g u U hl hc ht=>
    rename_i l cap N7
    rw[I] at h;cases h;subst u;exact VR.own (mi:=d) (wF p3 J) hk g rfl (by grind) (by grind) ht
   | oL h hk g u h0=>
    rw[I] at h;cases h;exact VR.l5 (mi:=d) (wF p3 J) hk g u (by grind)
  by_cases g:mi.real
  ·obtain⟨C,fz,k1,k2,k3,k4,k5⟩:=S g;have R:Le M (M.add m.s.nx d):=Pm.qD x;have:=cP.upon (b0:=b) (b1:=m.s.nx) (o0:=.arr W xs e false) (o1:=.arr W (dv xs Z) e false) (rk:=mi) (Bd:=d) (M1:=M.add m.s.nx d) (sg1:=M.sg) (lo:=m.s.nx) (hi:=m.s.nx+1) (w':=w) z F rfl I g g rfl rfl (.inr ⟨rfl,x,rfl⟩) (λ_ _ _ h=>h) (λ_ _ h=>.inl h) rfl (λ_ _=>rfl) rfl rfl rfl
    ⟨G,N,λ_=>⟨C,fz,k1,k2,by
     have:(aY W (dv xs Z)).length<=(aY W xs).length:=by
      rw[bb Q,bb Q];exact Zbc _ (by grind)
     show mi.sh+_<=mi.qu
     omega,λi v p=>by
     have V:(aY W xs)[i]?=some v:=by
      rw[show dv xs Z=xs.take Z.toNat from rfl,nA Q] at p;rw[Za7] at p;split at p
      ·exact p
      ·cases p
     obtain⟨v',a1,a2⟩:=k4 i v V;exact⟨v',a1,a2.mono R⟩,k5⟩⟩
    (λo v p=>by
     rw[z.sep b _ mi F rfl I g o trivial] at p;cases p) (λ_ j _=>z.sep b _ mi F rfl I g j trivial)
   refine⟨M.add m.s.nx d,?_,L _ (by simp[Pm.add])⟩;assumption
  ·have hr':mi.real=false:=by grind
   have A:=cP.drop (b:=b) z m.s.nx;have q:=cP.nv (o:=.arr W (dv xs Z) e false) (mi:=d) A.fJ x (λh=>absurd h g) (Zah _) (λ_ _=>rfl) rfl rfl rfl (w':=w) ⟨G,N,λh=>absurd h g⟩;exact⟨M.add m.s.nx d,A.trans q,L _ (by simp[Pm.add])⟩
 ·
  let d:MI:=⟨0,0,0,D.size W,(dv xs Z).length,false⟩
  have A:=cP.drop (b:=b) z m.s.nx;have q:=cP.nv (o:=.arr W (dv xs Z) e false) (mi:=d) A.fJ x (λh=>by cases h) (Zah _) (λ_ _=>rfl) rfl rfl rfl (w':=w) ⟨rfl,rfl,λh=>by cases h⟩;refine⟨M.add m.s.nx d,A.trans q,λv p=>?_⟩;exfalso;cases p with
  | pre h hk g u U hl hc ht=>
   grind
  | oL h hk g u h0=>
   omega
end
section
variable {P:Program} {D:Data} {M M':Pm D} {w w':World} {H:Hp D} {s s':St D.E} {lo:Nat} {m m':Mt D.E} {th:List (Nat×AO D.E)}
variable {a Z:AV D.E} {Y X:Mt D.E} {W g:List (AV D.E)}
theorem WI (N:a7 D) {c:Nat} {y:D.E c} {j:Nat} (h:(Qce D m a c y j).H m'):yo m m' a (.nu c y j):=by
 cases a<;>simp only[Qce] at h<;>(try exact h.elim)
 case nu V x j'=>
  obtain⟨h1,n⟩:=bz.1 h;obtain⟨x',p,q⟩:=an.1 n;obtain⟨rfl,e⟩:=Js p;cases e;obtain⟨rfl,f⟩:=cG.1 q;cases av.1 f;obtain rfl:=aN.1 h1;exact .same rfl (λM v d=>d) m
 case ma b k i j'=>
  obtain⟨h1,n⟩:=bz.1 h;obtain rfl:=aN.1 h1;obtain⟨a,m1,p,q⟩:=bq.1 n;obtain⟨zs,f,K⟩:=an.1 q;obtain⟨V,xs,e,ro⟩:=a;obtain⟨rfl,e⟩:=cM f;cases e;obtain⟨rfl,L⟩:=cG.1 K;cases av.1 L;obtain⟨q1,Q,q3⟩:=kO N p;refine⟨q1,λM w B _=>?_⟩;obtain⟨A,g1,g2,g,g3,g4,g5,g6⟩:=q3 M w B;refine⟨A,g1,λv d=>lM (M:=A) ?_ rfl⟩;cases d with
  | ma u F hk hi=>
   rw[g3] at u;cases u;simp only at g4;have r:i<xs.length:=ω;rw[Bh r];refine .nu (b:=g.bZ) (o:=g.sh+i*k) λi' v e=>?_
   have:=g6 F i r i' v e;grind
 case ptr b o=>
  obtain⟨h1,n⟩:=bz.1 h;obtain⟨p,q⟩:=l4 h1;obtain rfl:=aN.1 p;obtain rfl:=aN.1 q;rcases gS.1 n with⟨_,f⟩ | ⟨f,K⟩
  ·exact f.elim
  obtain⟨cs,e,L,W⟩:=bq.1 K;obtain⟨x,X,G⟩:=an.1 W;obtain⟨R,hs,I⟩:=an.1 G;obtain⟨rfl,J⟩:=cG.1 I;cases av.1 J;have T:=Bg L;obtain⟨q1,Q⟩:=kJ hs;have Z:=my f;refine⟨⟨id,.refl _,λt c e=>?_,λ_ h=>h,λ_ _ h=>.inl h,Zd1 Q.symm⟩,λM w B _=>?_⟩
  ·show R.h.get c=m.s.h.get c
   rw[q1];grind [jc]
  ·obtain⟨g,u,F,C,S,k1,k2,k3,k4,k5⟩:=B.obj b _ T;unfold Sm;show ∃A,cP m.s.h.get M w R.h.get A w m.s.nx R.nx/\_
   rw[q1,Q];have P:Rd M w g.bZ g.sh cs:=N6.rd (e:=e) (ro:=false) ⟨C,S,k1,k2,k3,k4,k5⟩;obtain⟨l,hl,hc⟩:=P.list;have O:=vg N X hl;refine⟨_,cP.lock (o1:=.cells cs e true) (cs:=D.ba c x) B T rfl (λ_=>trivial) u F.1 rfl (λv d=>(N.one c x v d).2) (λi v d=>?_) (λM2 Y=>⟨F,C,S,k1,k2,k3,λi v d=>let ⟨U,a,b⟩:=k4 i v d;⟨U,a,b.mono Y⟩,λh=>by cases h⟩) (λ_ _ _ h=>by cases h) _,λv d=>lM ?_ rfl⟩
   ·obtain⟨U,g1,g2⟩:=O.get d;grind
   ·cases d with
    | ptr z _=>
     rw[u] at z;cases z;refine .nu (b:=g.bZ) (o:=g.sh) λi v e=>?_
     grind [db]
def yo.pair {g b:Nat} (h:(pair D m g b).H m') (k:∀M v,VR M a v->∀c:Pm D,yv M c->(∀f,M.pl b=some f->c.pl g=some f)->VR c Z v):yo m m' a Z:=by
 obtain⟨p1,p2,p3⟩:=Bo h;refine⟨p1,λM w i _=>⟨M,?_,λv d=>k M v d _ (λ_ _ _ e=>e) λf j=>wF p3 j⟩⟩;unfold Sm;rw[p2];exact .refl i _
def Pq (A:a7 D) (h:(m0 D th m a Z).H m'):yo m m' a Z:=by
 cases Z<;>simp only[m0] at h
 case list c F=>exact Pn A h
 case nu c y j=>exact WI A h
 case map=>exact h.elim
 case grow c F z=>
  cases a<;>simp only at h<;>(try exact h.elim)
  ·exact Pp h
  ·obtain⟨G,h1,g⟩:=an.1 h;obtain⟨rfl,e⟩:=cM h1;cases e;obtain⟨rfl,q⟩:=cG.1 g;refine yo.pair q λM v p w l f=>?_
   cases p with
   | grow h d hl hz hs b s ht=>exact .grow (f _ h) d hl hz (hs.mono l) b s ht
   | j6 h d=>exact .j6 (f _ h) d
 case own z k n=>
  cases a<;>simp only at h<;>(try exact h.elim)
  ·exact Po h
  ·obtain⟨h1,g⟩:=bz.1 h;obtain rfl:=aN.1 h1;obtain⟨rfl,q⟩:=cG.1 g;refine yo.pair q λM v p w l f=>?_
   cases p with
   | own h hk d r b s ht=>exact .own (f _ h) hk d r b s ht
   | l5 h hk d r h0=>exact .l5 (f _ h) hk d r h0
  ·exact WH A h
 case pre z k n=>
  cases a<;>simp only at h<;>(try exact h.elim)
  ·obtain⟨h1,g⟩:=bz.1 h;obtain rfl:=aN.1 h1;obtain⟨rfl,q⟩:=cG.1 g;refine yo.pair q λM v p w l f=>?_
   cases p with
   | own h hk d r b s ht=>exact .pre (f _ h) hk d r b (Zah _) s ht
   | l5 h hk d r h0=>exact .oL (f _ h) hk d r h0
  ·obtain⟨h1,g⟩:=bz.1 h;obtain rfl:=aN.1 h1;obtain⟨rfl,q⟩:=cG.1 g;refine yo.pair q λM v p w l f=>?_
   cases p with
   | pre h hk d r b hl s ht=>exact .pre (f _ h) hk d r b hl s ht
   | oL h hk d r h0=>exact .oL (f _ h) hk d r h0
 case part z k o n=>
  cases a<;>simp only at h<;>(try exact h.elim);obtain⟨h1,g⟩:=bz.1 h;obtain rfl:=aN.1 h1;obtain⟨rfl,q⟩:=cG.1 g;obtain⟨rfl,x⟩:=cG.1 q;refine yo.pair x λM v p w l f=>?_
  cases p with
  | part h hk d r B hl b s=>exact .part (f _ h) hk d r B hl b s
  | jC h hk r B=>exact .jC (f _ h) hk r B
 case ptr z o=>
  cases a<;>simp only at h<;>(try exact h.elim);obtain⟨h1,g⟩:=bz.1 h;obtain rfl:=aN.1 h1;refine yo.pair g λM v p w l f=>?_
  cases p with
  | ptr h d=>exact .ptr (f _ h) d
 case ma z k i j=>
  cases a<;>simp only at h<;>(try exact h.elim);obtain⟨h1,g⟩:=bz.1 h;obtain⟨q,x⟩:=l4 h1;obtain rfl:=aN.1 q;obtain rfl:=aN.1 x;obtain⟨rfl,C⟩:=cG.1 g;refine yo.pair C λM v p w l f=>?_
  cases p with
  | ma h d hk hi=>exact .ma (f _ h) d hk hi
 case sub z o n=>
  cases a<;>simp only at h<;>(try exact h.elim);obtain⟨h1,g⟩:=bz.1 h;obtain⟨q,x⟩:=l4 h1;obtain rfl:=aN.1 q;obtain rfl:=aN.1 x;refine yo.pair g λM v p w l f=>?_
  cases p with
  | sub h d s b=>exact .sub (f _ h) d s b
  | oM=>exact .oM
 all_goals
  obtain⟨u,h1,g⟩:=an.1 h;cases av.1 g
  first
   | exact .same rfl (λM v p=>wE h1 p) m
   | (exfalso;cases a<;>simp only[v8] at h1<;>first | exact h1 | (obtain⟨_,_,q,x⟩:=bq.1 h1;cases q) | skip)
def Sm.le (h:Sm Y X M w M') (b:bW M Y.s.nx X.s.nx):Le M M':=cP.Le h b
def yo.JB {b:Mt D.E} (h:yo Y X a Z) (k:Mv X b/\∀M w,dX M X.s.h.get w->bW M X.s.nx b.s.nx->∃c,Sm X b M w c/\∀l,LR M W l->LR (rl b.r c) g l):
  Mv Y b/\∀M w,dX M Y.s.h.get w->bW M Y.s.nx b.s.nx->∃c,Sm Y b M w c/\∀l,LR M (a::W) l->LR (rl b.r c) (Z::g) l:=by
 refine⟨h.1.trans k.1,λM w n f=>?_⟩;have d:=f.fst k.1.le;obtain⟨i,g1,g2⟩:=h.2 M w n d;have e:=bW.next f g1;obtain⟨j,g3,g4⟩:=k.2 i w g1.fJ e;refine⟨j,cP.trans g1 g3,λl hl=>?_⟩;obtain⟨v,r,rfl,p,o⟩:=hl.aP;exact .cons ((g2 v p).mono (JA (Sm.le g3 e) k.1.ext)) (g4 r (o.mono (Sm.le g1 d)))
def Qfl (m:Mt D.E):Mv m m/\∀M w,dX M m.s.h.get w->bW M m.s.nx m'.s.nx->∃a,Sm m m M w a/\∀l,LR M ([]:List (AV D.E)) l->LR (rl m.r a) ([]:List (AV D.E)) l:=
 ⟨.refl m,λM w b _=>⟨M,.refl b _,λl hl=>by rw[hl.jD];exact .nil⟩⟩
theorem C5 (e:a7 D):∀{Qvg c:List (AV D.E)} {m b:Mt D.E},(mL D th Qvg c m).H b->Mv m b/\∀M w,dX M m.s.h.get w->bW M m.s.nx b.s.nx->∃d,Sm m b M w d/\∀l,LR M Qvg l->LR (rl b.r d) c l
 | [],[],m,b,h=>by cases av.1 (show(C.ret m).H b from h);exact Qfl m
 | [],_::_,_,_,h=>(h:False).elim
 | _::_,[],_,_,h=>(h:False).elim
 | a::Qvg,t::c,m,b,h=>by
  obtain⟨m1,h1,f⟩:=an.1 (show(aA (m0 D th m a t) λm=>mL D th Qvg c m).H b from h);exact(Pq e h1).JB (C5 e f)
def Qfm (f:a7 D) (h:(mV D th m a Z).H m'):yo m m' a Z:=by
 cases Z<;>simp only[mV] at h<;>(try exact Pq f h)
 case agg G=>
  cases a<;>simp only at h<;>(try exact h.elim);obtain⟨q1,e⟩:=C5 f h;refine⟨q1,λM w c b=>?_⟩;obtain⟨i,g1,g2⟩:=e M w c b;refine⟨i,g1,λv d=>?_⟩;cases d with
  | agg hl l=>exact(VR.CJ (g2 _ ⟨hl,l⟩):)
 case tuple G=>
  cases a<;>simp only at h<;>(try exact h.elim);obtain⟨q1,e⟩:=C5 f h;refine⟨q1,λM w c b=>?_⟩;obtain⟨i,g1,g2⟩:=e M w c b;refine⟨i,g1,λv d=>?_⟩;cases d with
  | tuple hl l=>exact(VR.CK (g2 _ ⟨hl,l⟩):)
 case func g xs I=>
  cases a<;>simp only at h<;>(try exact h.elim);obtain⟨h1,n⟩:=bz.1 h;obtain rfl:=Jy h1;obtain⟨m1,A,B⟩:=an.1 n;obtain⟨q1,e⟩:=C5 f A;obtain⟨q,F⟩:=C5 f B;refine⟨q1.trans q,λM w c b=>?_⟩;have j:=b.fst q.le;obtain⟨y,g1,g2⟩:=e M w c j;have k:=bW.next b g1;obtain⟨z,g3,g4⟩:=F y w g1.fJ k;refine⟨z,cP.trans g1 g3,λv d=>?_⟩;cases d with
  | func _ hl l p o=>
   have r:=(g2 _ ⟨hl,l⟩).mono (JA (Sm.le g3 k) q.ext);have s:=g4 _ (LR.mono (Sm.le g1 j) ⟨p,o⟩);exact .func _ r.1 r.2 s.1 s.2
 case iface u x=>
  cases a<;>simp only at h<;>(try exact h.elim);obtain⟨h1,n⟩:=bz.1 h;obtain rfl:=aN.1 h1;obtain⟨q1,e⟩:=Pq f n;refine⟨q1,λM w c b=>?_⟩;obtain⟨i,g1,g2⟩:=e M w c b;refine⟨i,g1,λv d=>?_⟩;cases d with
  | iface _ C=>exact .iface _ (g2 _ C)
theorem FP (e:a7 D):∀{Qvg c:List (AV D.E)} {m b:Mt D.E},(mVs D th Qvg c m).H b->Mv m b/\∀M w,dX M m.s.h.get w->bW M m.s.nx b.s.nx->∃d,Sm m b M w d/\∀l,LR M Qvg l->LR (rl b.r d) c l
 | [],[],m,b,h=>by cases av.1 (show(C.ret m).H b from h);exact Qfl m
 | [],_::_,_,_,h=>(h:False).elim
 | _::_,[],_,_,h=>(h:False).elim
 | a::Qvg,t::c,m,b,h=>by
  obtain⟨m1,h1,f⟩:=an.1 (show(aA (mV D th m a t) λm=>mVs D th Qvg c m).H b from h);exact(Qfm e h1).JB (FP e f)
def Qcw (a t:AO D.E):Prop:=t.wr=a.wr/\(∀b j,t.sO b j->a.sO b j)/\∀c d e,t=.arr c d e true->a=.arr c d e true
theorem N6.map {d:MI} {e:TypeId} {ro:Bool} (hl:∀l,LR M W l->LR M' g l) (h:N6 M d w W e ro):N6 M' d w g e ro:=by
 have b:=h.rd;obtain⟨l,a,m⟩:=b.list;have c:=hl l a;obtain⟨C,f,k1,k2,k3,k4,k5⟩:=h;refine⟨C,f,k1,k2,by rw[c.1,<-a.1];exact k3,λi v j=>?_,k5⟩;obtain⟨n,k,a2⟩:=c.get j;grind [World.cell?]
def Qfn {a b:Bool} (h:(Bool.rec (motive:=λ_=>Bool) (Bool.not a) a b:Bool)):a=b:=by cases a<;>cases b<;>first | rfl | cases h
theorem Qfo (u:a7 D) {a t:AO D.E} (h:(mO D th m a t).H m'):Mv m m'/\Qcw a t/\∀M w,dX M m.s.h.get w->bW M m.s.nx m'.s.nx->∃o,Sm m m' M w o/\∀n,OR M a n w->OR (rl m'.r o) t n w:=by
 cases t with
 | cells F e ro=>
  cases a<;>simp only[mO] at h<;>(try exact h.elim);obtain⟨h1,d⟩:=bz.1 h;obtain⟨f,g⟩:=l4 h1;obtain rfl:=aN.1 f;obtain rfl:=Qfn g;obtain⟨q1,B⟩:=FP u d;refine⟨q1,⟨rfl,λ_ _ _=>trivial,λ_ _ _ h=>by cases h⟩,λM w j p=>?_⟩;obtain⟨o,g1,g2⟩:=B M w j p;refine⟨o,g1,λn b=>⟨⟨b.1.1,b.1.2.1,?_⟩,b.2.map g2⟩⟩;obtain⟨l,k,_⟩:=b.2.rd.list;rw[(g2 l k).1,<-k.1];exact b.1.2.2
 | arr c G e ro=>
  cases a<;>simp only[mO] at h<;>(try exact h.elim);obtain⟨h1,d⟩:=bz.1 h;obtain⟨f,g⟩:=l4 h1;obtain rfl:=aN.1 f;obtain rfl:=Qfn g;obtain⟨I,x,y⟩:=an.1 d;obtain⟨rfl,e⟩:=cM x;cases e;obtain⟨rfl,z⟩:=cG.1 y;cases av.1 z;refine⟨.refl m,⟨rfl,λ_ _ _=>trivial,λ_ _ _ h=>h⟩,λM w j p=>⟨M,.refl j _,λn b=>⟨b.1,b.2.1,λA=>(b.2.2 A).map λl hl=>⟨hl.1,λi v C q e2=>lM (hl.2 i v C q e2) (dY u (ZaJ q)).2⟩⟩⟩⟩
 | tok c e=>
  cases a<;>simp only[mO] at h<;>(try exact h.elim);obtain⟨h1,d⟩:=bz.1 h;obtain⟨f,g⟩:=l4 h1;obtain rfl:=aN.1 f;obtain rfl:=aN.1 g;cases av.1 d;exact⟨.refl m,⟨rfl,λ_ _ h=>h,λ_ _ _ h=>by cases h⟩,λM w j p=>⟨M,.refl j _,λn b=>b⟩⟩
def Dn (th:List (Nat×AO D.E)) (M:Pm D) (w:World) (m:Mt D.E) (t b:Nat):Prop:=∃a oa c,cy th t=some a/\m.s.h.get b=some oa/\M.pl b=some c/\OR (rl m.r M) a c w/\Qcw oa a
theorem C6 (z:a7 D):∀{n:Nat} {m d:Mt D.E},(OK D th n m).H d->Ext m.r d.r/\(Inj m.r->Inj d.r)/\m.s.nx<=d.s.nx/\∀M w,dX M m.s.h.get w->bW M m.s.nx d.s.nx->(∀t b,dT m.r t=some b->(t,b)∈m.todo\/Dn th M w m t b)->
  ∃u,Sm m d M w u/\∀t b,dT d.r t=some b->Dn th u w d t b
 | 0,_,_,h=>(h:False).elim
 | n+1,m,d,h=>by
  obtain⟨s,r,td⟩:=m;cases td with
  | nil=>
   cases av.1 (show(C.ret ⟨s,r,[]⟩).H d from h);exact⟨.refl _,id,Zah _,λM w j o c=>⟨M,.refl j _,λt b e=>by
    rcases c t b e with h1 | h1
    ·cases h1
    ·exact h1⟩⟩
  | cons p td=>
   obtain⟨Q,h1,I⟩:=an.1 (show(aA (cN (cy th p.1)) λt=>aA (cN (s.h.get p.2)) λa=>aA (mO D th ⟨s,r,td⟩ a t) (OK D th n)).H d from h);obtain⟨oa,l,J⟩:=an.1 I;obtain⟨m2,K,L⟩:=an.1 J;rw[bC] at h1 l;obtain⟨q1,R,S⟩:=Qfo z K;obtain⟨k1,k2,A,k3⟩:=C6 z L;refine⟨q1.ext.trans k1,λhi=>k2 (q1.inj hi),Zav q1.le A,λM w j o c=>?_⟩;have i:bW M s.nx m2.s.nx:=o.fst A;obtain⟨v,g1,g2⟩:=S M w j i;have hle:=Sm.le g1 i;have q:=bW.next o g1;have N:∀t b,Dn th M w ⟨s,r,p::td⟩ t b->dT r t=some b->Dn th v w m2 t b:=λt b ⟨x,y,k,f,e2,g,F,G⟩ e=>⟨x,y,k,f,(q1.WG t b e).trans e2,hle.1 _ _ g,F.mono (JA hle q1.ext) λ_=>rfl,G⟩
   obtain⟨B,g3,g4⟩:=k3 v w g1.fJ q (λt b e=>by
    rcases q1.new t b e with f | f
    ·rcases c t b f with e2 | e2
     ·rcases Zbf.1 e2 with g | g
      ·right;obtain⟨k,O,P⟩:=j.obj p.2 oa l;subst g;exact⟨Q,oa,k,h1,(q1.WG _ _ f).trans l,hle.1 _ _ O,g2 k P,R⟩
      ·exact .inl (q1.td _ g)
     ·grind
    ·exact .inl f)
   exact⟨B,cP.trans g1 g3,g4⟩
structure Mtd (th:List (Nat×AO D.E)) (r0 r:Ren) (s:St D.E) (Qvg ts:List (AV D.E)) (s':St D.E):Prop where
 ext:Ext r0 r
 inj:Inj r
 all:∀t o,cy th t=some o->∃b,dT r t=some b
 le:s.nx<=s'.nx
 sem:∀M w,dX M s.h.get w->bW M s.nx s'.nx->∃M',cP s.h.get M w s'.h.get M' w s.nx s'.nx/\(∀l,LR M Qvg l->LR (rl r M') ts l)/\dX (rl r M') (λt=>cy th t) w/\
  ∀t b,dT r t=some b->∃ot oa mi,cy th t=some ot/\s'.h.get b=some oa/\M'.pl b=some mi/\Qcw oa ot
theorem Bp (L:a7 D) {I r:Ren} {Qvg Q:List (AV D.E)} (hi:Inj I) (h:(OL D s I th Qvg Q).H (s',r)):Mtd th I r s Qvg Q s':=by
 obtain⟨m1,h1,U⟩:=an.1 h;obtain⟨m2,V,W⟩:=an.1 U;obtain⟨X,A⟩:=bz.1 W;have A:=av.1 A;simp only[Zbx] at A;obtain⟨rfl,rfl⟩:=A;obtain⟨q1,q2⟩:=FP L h1;obtain⟨k1,k2,O,k3⟩:=C6 L V;have m:∀t o,cy th t=some o->∃b,dT m2.r t=some b:=λt o ht=>by
  have:=dV.1 X _ (oV ht);exact ZcI.1 this
 refine⟨q1.ext.trans k1,k2 (q1.inj hi),m,Zav q1.le O,λM w Y N=>?_⟩;obtain⟨R,g1,g2⟩:=q2 M w Y (N.fst O);have u:=bW.next N g1;obtain⟨S,g3,g4⟩:=k3 R w g1.fJ u λt b e=>by
  rcases q1.new t b e with d | d
  ·exact .inl (q1.td _ (C3 d))
  ·grind
 have hle:=Sm.le g3 u;have f:=g3.fJ;refine⟨S,cP.trans g1 g3,λl hl=>(g2 l hl).mono (JA hle k1),⟨λt o ht=>?_,λt P o o' i k ht ht' a n p F Z=>?_,λb o v e=>?_,λt o i ht hw a p j hj=>?_,λt c xs e i ht a p=>?_,⟨f.mb.1,λt o i ht hw a p=>?_⟩⟩,λt b e=>?_⟩
 ·obtain⟨b,g⟩:=m t o ht;obtain⟨B,oa,i,d,e2,y,z,q⟩:=g4 t b g;grind [wF]
 ·obtain⟨b,g,a⟩:=fW a;obtain⟨J,x,n⟩:=fW n;obtain⟨_,oa,_,_,e2,_⟩:=g4 t b g;obtain⟨_,G,_,_,C,_⟩:=g4 P J x;have:=f.inj b J oa G i k e2 C a n p F Z;subst this;exact k2 (q1.inj hi) t P b g x
 ·obtain⟨hp,v',hc,hv⟩:=f.gL b o v e;grind [lM]
 ·obtain⟨b,g,a⟩:=fW a;obtain⟨B,oa,k,d,e2,y,z,q,K,_⟩:=g4 t b g;rw[ht] at d;cases d;exact f.sep b oa i e2 (q▸hw) a p j (K i j hj)
 ·obtain⟨b,g,a⟩:=fW a;obtain⟨B,oa,k,d,e2,y,z,_,_,T⟩:=g4 t b g;rw[ht] at d;cases d;have:=T c xs e rfl;subst this;exact(f.Jm b c xs e i e2 a p).mono λ_ _ _ h=>h
 ·obtain⟨b,g,a⟩:=fW a;obtain⟨B,oa,k,d,e2,y,z,q,K,_⟩:=g4 t b g;rw[ht] at d;cases d;exact f.mb.2 b oa i e2 (q▸hw) a p
 ·obtain⟨B,oa,i,d,e2,y,z,q⟩:=g4 t b e;grind
end
section
variable {P:Program} {D:Data} {M M':Pm D} {w w':World} {H:Hp D} {s s':St D.E} {lo:Nat} {m m':Mt D.E} {th:List (Nat×AO D.E)}
section
variable {f:Nat->Nat}
variable {v:AV D.E} {e:Value} {l:List (AV D.E)} {c:List Value}
def Bq (c:∀t m,M.pl t=some m->M'.pl (f t)=some m) (l:yv M M') (h:VR M v e) (p:V' D v):VR M' (A' D f v) e:=by
 cases h<;>simp only[A']<;>first | (cases p;done) | skip
 case bool b=>exact .bool b
 case lit b=>exact .lit b
 case int h=>exact .int h
 case num h=>exact .num h
 case str h=>exact .str h
 case fC=>exact .fC
 case ptr h a=>exact .ptr (c _ _ h) a
 case kF g o=>exact .kF g o
 case ma h a hk hi=>exact .ma (c _ _ h) a hk hi
 case nu h=>exact .nu λi v n=>l _ _ _ (h i v n)
 case cW=>exact .cW
 case own h hk a k j d ht=>exact .own (c _ _ h) hk a k j d ht
 case l5 h hk a k hl=>exact .l5 (c _ _ h) hk a k hl
 case pre h hk a k j hl d ht=>exact .pre (c _ _ h) hk a k j hl d ht
 case oL h hk a k hl=>exact .oL (c _ _ h) hk a k hl
 case part h hk a k h0 hl j d=>exact .part (c _ _ h) hk a k h0 hl j d
 case jC h hk k h0=>exact .jC (c _ _ h) hk k h0
 case grow h a hl hz hs j d ht=>exact .grow (c _ _ h) a hl hz (hs.mono l) j d ht
 case j6 h a=>exact .j6 (c _ _ h) a
 case sub h a d j=>exact .sub (c _ _ h) a d j
 case oM=>exact .oM
 case list hs j d=>exact .list (hs.mono l) j d
 case dW=>exact .dW
 case qh=>exact .qh
 case map h=>exact .map (c _ _ h)
 case nilFunc=>exact .nilFunc
 case nilIface=>exact .nilIface
theorem vk (j:∀t d,M.pl t=some d->M'.pl (f t)=some d) (b:yv M M') (h:LR M l c) (k:jB (V' D) l):LR M' (sH (A' D f) l) c:=by
 rw[pC];refine⟨by simp[h.1],λi v m e g=>?_⟩;rw[Zbk] at e;cases a:l[i]? with
 | none=>rw[a] at e;cases e
 | some u=>
  rw[a] at e;cases e;exact Bq j b (h.2 i u m a g) (dV.1 k u (ZaJ a))
def JC (b:∀t l,M.pl t=some l->M'.pl (f t)=some l) (a:yv M M') (h:VR M v e) (d:okV D v):VR M' (LG D f v) e:=by
 cases v<;>simp only[LG]<;>(try exact Bq b a h rfl)
 case agg cs=>cases h with
  | agg hl c=>exact(VR.CJ (vk b a ⟨hl,c⟩ d):)
 case tuple cs=>cases h with
  | tuple hl c=>exact(VR.CK (vk b a ⟨hl,c⟩ d):)
 case func g xs q=>
  obtain⟨o,p⟩:=l4 d;cases h with
  | func _ hl c i m=>
   have j:=vk b a ⟨hl,c⟩ o;have k:=vk b a ⟨i,m⟩ p;exact .func _ j.1 j.2 k.1 k.2
 case iface t x=>cases h with
  | iface _ n=>exact .iface _ (Bq b a n d)
theorem JD (j:∀t d,M.pl t=some d->M'.pl (f t)=some d) (b:yv M M') (h:LR M l c) (k:jB (okV D) l):LR M' (sH (LG D f) l) c:=by
 rw[pC];refine⟨by simp[h.1],λi v m e g=>?_⟩;rw[Zbk] at e;cases a:l[i]? with
 | none=>rw[a] at e;cases e
 | some u=>
  rw[a] at e;cases e;exact JC j b (h.2 i u m a g) (dV.1 k u (ZaJ a))
def Pr (b:∀t d,M.pl t=some d->M'.pl (f t)=some d) (a:yv M M') (h:VR M v e) (c:Qe7 D v):VR M' (OM D f v) e:=by
 cases v<;>simp only[OM]<;>(try exact JC b a h c)
 case tuple cs=>cases h with
  | tuple hl g=>exact(VR.CK (JD b a ⟨hl,g⟩ c):)
theorem WJ (j:∀t b,M.pl t=some b->M'.pl (f t)=some b) (a:yv M M') {o:AO D.E} {b:MI} (g:a7 D) (h:OR M o b w) (k:okO D o):OR M' (A_ D f o) b w:=by
 cases o with
 | cells cs e ro=>exact⟨⟨h.1.1,h.1.2.1,by rw[pC,Za2];exact h.1.2.2⟩,h.2.map λl hl=>JD j a hl k⟩
 | arr c xs e ro=>exact⟨h.1,h.2.1,λm=>(h.2.2 m).map λl hl=>⟨hl.1,λi v n d e2=>(hl.2 i v n d e2).pure (dY g (ZaJ d)).2 a⟩⟩
 | tok c e=>exact h
end
variable {Z:Nat->Nat} {o:AO D.E} {c:Nat}
theorem Br (o:AO D.E):(A_ D Z o).wr=o.wr:=by cases o<;>rfl
def LW (o:AO D.E) (a:MI) (j:Nat):(A_ D Z o).sO a j↔o.sO a j:=by cases o<;>exact ZbW
def Pt {xs:List (D.E c)} {e:TypeId} {ro:Bool} (h:A_ D Z o=.arr c xs e ro):o=.arr c xs e ro:=by cases o<;>first | exact h | cases h
def JE (P:Program) (D:Data) (k:bk D):Prop:=(∃fn c,P.funcs[k.f]?=some fn/\fn.body=some c)/\∀y,k.pre y->∀(M:Pm D) (A:Array Value) (w:World),LR M (k.args y) A.toList->dX M (λt=>cy (k.heap y) t) w->TF M k.oD->
 ∀R:Ending->World->Prop,(∀a b d,VR a (k.res y) b->cP (λt=>cy (k.heap y) t) M w (λt=>cy (k.iE y) t) a d k.oD k.Cq->R (.returned b) d)->Calls P k.f A w R
noncomputable def LX (f:Nat->Nat) (b:Nat):List (Nat×AO D.E)->Option (AO D.E)
 | []=>none
 | p::l=>if f p.1=b then some (A_ D f p.2) else LX f b l
theorem zt:∀{l:List (Nat×AO D.E)},LX Z c l=some o->∃t a,cy l t=some a/\Z t=c/\o=A_ D Z a
 | [],h=>by cases h
 | (t,a)::l,h=>by
  unfold LX at h;by_cases e:Z t=c
  ·grind [fh]
  ·rw[Zaa e] at h;obtain⟨i,g,h1,b,d⟩:=zt h;grind [fh]
theorem JF:∀{l:List (Nat×AO D.E)} {h a:T (AO D.E)},(inP D Z l h).H a->∀b,a.get b=match LX Z b l with
  | some o=>some o
  | none=>h.get b
 | [],h,a,c,b=>by cases av.1 (show(C.ret h).H a from c);rfl
 | p::l,h,a,c,b=>by
  obtain⟨h1,g1,g2⟩:=an.1 (show(aA (inP D Z l h) λh=>cN (h.put (Z p.1) (some (A_ D Z p.2)))).H a from c);have d:=JF g1 b;grind [T.dU,bC,LX]
theorem C7 {r:Ren}:∀{l:List (Nat×AO D.E)} {h a:T (AO D.E)},(Qcf D r l h).H a->∀b,((∃p∈l,dT r p.1=some b)->a.get b=none)/\((¬∃p∈l,dT r p.1=some b)->a.get b=h.get b)
 | [],h,a,d,b=>by cases av.1 (show(C.ret h).H a from d);exact⟨λ⟨p,e,_⟩=>by grind,λ_=>rfl⟩
 | p::l,h,a,d,b=>by
  obtain⟨c,g1,g2⟩:=an.1 (show(aA (cN (dT r p.1)) λb=>aA (cN (h.put b none)) λh=>Qcf D r l h).H a from d);obtain⟨h1,g3,g4⟩:=an.1 g2;rw[bC] at g1 g3;have f:=C7 g4 b;grind [T.dU]
def C8 {l:List (Nat×AO D.E)} (h:below D c l) {t:Nat} (ht:cy l t=some o):t<c:=cu.1 (dV.1 h _ (oV ht))
theorem Pu (hD:a7 D) {k:bk D} {y:k.Y} {args:List (AV D.E)} {v:AV D.E} (hk:JE P D k) (h:(ON D k y args s).H (v,s')):FJ P D k.f args s v s':=by
 obtain⟨Z,h1⟩:=cG.1 h;obtain⟨h2,h3⟩:=bz.1 h1;obtain⟨h4,h5⟩:=l4 h2;obtain⟨V,X⟩:=l4 h4;obtain⟨hres,hok⟩:=l4 h5;have X:=cu.1 X;obtain⟨n,r,h6,h7⟩:=bq.1 h3;obtain⟨h2',h8,h9⟩:=an.1 h7;obtain⟨h3',h10,F⟩:=an.1 h9;have F:=av.1 F;simp only[Zbx] at F;obtain⟨rfl,rfl⟩:=F;have hm:=Bp hD (λt t' b e=>by cases(show none=some b from e)) h6;have hle:=hm.le;refine⟨by grind,hk.1,λM A w hl hS G R hR=>?_⟩;have G:bW M s.nx (n.nx+(k.Cq-k.oD)):=G;obtain⟨L,g1,g2,g3,g4⟩:=hm.sem M w hS (G.fst ω);have N:bW L n.nx (n.nx+(k.Cq-k.oD)):=G.next g1;have hr0:∀t,k.oD<=t->dT r t=none:=λt ht=>by
  cases hq:dT r t with
  | none=>rfl
  | some b=>
   obtain⟨ot,oa,g,i,_⟩:=g4 t b hq;have:=C8 V i;omega
 have hTF:TF (rl r L) k.oD:=λt ht=>by
  show(dT r t).bind L.pl=none
  grind
 refine hk.2 y Z.out (rl r L) A w (g2 _ hl) g3 hTF R λQ v' w' hv a=>?_
 let f:=rn r k.oD n.nx
 have z:∀t b,dT r t=some b->f t=b:=λt b e=>by
  show Option.rec (motive:=λ_=>Nat) (n.nx+(t-k.oD)) (λb=>b) (dT r t)=b
  rw[e]
 have f_new:∀t,k.oD<=t->f t=n.nx+(t-k.oD):=λt e=>by
  show Option.rec (motive:=λ_=>Nat) (n.nx+(t-k.oD)) (λb=>b) (dT r t)=_
  rw[hr0 t e]
 let S:Pm D:=⟨λb=>if n.nx<=b/\b<n.nx+(k.Cq-k.oD) then Q.pl (k.oD+(b-n.nx)) else L.pl b,Q.sg⟩
 have hf:∀t g,Q.pl t=some g->S.pl (f t)=some g:=λt g e=>by
  by_cases C:k.oD<=t/\t<k.Cq
  ·grind
  ·rw[a.ext t C] at e;obtain⟨b,i,e2⟩:=fW e;rw[z t b i];show(if _ then _ else _)=_
   by_cases l:n.nx<=b/\b<n.nx+(k.Cq-k.oD)
   ·rw[N b l.1 l.2] at e2;cases e2
   ·grind
 have O:yv Q S:=λ_ _ _ e=>e
 refine hR S v' w' (Pr hf O hv hres) (g1.trans ?_)
 
 classical
 let LK:Nat->Prop:=λb=>∃p∈k.heap y,dT r p.1=some b
 let K:Hp D:=λb=>if LK b then n.h.get b else none
 let K':Hp D:=λb=>LX f b (k.iE y)
 have W:∀t b,dT r t=some b->LK b:=λt b e=>by
  obtain⟨ot,_,_,i,_⟩:=g4 t b e;exact⟨(t,ot),oV i,e⟩
 have hK:∀t b,dT r t=some b->K b=n.h.get b:=λt b e=>Zac (W t b e)
 have Ql7:∀c,LJ (λt=>cy (k.heap y) t) (rl r L) c->LJ K L c:=λc ⟨t,o,g,i,e2,e3,x,m⟩=>by
  obtain⟨b,e6,e7⟩:=fW e3;obtain⟨ot,oa,I,q1,q2,q3,q4,_⟩:=g4 t b e6;rw[show cy (k.heap y) t=some o from i] at q1;cases q1;exact⟨b,oa,g,by grind,q4▸e2,e7,x,m⟩
 have Ql8:cP K L w K' S w' n.nx (n.nx+(k.Cq-k.oD)):=by
  have d:∀b J,K' b=some J->∃t o g,cy (k.iE y) t=some o/\f t=b/\J=A_ D f o/\Q.pl t=some g/\S.pl b=some g/\OR Q o g w':=λb J l=>by
   obtain⟨t,o,i,e2,e3⟩:=zt l;obtain⟨g,x,m⟩:=a.fJ.obj t o i;grind
  refine⟨⟨λb J l=>?_,λb T o J g I l B e e' C hr' he=>?_,λb o v e=>?_,λb o g l hw e C j hj=>?_,λb c xs e g l hmi C=>?_,⟨a.fJ.mb.1,λb o g l hw e C=>?_⟩⟩,λb l=>?_,λb o v e=>a.Jn b o v e,λb o e=>?_,a.size,λc hc hn=>a.aR c hc λhx=>hn (Ql7 c hx),λb o g l e C=>?_,λb l=>?_,a.os,a.tape,a.output,ω⟩
  ·obtain⟨t,o,g,i,e2,rfl,x,m,e6⟩:=d b J l;exact⟨g,m,WJ hf O hD e6 (dV.1 hok _ (oV i))⟩
  ·obtain⟨t,p,q,i,e2,_,x,m,_⟩:=d b o l;obtain⟨t',p',q',e1',e2',_,e4',U,_⟩:=d T J B;rw[e] at m;cases m;rw[e'] at U;cases U;have:=a.fJ.inj t t' p p' g I i e1' x e4' C hr' he;grind
  ·obtain⟨hp,v',hc,hvv⟩:=a.fJ.gL b o v e;exact⟨hp,v',hc,hvv.pure hp O⟩
  ·obtain⟨t,p,q,i,e2,rfl,x,m,_⟩:=d b o l;rw[e] at m;cases m;exact a.fJ.sep t p g i (by grind [Br]) x C j ((LW p g j).1 hj)
  ·obtain⟨t,p,q,i,e2,e3,x,m,_⟩:=d b _ l;rw[hmi] at m;cases m;have:=Pt e3.symm;subst this;exact a.fJ.Jm t c xs e g i x C
  ·obtain⟨t,p,q,i,e2,rfl,x,m,_⟩:=d b o l;rw[e] at m;cases m;exact a.fJ.mb.2 t p g i (by grind [Br]) x C
  ·exact Zaa l
  ·rcases a.lK b o e with u | u | u
   ·exact .inl u
   ·omega
   ·grind
  ·obtain⟨t,p,q,i,e2,rfl,x,m,_⟩:=d b o l;rw[e] at m;cases m;rcases a.born t p g i x C with u | ⟨t0,p0,rk,i1,i2,i3,i4,i5⟩
   ·omega
   ·obtain⟨b0,i6,i7⟩:=fW i2;obtain⟨ot,oa,I,q1,q2,q3,q4,_⟩:=g4 t0 b0 i6;grind [Br]
  ·obtain⟨J,ho'⟩:=Zbs.1 l;obtain⟨t,p,q,i,e2,_,x,m,_⟩:=d b J ho';rcases a.LK t (by grind) with u | u
   ·obtain⟨o0,ho0⟩:=Zbs.1 u;obtain⟨T,B⟩:=hm.all t o0 ho0;obtain⟨ot,oa,I,q1,q2,q3,q4,_⟩:=g4 t T B;left;rw[<-e2,z t T B,hK t T B,q2];simp
   ·grind
 refine Ql8.frame g1.fJ N (λb o l=>?_) λb=>?_
 ·grind
 ·grind [JF,C7]
theorem Bs (d:a7 D) {tab:List (bk D)} (ht:∀k∈tab,JE P D k):sR P D (Wv D tab):=by
 intro f args s v c h
 induction tab with
 | nil=>exact(h:False).elim
 | cons k tab a=>
  have a:=a λk hk=>ht k (ZaU _ hk)
  rcases gS.1 (show(bE (Nat.beq k.f f) (bE (Ba (k.yn args s)) (Wv D tab f args s) (aA (k.yn args s) λy=>ON D k y args s)) (Wv D tab f args s)).H (v,c) from h) with⟨h1,b⟩ | ⟨_,b⟩
  ·grind [gS,an,aN,Pu]
  ·grind
end
section
variable {P:Program} {D:Data} {M M':Pm D} {w w':World} {H H':Hp D} {s s':St D.E} {φ φ':T (AV D.E)} {a:Act} {N:Nat} {m m':Mt D.E} {th:List (Nat×AO D.E)}
variable {H0:Hp D} {M0:Pm D} {w0:World} {base:Nat}
structure WK (H0:Hp D) (M0:Pm D) (w0:World) (H:Hp D) (M:Pm D) (w:World):Prop where
 Jn:yv M0 M
 lK:∀b o,M.sg b o≠none->M0.sg b o≠none\/w0.heap.size<=b\/LJ H0 M0 b
 size:w0.heap.size<=w.heap.size
 aR:∀c,c<w0.heap.size->¬LJ H0 M0 c->w.heap[c]?=w0.heap[c]?
 born:∀b o mi,H b=some o->M.pl b=some mi->mi.real=true->w0.heap.size<=mi.bZ\/∃b0 o0 rk,H0 b0=some o0/\M0.pl b0=some rk/\rk.real=true/\rk.bZ=mi.bZ/\(o.wr=true->o0.wr=true)
 os:w.os=w0.os
 tape:w.tape=w0.tape
 output:w.output=w0.output
theorem WK.refl (H0:Hp D) (a:Pm D) (w0:World):WK H0 a w0 H0 a w0:=⟨λ_ _ _ h=>h,λ_ _ h=>.inl h,Zah _,λ_ _ _=>rfl,λb o f c d e=>.inr ⟨b,o,f,c,d,e,rfl,id⟩,rfl,rfl,rfl⟩
def WK.wrt (h:WK H0 M0 w0 H M w) {c:Nat} (j:LJ H M c):w0.heap.size<=c\/LJ H0 M0 c:=by
 obtain⟨b,o,p,i,m,l,n,rfl⟩:=j;rcases h.born b o p i l n with hs | ⟨g,q,f,a,d,e,k,hw⟩
 ·omega
 ·exact .inr ⟨g,q,f,a,hw m,d,e,k⟩
theorem WK.FM {lo hi:Nat} (h:WK H0 M0 w0 H M w) (k:cP H M w H' M' w' lo hi):WK H0 M0 w0 H' M' w':=by
 refine⟨λb o v e=>k.Jn _ _ _ (h.Jn _ _ _ e),λb o d=>?_,Zav h.size k.size,λc j q=>?_,λb o u d n r=>?_,k.os.trans h.os,k.tape.trans h.tape,k.output.trans h.output⟩
 ·rcases k.lK b o d with a | a | a
  ·exact h.lK b o a
  ·exact .inr (.inl (Zav h.size a))
  ·exact .inr (h.wrt a)
 ·rw[k.aR c (ZbB j h.size) λhw=>?_,h.aR c j q];rcases h.wrt hw with a | a
  ·omega
  ·grind
 ·rcases k.born b o u d n r with hs | ⟨b1,y,i,lD,f,g,m,t⟩
  ·exact .inl (Zav h.size hs)
  ·rcases h.born b1 y i lD f g with hs | ⟨z,B,x,l,p,s,A,hw⟩
   ·omega
   ·grind
structure E9 (H0:Hp D) (M0:Pm D) (w0:World) (base N:Nat) (s:St D.E) (φ:T (AV D.E)) (M:Pm D) (a:Act) (w:World):Prop where
 fJ:dX M s.h.get w
 fr:FR M φ a N
 tf:TF M s.nx
 C9:WK H0 M0 w0 s.h.get M w
 per:∀t mi,t<base->M.pl t=some mi->M0.pl t=some mi
 le:base<=s.nx
variable {v d:AV D.E} {b:Nat} {l:List (Nat×AO D.E)}
def E9.step {b:Act} (h:E9 H0 M0 w0 base N s φ M a w) (k:cP s.h.get M w s'.h.get M' w' s.nx s'.nx) (c:FR M' φ' b N):E9 H0 M0 w0 base N s' φ' M' b w':=
 ⟨k.fJ,c,h.tf.FM k,h.C9.FM k,λt d ht e=>h.per t d ht (by rw[<-k.ext t (by have:=h.le;omega)];exact e),Zav h.le k.le⟩
theorem Pv (p:a7 D) (h:(Jk D s v).H (d,s')) (l:dX M s.h.get w):∃j,cP s.h.get M w s'.h.get j w s.nx s'.nx/\∀val,VR M v val->VR j d val:=by
 have i:∀{v d:AV D.E},(C.ret (v,s)).H (d,s')->∃j,cP s.h.get M w s'.h.get j w s.nx s'.nx/\∀val,VR M v val->VR j d val:=λe=>by
  cases av.1 e;exact⟨M,.refl l _,λ_ h=>h⟩
 cases v<;>simp only[Jk] at h<;>(try exact i h)
 case own b k n=>
  obtain⟨a,m1,h1,f⟩:=bq.1 h;cases av.1 f;obtain⟨q1,q,m⟩:=kO p h1;grind [sV]
 case pre b k n=>
  obtain⟨a,m1,h1,f⟩:=bq.1 h;cases av.1 f;obtain⟨q1,q,m⟩:=kO p h1;obtain⟨j,g1,g2,x,g3,g4,g5,g6⟩:=m M w l;exact⟨j,g1,λv g=>(sV g2 g3 g4 g5 g6).2.1 g⟩
 case part b k o n=>
  obtain⟨a,m1,h1,f⟩:=bq.1 h;cases av.1 f;obtain⟨q1,q,m⟩:=kO p h1;obtain⟨j,g1,g2,x,g3,g4,g5,g6⟩:=m M w l;exact⟨j,g1,λv g=>(sV g2 g3 g4 g5 g6).2.2 o g⟩
 case grow c xs b=>
  cases av.1 h;refine⟨M,.refl l _,λv g=>?_⟩;cases g with
  | grow h u hl hz hs t r ht=>exact .list hs t r
  | j6 h u=>exact .dW
theorem wG {k:IntKind} {x:Int}:∀{n:Nat} {v:AV D.E},(OP D k x n).H v->∀(M:Pm D) val,VR M (.int k x) val->VR M v val
 | 0,v,h,M,val,b=>by
  obtain⟨h1,a⟩:=cX.1 (show(ask (aC x zI) (.ret (.num k zI))).H v from h);cases av.1 a;have h1:x=zI:=by grind [aC]
  subst h1;cases b;exact .num (by assumption)
 | n+1,v,h,M,val,b=>by
  rcases u9.1 (show(C.split (aC x (.ofNat (n+1))) (.ret (.num k (.ofNat (n+1)))) (OP D k x n)).H v from h) with⟨h1,a⟩ | ⟨_,a⟩
  ·cases av.1 a;have h1:x=.ofNat (n+1):=by grind [aC]
   subst h1;cases b;exact .num (by assumption)
  ·exact wG a M val b
def C_ {val:Value} (h:VR M v val):Ji D v:=by
 cases h<;>simp only[Ji]<;>(try trivial)
 case str l h=>exact ZaK (show(l.length:Int)<=9223372036854775807 by omega)
 case own a e d ht=>rw[a];simp[aI,zI];omega
 case l5 g a hl=>rw[a];simp[aI,zI]
 case grow c b cap xs i f g hl hz hs e d ht=>exact ZaK (show(xs.length:Int)<=9223372036854775807 by omega)
 case list c b o cap xs hs e d=>exact ZaK (show(xs.length:Int)<=9223372036854775807 by omega)
theorem wH:∀{l:List (AV D.E)} {l':List Value},LR M l l'->OO D l
 | [],_,_=>trivial
 | v::l,l',h=>by
  obtain⟨c,r,_,b,a⟩:=h.aP;exact⟨C_ b,wH a⟩
def Pw {val:Value} (h:VR M v val):Jj D v:=by
 cases v<;>simp only[Jj]<;>(try exact C_ h)
 case agg l=>cases h with
  | agg hl a=>exact wH (l':=_) ⟨hl,a⟩
 case tuple l=>cases h with
  | tuple hl a=>exact wH (l':=_) ⟨hl,a⟩
def Qcx (c:FR M φ a N) (g:∀val,VR M v val->VR M d val) (h:φ.get b=some v) (f:φ.put b (some d)=some φ'):FR M φ' a N:=by
 refine⟨λx u t=>?_,c.size,c.defers⟩;rw[T.dU _ _ _ _ f x] at t;by_cases e:x=b
 ·subst e;rw[Zac rfl] at t;cases t;exact g _ (c.at_ x v h)
 ·rw[Zaa e] at t;exact c.at_ x u t
def WL (c:FR M φ a N) (f:Le M M') (i:∀val,VR M v val->VR M' d val) (h:φ.get b=some v) (g:φ.put b (some d)=some φ'):FR M' φ' a N:=by
 refine⟨λx u t=>?_,c.size,c.defers⟩;rw[T.dU _ _ _ _ g x] at t;by_cases e:x=b
 ·subst e;rw[Zac rfl] at t;cases t;exact i _ (c.at_ x v h)
 ·rw[Zaa e] at t;exact(c.at_ x u t).mono f
theorem cP.same {u o1:AO D.E} {l:MI} (d:dX M H0 w) (I:H0 b=some u) (J:M.pl b=some l) (K:OR M o1 l w) (hw:o1.wr=u.wr) (q:∀j,o1.sO l j->u.sO l j) (C:∀c xs e,o1≠.arr c xs e true) (lo:Nat):
  cP H0 M w (jc H0 b (some o1)) M w lo lo:=by
 have a:∀c o,jc H0 b (some o1) c=some o->∃g,H0 c=some g/\o.wr=g.wr/\(∀m,M.pl c=some m->∀j,o.sO m j->g.sO m j):=λc o h=>by
  grind [jc]
 refine⟨⟨λc o h=>?_,λc v o g m F h y e x r H A=>?_,d.gL,λc o m h hw e i j B=>?_,λc k xs e m h n t=>?_,⟨d.mb.1,λc o m h hw e i=>?_⟩⟩,λ_ _=>rfl,λ_ _ _ h=>h,λ_ _ h=>.inl h,Zah _,λ_ _ _=>rfl,λc o m h e i=>?_,λc h=>?_,rfl,rfl,rfl,Zah _⟩
 ·unfold jc at h;split at h
  ·grind
  ·exact d.obj c o h
 ·obtain⟨p,f,_⟩:=a c o h;obtain⟨G,s,_⟩:=a v g y;exact d.inj c v p G m F f s e x r H A
 ·obtain⟨p,f,h1,z⟩:=a c o h;exact d.sep c p m f (by grind) e i j (z m e j B)
 ·unfold jc at h;split at h
  ·grind
  ·exact d.Jm c k xs e m h n t
 ·obtain⟨p,f,h1,_⟩:=a c o h;exact d.mb.2 c p m f (by grind) e i
 ·grind
 ·grind [jc]
theorem Px {o n:Nat} (h:(Fu D b o n s).H s') (g:dX M s.h.get w):cP s.h.get M w s'.h.get M w s.nx s'.nx:=by
 obtain⟨a,h1,d⟩:=an.1 (show(aA (cN (s.h.get b)) _).H s' from h);cases a with
 | cells cs e ro=>
  obtain⟨v,t,x⟩:=an.1 d;obtain⟨B,f,y⟩:=an.1 x;obtain⟨q1,A⟩:=kJ y;have j:=bC.1 h1;have l:=bC.1 t;rw[fb] at l;obtain⟨E,z,k,C,r,k1,k2,k3,k4,k5⟩:=g.obj b _ j;rw[q1,A];refine cP.same (o1:=.cells (cO cs o B) e ro) g j z ⟨⟨k.1,k.2.1,by grind [mq]⟩,C,r,k1,k2,by grind [mq],λi u hu=>?_,k5⟩ rfl (λ_ h=>h) (λ_ _ _ h=>by cases h) _;unfold cO at hu;rw[List.getElem?_set] at hu;split at hu
  ·rename_i q
   subst q;split at hu
   ·cases hu;obtain⟨m,p,a2⟩:=k4 _ v l;refine⟨m,p,?_⟩;cases v<;>simp only[CF] at f<;>(try (cases av.1 f;exact a2));exact wG f M m a2
   ·cases hu
  ·grind
 | arr c xs e ro=>exact(d:False).elim
 | tok c e=>exact(d:False).elim
theorem Py (m:a7 D) {h:Hint} (f:(y3 D h s φ).H (s',φ')) (c:E9 H0 M0 w0 base N s φ M a w):∃g,E9 H0 M0 w0 base N s' φ' g a w:=by
 cases h with
 | lock t=>
  obtain⟨v,h1,d⟩:=an.1 (show(aA (cN (φ.get t)) λv=>aQ (Jk D s v) λv s=>aA (cN (φ.put t (some v))) λφ=>.ret (s,φ)).H (s',φ') from f);obtain⟨r,q,e,i⟩:=bq.1 d;obtain⟨l,j,k⟩:=an.1 i;cases av.1 k;obtain⟨g,g1,g2⟩:=Pv m e c.fJ;exact⟨g,c.step g1 (WL c.fr (g1.Le c.tf.fresh) g2 (bC.1 h1) (bC.1 j))⟩
 | Qcg t n=>
  obtain⟨v,h1,d⟩:=an.1 (show(aA (cN (φ.get t)) λv=>aA (CF D v n) λv=>aA (cN (φ.put t (some v))) λφ=>.ret (s,φ)).H (s',φ') from f);obtain⟨r,e,i⟩:=an.1 d;obtain⟨l,j,k⟩:=an.1 i;cases av.1 k;refine⟨M,c.step (.refl c.fJ _) (Qcx c.fr (λval p=>?_) (bC.1 h1) (bC.1 j))⟩;cases v<;>simp only[CF] at e<;>(try (cases av.1 e;exact p));grind [wG]
 | fact t=>
  cases av.1 (show(C.ret (s,φ)).H (s',φ') from f);grind
 | y2 b o n=>
  obtain⟨q,h1,d⟩:=an.1 (show(aA (Fu D b o n s) λs=>.ret (s,φ)).H (s',φ') from f);cases av.1 d;exact⟨M,c.step (Px h1 c.fJ) c.fr⟩
theorem sW (j:a7 D) {K:St D.E->T (AV D.E)->Prop}:∀{l:List (Nat×Hint)} {s:St D.E} {φ:T (AV D.E)} {M:Pm D},oJ D l b s φ K->E9 H0 M0 w0 base N s φ M a w->∃r f u,K r f/\E9 H0 M0 w0 base N r f u a w
 | [],s,φ,M,h,e=>⟨s,φ,M,h,e⟩
 | p::l,s,φ,M,h,e=>by
  have c:cond (Nat.beq p.1 b) (Qag D p.2 φ ((y3 D p.2 s φ).wp λq=>oJ D l b q.1 q.2 K)) (oJ D l b s φ K):=h;cases m:Nat.beq p.1 b with
  | false=>rw[m] at c;exact sW j c e
  | true=>
   rw[m] at c;have x:(y3 D p.2 s φ).wp λq=>oJ D l b q.1 q.2 K:=by
    cases g:p.2 with
    | fact t=>
     rw[g] at c;have d:Option.rec (motive:=λ_=>Prop) ((y3 D (.fact t) s φ).wp λq=>oJ D l b q.1 q.2 K) (λv=>Jj D v->(y3 D (.fact t) s φ).wp λq=>oJ D l b q.1 q.2 K) (φ.get t):=c;cases k:φ.get t with
     | none=>rw[k] at d;exact d
     | some v=>rw[k] at d;exact d (Pw (e.fr.at_ t v k))
    | lock t=>rw[g] at c;exact c
    | Qcg t n=>rw[g] at c;exact c
    | y2 id o n=>rw[g] at c;exact c
   obtain⟨⟨B,z⟩,d,y⟩:=gh x;obtain⟨A,i⟩:=Py j d e;exact sW j y i
theorem Da:∀{l:List (Nat×AO D.E)} {h a:T (AO D.E)},(LI D l h).H a->∀b,a.get b=match cy l b with
  | some o=>some o
  | none=>h.get b
 | [],h,a,c,b=>by cases av.1 (show(C.ret h).H a from c);rfl
 | (t,o)::l,h,a,c,b=>by
  obtain⟨h1,g1,g2⟩:=an.1 (show(aA (LI D l h) λh=>cN (h.put t (some o))).H a from c);have d:=Da g1 b;grind [T.dU,bC,fh]
theorem wI {a:T (AO D.E)} (c:(LI D l .nil).H a):a.get=λb=>cy l b:=by
 grind [Da,T.get_nil]
theorem LY:(∀t o,cy l t=some o->t<base->dT (fixed D base l) t=some t)/\∀t b,dT (fixed D base l) t=some b->b=t:=by
 induction l with
 | nil=>exact⟨λt o h=>(by cases(show none=some o from h)),λt b h=>(by cases(show none=some b from h))⟩
 | cons p l a=>
  grind [fixed,ji,fh,CI]
theorem JG:∀{l:List Nat} {b:List (AV D.E)},(wa D φ l).H b->FR M φ a N->LR M b (l.map λt=>a.tmps.getD t Go.undef)
 | [],b,h,_=>by cases av.1 (show(C.ret []).H b from h);exact .nil
 | t::l,b,h,hf=>by
  obtain⟨v,h1,c⟩:=an.1 (show(aA (cN (φ.get t)) λv=>aA (wa D φ l) λr=>.ret (v::r)).H b from h);obtain⟨r,d,e⟩:=an.1 c;cases av.1 e;exact .cons (hf.at_ t v (bC.1 h1)) (JG d hf)
theorem wJ:∀{l:List Nat} {b:List (AV D.E)} {φ a:T (AV D.E)},(Wx D b l φ).H a->b.length>=l.length/\∀t v,a.get t=some v->φ.get t=some v\/∃i:Nat,l[i]?=some t/\b[i]?=some v
 | [],b,φ,a,h=>by cases av.1 (show(C.ret φ).H a from h);exact⟨by simp,λt v h=>.inl h⟩
 | x::l,[],φ,a,h=>(h:False).elim
 | x::l,u::b,φ,a,h=>by
  obtain⟨j,h1,d⟩:=an.1 (show(aA (cN (φ.put x (some u))) λφ=>Wx D b l φ).H a from h);obtain⟨q1,g⟩:=wJ d;refine⟨by grind,λt v f=>?_⟩;rcases g t v f with c | ⟨i,c,k⟩
  ·rw[T.dU _ _ _ _ (bC.1 h1) t] at c;by_cases e:t=x
   ·rw[Zac e] at c;cases c;exact .inr ⟨0,by grind,rfl⟩
   ·grind
  ·exact .inr ⟨i+1,by assumption,by assumption⟩
theorem wK (Z:a7 D) {L:iF D} {x:L.X} {y:List (AV D.E)} {kp:List (Nat×AO D.E)} {u:Unit} {sh:St D.E} {p:T (AV D.E)} (k:(tL D base L x y kp s φ).H u) (hs:(Jl D base L x y kp).H (sh,p)) (hkv:y.length=L.aR.length) (f:E9 H0 M0 w0 base N s φ M a w):
  ∃P,E9 H0 M0 w0 base N sh p P a w:=by
 obtain⟨Qvg,h1,R⟩:=an.1 k;obtain⟨⟨s1,r⟩,K,_⟩:=an.1 R;rw[fD] at h1;rw[fD,fD] at K;obtain⟨φ1,S,U⟩:=an.1 hs;obtain⟨φ2,V,W⟩:=an.1 U;obtain⟨h,O,Y⟩:=an.1 W;obtain⟨B,C⟩:=bz.1 Y;obtain⟨F,j⟩:=l4 B;cases av.1 C;rw[fD] at O j;obtain⟨Q,f2⟩:=LY (D:=D) (base:=base) (l:=kp++L.pc x);have m:=Bp Z (λt t' b e e'=>by grind) K;obtain⟨A,g1,g2,g3,g4⟩:=m.sem M w f.fJ f.tf.fresh;have c:E9 H0 M0 w0 base N s1 φ A a w:=f.step g1 (f.fr.mono (g1.Le f.tf.fresh));have hl:=g2 _ (JG h1 f.fr);refine⟨rl r A,by grind [wI],⟨λt v hv=>?_,f.fr.size,f.fr.defers⟩,λt ht=>?_,⟨c.C9.Jn,c.C9.lK,c.C9.size,c.C9.aR,λt o z q k hr=>?_,c.C9.os,c.C9.tape,c.C9.output⟩,λt z ht k=>?_,cu.1 F⟩
 ·obtain⟨p1,p2⟩:=wJ S;obtain⟨p3,p4⟩:=wJ V;have G:∃i:Nat,(L.aR++Qci (L.sl x))[i]?=some t/\(y++Qcj (L.sl x))[i]?=some v:=by
   rcases p4 t v hv with e | ⟨i,d,e2⟩
   ·rcases p2 t v e with e | ⟨i,d,e2⟩
    ·grind [T.get_nil]
    ·exact⟨i,by grind,by grind⟩
   ·exact⟨L.aR.length+i,by grind,by grind⟩
  obtain⟨i,d,e2⟩:=G;obtain⟨v',g,J⟩:=hl.get e2;grind
 ·cases hq:(rl r A).pl t with
  | none=>rfl
  | some z=>
   obtain⟨b,d,e2⟩:=fW hq;obtain⟨I,oa,n,g,_⟩:=g4 t b d;have:=C8 j g;grind
 ·have q:h.get t=some o:=q;rw[wI O] at q;obtain⟨b,d,e2⟩:=fW k;obtain⟨I,oa,n,g,J,e5,e6,_⟩:=g4 t b d;rw[show cy (kp++L.pc x) t=some o from q] at g;cases g;rcases c.C9.born b oa z J e2 hr with e7 | ⟨b0,o0,rk,i1,i2,i3,i4,i5⟩
  ·omega
  ·grind
 ·obtain⟨b,d,e2⟩:=fW k;obtain⟨I,oa,n,g,_⟩:=g4 t b d;have:=m.ext t t (Q t I g ht);rw[d] at this;cases this;exact c.per t z ht e2
end
section
variable {P:Program} {D:Data} {cd:TypeId->Option Nat} {ca:tK D.E} {jb:cU D} {M M':Pm D} {w w':World} {s s':St D.E} {φ φ':T (AV D.E)} {a:Act} {N:Nat}
variable {H0:Hp D} {M0:Pm D} {w0:World} {base:Nat}
variable {b:Code} {B:Wk D} {L:iF D}
def yB (P:Program) (H0:Hp D) (d:Pm D) (w0:World) (base N:Nat) (c:Code) (j:Wk D):Prop:=∀(p:Nat) (s:St D.E) (φ:T (AV D.E)) (Q:CE D),j p s φ Q->∀(M:Pm D) (a:Act) (w:World),E9 H0 d w0 base N s φ M a w->∀R:Exit->Act->World->Prop,
 (∀e g b i f h,Q e g b->E9 H0 d w0 base N g b i f h->R (Qco e) f h)->c.wp P R a w
theorem rO:∀{l:List Nat} {a:List (AV D.E)},(wa D φ l).H a->a.length=l.length
 | [],a,h=>by cases av.1 (show(C.ret []).H a from h);rfl
 | t::l,a,h=>by
  obtain⟨v,h1,b⟩:=an.1 (show(aA (cN (φ.get t)) λv=>aA (wa D φ l) λr=>.ret (v::r)).H a from h);obtain⟨r,c,d⟩:=an.1 b;cases av.1 d;simp[rO c]
def Db (U:a7 D) (V:yB P H0 M0 w0 base N b B):yB P H0 M0 w0 base N (.loop b) (y4 D base L B):=by
 intro p s φ Q h M a w l R A;obtain⟨⟨v,kp⟩,h1,G⟩:=gh (show(aA (wa D φ L.aR) λv=>aA (LH D s L.kp) λkp=>.ret (v,kp)).wp _ from h);obtain⟨kv',I,J⟩:=an.1 h1;obtain⟨kp',_,K⟩:=an.1 J;cases av.1 K;have o:=rO I;obtain⟨⟨x,Y⟩,d⟩:=G;have key:∀(n:Nat) (x:L.X),L.me x<n->L.inv x->∀(s:St D.E) (φ:T (AV D.E)) (M:Pm D) (a:Act) (w:World) (u:Unit),(tL D base L x v kp s φ).H u->E9 H0 M0 w0 base N s φ M a w->Code.rounds P b R n a w:=by
  intro n
  induction n with
  | zero=>intro x q;omega
  | succ n Z=>
   intro x q hinv s φ M a w u W l;obtain⟨⟨sh,φh⟩,j,k⟩:=gh (d x ⟨hinv⟩);obtain⟨C,m⟩:=wK U W j o l;rw[rounds_succ];refine V _ _ _ _ k C a w m _ λe y f g a2 z r c=>?_
   cases e with
   | normal=>
    obtain⟨x',t⟩:=r;obtain⟨u',O,S⟩:=gh t;obtain⟨i,F⟩:=S.out;exact Z x' ω i y f g a2 z u' O c
   | exit id=>exact A (.exit id) y f g a2 z r c
   | ret=>exact A .ret y f g a2 z r c
 obtain⟨u,j,k⟩:=gh Y;exact wp_loop_rounds (L.me x+1) (key _ x (Zbr _) k.out s φ M a w u j l)
theorem LZ (Y:a7 D) {f:iF D} (Z:yB P H0 M0 w0 base N b B):yB P H0 M0 w0 base N (.loop b) (Fv D base L f B):=by
 intro p s φ Q h M a w q R I;obtain⟨⟨d,kp⟩,h1,U⟩:=gh (show(aA (wa D φ L.aR) λd=>aA (LH D s L.kp) λkp=>bB (Nat.beq (kg L.aR) (kg f.aR)) (.ret (d,kp))).wp _ from h);obtain⟨kv',G,V⟩:=an.1 h1;obtain⟨kp',_,l⟩:=an.1 V;obtain⟨hl,l⟩:=bz.1 l;cases av.1 l;have hkv:=rO G;have J:d.length=f.aR.length:=by
  grind [Nat.eq_of_beq_eq_true,hI]
 obtain⟨⟨x,hx⟩,lD,hb2⟩:=U;have key:∀(n:Nat) (c:iF D),(c=L\/c=f)->∀(x:c.X),c.me x<n->c.inv x->∀(s:St D.E) (φ:T (AV D.E)) (M:Pm D) (a:Act) (w:World) (u:Unit),(tL D base c x d kp s φ).H u->E9 H0 M0 w0 base N s φ M a w->Code.rounds P b R n a w:=by
  intro n
  induction n with
  | zero=>intro _ _ x v;omega
  | succ n ih=>
   intro c hL x v hinv s φ M a w u hm q;have g:OQ D base c d kp B p (λn s φ=>wb D base L d kp n s φ\/wb D base f d kp n s φ) Q:=by grind
   have t:d.length=c.aR.length:=by grind
   obtain⟨⟨sh,φh⟩,m,o⟩:=gh (g x ⟨hinv⟩);obtain⟨K,r⟩:=wK Y hm m t q;rw[rounds_succ];refine Z _ _ _ _ o K a w r _ λe A i F a2 C y j=>?_
   have again:∀k:iF D,(k=L\/k=f)->wb D base k d kp (c.me x) A i->Code.rounds P b R n a2 C:=λk G ⟨x',z⟩=>by
    obtain⟨u',h8,W⟩:=gh z;obtain⟨O,S⟩:=W.out;grind
   cases e with
   | normal=>exact(y:_\/_).elim (again L (.inl rfl)) (again f (.inr rfl))
   | exit id=>exact I (.exit id) A i F a2 C y j
   | ret=>exact I .ret A i F a2 C y j
 obtain⟨u,m,o⟩:=gh hx;exact wp_loop_rounds (L.me x+1) (key _ L (.inl rfl) x (Zbr _) o.out s φ M a w u m q)
theorem Dc (H:a7 D) {y:Code} {o:Wk D} (I:yB P H0 M0 w0 base N b B) (J:yB P H0 M0 w0 base N y o):yB P H0 M0 w0 base N (.seq b y) (y5 D base L B o):=by
 intro p s φ Q h M a w G R f;obtain⟨⟨l,kp⟩,h1,r⟩:=gh (show(aA (wa D φ L.aR) λl=>aA (LH D s L.kp) λkp=>.ret (l,kp)).wp _ from h);obtain⟨T,t,v⟩:=an.1 h1;obtain⟨S,_,A⟩:=an.1 v;cases av.1 A;have g:=rO t;obtain⟨K,O⟩:=r;refine wp_seq (I _ _ _ _ K M a w G _ λe m c k a2 j i x=>?_);cases e with
 | normal=>
  obtain⟨z,hz⟩:=i;obtain⟨u,n,C⟩:=gh hz;obtain⟨⟨sh,U⟩,E,F⟩:=gh (O z C);obtain⟨q,d⟩:=wK H n E g x;exact J _ _ _ _ F q a2 j d R f
 | exit id=>exact f (.exit id) m c k a2 j i x
 | ret=>exact f .ret m c k a2 j i x
theorem L0 (o:yB P H0 M0 w0 base N b B) (n:Nat):yB P H0 M0 w0 base N (.loop b) (Bb D n B):=by
 intro p s φ Q h M a w m R k;refine wp_loop_rounds n ?_
 induction n generalizing p s φ M a w with
 | zero=>exact(h:False).elim
 | succ n q=>
  rw[rounds_succ];refine o _ _ _ _ h M a w m _ λe i d f a2 j g c=>?_
  cases e with
  | normal=>exact q _ i d g f a2 j c
  | exit id=>exact k (.exit id) i d f a2 j g c
  | ret=>exact k .ret i d f a2 j g c
theorem Qcy (G:a7 D) (U:P.follows .mixedOrders) (V:sS P) (T:sR P D ca) (c:Code):yB P H0 M0 w0 base N c (Cr P D cd ca base jb N c):=by
 induction c with
 | skip=>exact λp s φ Q h M a w i R d=>wp_skip (d .normal s φ M a w h i)
 | region id ops draw=>
  intro p s φ Q h M a w i R d;obtain⟨s1,W,M1,h1,m⟩:=sW G (show oJ D jb.hs id s φ _ from h) i;cases draw with
  | true=>
   obtain⟨⟨Y,J⟩,O,S⟩:=gh (show(CD P D cd (CG jb.mu id) ca ops.toList N s1 W).wp _ from h1);obtain⟨_,X⟩:=C0 (id:=id) G U V T O;exact X M1 a w m.fJ m.fr m.tf.fresh R λz o u H B=>d .normal Y J z o u S (m.step H B)
  | false=>
   obtain⟨⟨Y,J⟩,O,S⟩:=gh (show(qC P D cd (CG jb.mu id) ca ops.toList N ops.toList 0 s1 W).wp _ from h1);obtain⟨_,X⟩:=pJ G V T _ _ _ _ _ _ O;exact wp_region_list (X M1 a w m.fJ m.fr m.tf.fresh R λz o u H B=>d .normal Y J z o u S (m.step H B))
 | seq x y q r=>
  intro p s φ Q h;have h:Option.rec (motive:=λ_=>Prop) (Option.rec (motive:=λ_=>Prop) (Cr P D cd ca base jb N x (2*p) s φ (Ww D Q λs φ=>Cr P D cd ca base jb N y (2*p+1) s φ Q)) (λL=>y5 D base L (Cr P D cd ca base jb N x) (Cr P D cd ca base jb N y) p s φ Q) (cy jb.jn p))
   (λF=>∃k:F.K,y5 D base (F.L k) (Cr P D cd ca base jb N x) (Cr P D cd ca base jb N y) p s φ Q) (cy jb.kf p):=h
  cases B:cy jb.kf p with
  | some F=>
   rw[B] at h;obtain⟨k,hk⟩:=h;exact Dc G q r p s φ Q hk
  | none=>
  rw[B] at h;have h:Option.rec (motive:=λ_=>Prop) (Cr P D cd ca base jb N x (2*p) s φ (Ww D Q λs φ=>Cr P D cd ca base jb N y (2*p+1) s φ Q)) (λL=>y5 D base L (Cr P D cd ca base jb N x) (Cr P D cd ca base jb N y) p s φ Q) (cy jb.jn p):=h;cases hj:cy jb.jn p with
  | some L=>rw[hj] at h;exact Dc G q r p s φ Q h
  | none=>
   rw[hj] at h;intro M a w i R d;refine wp_seq (q _ _ _ _ h M a w i _ λe C g z o u n j=>?_);cases e with
   | normal=>exact r _ _ _ _ n z o u j R d
   | exit id=>exact d (.exit id) C g z o u n j
   | ret=>exact d .ret C g z o u n j
 | cond c x y q r=>
  intro p s φ Q h M a w i R d;obtain⟨t,h1,O⟩:=gh (show(aA (ev P D φ c) λv=>vX D v).wp _ from h);obtain⟨v,S,h4⟩:=an.1 h1;have hv:=vj h4 (dF S i.fr);cases t with
  | true=>exact wp_cond_true hv (q _ _ _ _ O M a w i R d)
  | false=>exact wp_cond_false hv (r _ _ _ _ O M a w i R d)
 | block id b I=>
  intro p s φ Q h M a w i R d;refine wp_block (I _ _ _ _ h M a w i _ λe C g z o u n j=>?_);cases e with
  | normal=>exact d .normal C g z o u n j
  | ret=>exact d .ret C g z o u n j
  | exit A=>
   have n:cond (Nat.beq A id) (Q .normal C g) (Q (.exit A) C g):=n;show Exit.inBlock id R (.exit A) o u
   by_cases e:A=id
   ·rw[aN.2 e] at n;simp only[Exit.inBlock,Zac e];exact d .normal C g z o u n j
   ·rw[rv.2 e] at n;simp only[Exit.inBlock,Zaa e];exact d (.exit A) C g z o u n j
 | loop b I=>
  intro p s φ Q h;have h:Option.rec (motive:=λ_=>Prop) (Option.rec (motive:=λ_=>Prop) (Bb D jb.un (Cr P D cd ca base jb N b) p s φ Q) (λL=>y4 D base L (Cr P D cd ca base jb N b) p s φ Q) (cy jb.lp p))
   (λF=>∃k:F.K,Option.rec (motive:=λ_=>Prop) (y4 D base (F.L k) (Cr P D cd ca base jb N b) p s φ Q) (λZ=>Fv D base (F.L k) Z (Cr P D cd ca base jb N b) p s φ Q) F.E) (cy jb.kf p):=h
  cases B:cy jb.kf p with
  | some F=>
   rw[B] at h;obtain⟨k,hk⟩:=h;obtain⟨K,L,E⟩:=F;cases E with
   | none=>exact Db G I p s φ Q hk
   | some Z=>exact LZ G I p s φ Q hk
  | none=>
  rw[B] at h;have h:Option.rec (motive:=λ_=>Prop) (Bb D jb.un (Cr P D cd ca base jb N b) p s φ Q) (λL=>y4 D base L (Cr P D cd ca base jb N b) p s φ Q) (cy jb.lp p):=h;cases n:cy jb.lp p with
  | none=>rw[n] at h;exact L0 I jb.un p s φ Q h
  | some L=>rw[n] at h;exact Db G I p s φ Q h
 | rangeFunc f ps x y q r=>exact λp s φ Q h=>(h:False).elim
 | exit id=>exact λp s φ Q h M a w i R d=>wp_exit (d (.exit id) s φ M a w h i)
 | scope b I=>exact λp s φ Q h=>(h:False).elim
 | label l=>exact λp s φ Q h M a w i R d=>wp_label (d .normal s φ M a w h i)
 | goto l=>exact λp s φ Q h=>(h:False).elim
 | ret=>exact λp s φ Q h M a w i R d=>wp_ret (d .ret s φ M a w h i)
 | refuse y=>exact λp s φ Q h=>(h:False).elim
theorem wL:∀{b:List (AV D.E)} {i:Nat} {φ a:T (AV D.E)},(sL D b i φ).H a->∀t,a.get t=if i<=t/\t<i+b.length then b[t-i]? else φ.get t
 | [],i,φ,a,h,t=>by cases av.1 (show(C.ret φ).H a from h);simp;omega
 | v::b,i,φ,a,h,t=>by
  obtain⟨d,h1,c⟩:=an.1 (show(aA (cN (φ.put i (some v))) (λφ=>sL D b (i+1) φ)).H a from h);rw[wL c t,T.dU _ _ _ _ (bC.1 h1) t];grind
theorem zu {a:List (AV D.E)} {A:Array Value} (h:(sL D a 0 .nil).H φ) (hl:LR M a A.toList) (g:a.length<=N):
  FR M φ { tmps:=A++Array.replicate (N-A.size) Go.undef,defers:=[] } N:=by
 have hlen:a.length=A.size:=by rw[hl.1,Zba]
 refine⟨λt v b=>?_,?_,rfl⟩
 ·rw[wL h t] at b;simp only[Zaj,Zal,Za6,Zdp] at b;by_cases ht:t<a.length
  ·rw[Zac ht] at b;obtain⟨d,c,e⟩:=hl.get b;have f:(A++Array.replicate (N-A.size) Go.undef).getD t Go.undef=d:=by
    rw[ZaL] at c;rw[ZaT,ZbT ω,c];rfl
   grind
  ·grind [T.get_nil]
 ·grind
theorem wM (i:a7 D) {C:Nat}:∀{rs:List ResultVar} {c:List (AV D.E)},(OT P D s φ rs).H c->FR M φ a C->dX M s.h.get w->∃f,LR M c f/\(rs.mapM λr=>(match r with
   | .tmp t=>Pure.pure (a.tmps.getD t Go.undef)
   | .cell b t=>do loadVar t (<-Go.asAddr (a.tmps.getD b Go.undef)):Sem Value)).run P w=.ok f w
 | [],c,h,_,_=>by cases av.1 (show(sx.C.ret []).H c from h);exact⟨[],.nil,by simp⟩
 | r::rs,c,h,hf,hS=>by
  obtain⟨v,j,h1⟩:=an.1 (show(aA (OS P D s φ r) (λv=>aA (OT P D s φ rs) λc=>.ret (v::c))).H c from h);obtain⟨us,g,l⟩:=an.1 h1;cases av.1 l;obtain⟨d,hl,y⟩:=wM i g hf hS;cases r with
  | tmp t=>
   refine⟨a.tmps.getD t Go.undef::d,.cons (hf.at_ t v (bC.1 j)) hl,?_⟩;simp_all
  | cell b t=>
   obtain⟨u,hu,m⟩:=an.1 (show(aA (cN (φ.get b)) λv=>Cy P D s t v).H v from j);obtain⟨k,o,e,p,q,n⟩:=y8 (P:=P) i m (hf.at_ b u (bC.1 hu)) hS;have x:(do loadVar t (<-Go.asAddr (a.tmps.getD b Go.undef)):Sem Value).run P w=.ok k w:=by
    grind [Go.asAddr]
   refine⟨k::d,.cons n hl,?_⟩;rw[ZdP,Zzd];simp_all
theorem tU {fn:Func} {c:List Value} (n:(fn.results.toList.mapM λr=>(match r with
   | .tmp t=>Pure.pure (a.tmps.getD t Go.undef)
   | .cell b t=>do loadVar t (<-Go.asAddr (a.tmps.getD b Go.undef)):Sem Value)).run P w=.ok c w) {res:AV D.E} (d:CH D res) (hl:LR M (wc D res) c):∃g,(results fn a.tmps).run P w=.ok g w/\VR M res g:=by
 have l:(fn.results.mapM λr=>(match r with
   | .tmp t=>Pure.pure (a.tmps.getD t Go.undef)
   | .cell b t=>do loadVar t (<-Go.asAddr (a.tmps.getD b Go.undef)):Sem Value)).run P w=.ok c.toArray w:=by
  rw[Array.mapM_eq_mapM_toList];simp_all
 refine⟨if h:c.toArray.size=1 then c.toArray[0] else .tuple c.toArray,?_,?_⟩
 ·unfold results;simp only[Zzd];exact(ZaR (λr:Result (Array Value)=>r.andThen λi m=>Sem.run P (Pure.pure (if h:i.size=1 then i[0] else .tuple i)) m) l).trans rfl
 ·have one:∀{v:AV D.E},LR M [v] c->VR M v (if h:c.toArray.size=1 then c.toArray[0] else .tuple c.toArray):=λh=>by
   obtain⟨g,r,rfl,h1,k⟩:=h.aP;obtain rfl:=k.jD;exact h1
  cases res<;>simp only[wc] at hl<;>(try exact one hl)
  rename_i j
  have f:j.length≠1:=by
   have:Bool.not (Nat.beq (kg j) 1):=d;rw[hI] at this;intro e;simp_all
  rw[dif_neg (by rw[Zb5,<-hl.1];exact f)];exact .CK hl
theorem Pz {ha hb:List (Nat×AO D.E)}:(∀t o,cy ha t=some o->(cy hb t).isSome->dT (stay D ha hb) t=some t)/\∀t b,dT (stay D ha hb) t=some b->b=t:=by
 induction ha with
 | nil=>exact⟨λt o h=>(by cases(show none=some o from h)),λt b h=>(by cases(show none=some b from h))⟩
 | cons p l a=>
  grind [stay,ji,fh]
theorem nF (T:a7 D) (F:P.follows .mixedOrders) (N':sS P) {k:bk D} {y:k.Y} {fn:Func} (W:P.funcs[k.f]?=some fn) (U:fn.body=some b) (V:sR P D ca) (hN:(k.args y).length<=fn.ntmps)
  (hb:OU P D cd ca jb fn.ntmps k b fn.results.toList y) (M:Pm D) (A:Array Value) (w:World) (hl:LR M (k.args y) A.toList) (hS:dX M (λt=>cy (k.heap y) t) w) (hT:TF M k.oD) (R:Ending->World->Prop)
  (hR:∀M' u w',VR M' (k.res y) u->cP (λt=>cy (k.heap y) t) M w (λt=>cy (k.iE y) t) M' w' k.oD k.Cq->R (.returned u) w'):Calls P k.f A w R:=by
 obtain⟨⟨φ,h⟩,h1,h2⟩:=gh (show(aA (sL D (k.args y) 0 .nil) λφ=>aA (LI D (k.heap y) .nil) λh=>.ret (φ,h)).wp _ from hb);obtain⟨x,h3,h4⟩:=an.1 h1;obtain⟨h',h5,h6⟩:=an.1 h4;cases av.1 h6;have E:=wI h5;refine calls_of_wp W U ?_;have hA:E9 (λt=>cy (k.heap y) t) M w k.oD fn.ntmps ⟨h,k.oD⟩ φ M { tmps:=A++Array.replicate (fn.ntmps-A.size) Go.undef,defers:=[] } w:=
  ⟨by grind,zu h3 hl hN,hT,by show WK _ M w h.get M w;rw[E];exact .refl _ _ _,λt a _ e=>e,Zah _⟩
 refine Qcy T F N' V b _ _ _ _ h2 M _ w hA _ λe s' x M2 a2 B I g=>?_
 have fin:(bB (Bool.and (CH D (k.res y)) (Bool.and (named D (k.heap y) (k.iE y) k.oD k.Cq) (Nat.ble k.oD k.Cq))) (aA (OT P D s' x fn.results.toList) λvs=>OL D s' (stay D (k.iE y) (k.heap y)) (k.iE y) vs (wc D (k.res y)))).wp (λ_=>True)->
   a2.defers=[]/\∃v,(results fn a2.tmps).run P B=.ok v B/\R (.returned v) B:=λI=>by
  obtain⟨⟨s3,r⟩,g1,_⟩:=gh I;obtain⟨g2,g3⟩:=bz.1 g1;obtain⟨K,g4⟩:=l4 g2;obtain⟨hnm,s⟩:=l4 g4;have s:=cu.1 s;obtain⟨vs,g5,g6⟩:=an.1 g3;obtain⟨st1,st2⟩:=Pz (D:=D) (ha:=k.iE y) (hb:=k.heap y);have G:=Bp T (λt t' c e e'=>by grind) g6;obtain⟨z,i1,i2,i3,i4⟩:=G.sem M2 B g.fJ g.tf.fresh;have d:E9 (λt=>cy (k.heap y) t) M w k.oD fn.ntmps s3 x z a2 B:=g.step i1 (g.fr.mono (i1.Le g.tf.fresh));obtain⟨vs',X,L⟩:=wM T g5 g.fr g.fJ
  let O:Pm D:=⟨λt=>if k.oD<=t/\t<k.Cq then(rl r z).pl t else M.pl t,z.sg⟩
  have m:∀t o,cy (k.iE y) t=some o->(∃S,cy (k.heap y) t=some S)\/(k.oD<=t/\t<k.Cq):=λt o ht=>by
   rcases or2 (dV.1 hnm _ (oV ht)) with q | q
   ·exact .inl (ZcI.1 q)
   ·grind [cu]
  have H:∀t a,(rl r z).pl t=some a->O.pl t=some a:=λt a e=>by
   show(if _ then _ else _)=_
   by_cases J:k.oD<=t/\t<k.Cq
   ·grind
   ·rw[Zaa J];obtain⟨c,p,e2⟩:=fW e;obtain⟨ot,oa,n,C,_⟩:=i4 t c p;rcases m t ot C with⟨S,Q⟩ | q
    ·have:=G.ext t t (st1 t ot C (by rw[Q];rfl));rw[p] at this;cases this;obtain⟨j,e5,_⟩:=hS.obj t S Q;exact d.per t a (hT.lt e5) e2
    ·omega
  have hle:Le (rl r z) O:=⟨H,λ_ _ _ e=>e⟩;obtain⟨u,j1,j2⟩:=tU L K ((i2 _ X).mono hle);refine⟨g.fr.defers,u,j1,hR O u B j2 ?_⟩;have i:∀t o a,cy (k.iE y) t=some o->O.pl t=some a->(rl r z).pl t=some a:=λt o a ht l=>by
   obtain⟨j,p,_⟩:=i3.obj t o ht;grind
  refine⟨⟨λt o ht=>?_,λt t' o o' a n ht N l Z=>i3.inj t t' o o' a n ht N (i t o a ht l) (i t' o' n N Z),λc o v e=>?_,λt o a ht hw l=>i3.sep t o a ht hw (i t o a ht l),λt b xs e a ht l J=>(i3.Jm t b xs e a ht (i t _ a ht l) J).mono λ_ _ _ h=>h,⟨i3.mb.1,λt o a ht hw l=>i3.mb.2 t o a ht hw (i t o a ht l)⟩⟩,
   λt ht=>Zaa ht,d.C9.Jn,d.C9.lK,d.C9.size,d.C9.aR,λt o a ht l J=>?_,λt ht=>?_,d.C9.os,d.C9.tape,d.C9.output,s⟩
  ·obtain⟨j,p,e2⟩:=i3.obj t o ht;exact⟨j,H t j p,e2.mono hle λ_=>rfl⟩
  ·obtain⟨hp,u,U,hv⟩:=i3.gL c o v e;exact⟨hp,u,U,hv.mono hle⟩
  ·obtain⟨c,p,e2⟩:=fW (i t o a ht l);obtain⟨ot,oa,n,C,Q,e5,e6,_⟩:=i4 t c p;rw[show cy (k.iE y) t=some o from ht] at C;cases C;rcases d.C9.born c oa a Q e2 J with e7 | ⟨b0,S,j,q1,q2,q3,q4,q5⟩
   ·omega
   ·grind
  ·obtain⟨o,ho⟩:=Zbs.1 ht;grind
 cases e with
 | normal=>exact fin I
 | ret=>exact fin I
 | exit id=>exact(I:False).elim
def bk.under (k:bk D) (me:k.Y->Nat) (n:Nat):bk D:={ k with pre:=λy=>k.pre y/\me y<n }
end
end sx
namespace cls
open Go Go.RowKit
theorem getD_eq {α:Type} {l:List α} {i:Nat} (h:i<l.length) (d:α):l[i]?=some (l.getD i d):=by
 grind
theorem fy {α β:Type} (f:α->List β) (n:Nat) (h:∀x,(f x).length<=n) (l:List α):(l.flatMap f).length<=l.length*n:=by
 induction l with
 | nil=>simp
 | cons x t a=>simp only[Zbt,Zab,Zae];have:=h x;rw[ZaV];omega
abbrev Rg:=Int×Int
variable {l s b:List Rg} {m:List Int} {p:Rg} {y Z:Int} {k:Nat} {c:Int->Bool}
def bj (l:List Rg) (r:Int):Bool:=l.any λx=>decide (x.1<=r)&&decide (r<=x.2)
theorem PA (h:l[k]?=some p) (r:Int):bj (l.drop k) r=((decide (p.1<=r)&&decide (r<=p.2))||bj (l.drop (k+1)) r):=by
 have a:k<l.length:=by
  grind
 rw[Zaq a];rw[Zaf a] at h;cases h;rfl
def fE (r:Int):Bool:=decide (0<=r)&&decide (r<=1114111)&&(decide (r<55296)||decide (57343<r))
def clip (r p:Rg):List Rg:=if max r.1 p.1<=min r.2 p.2 then[(max r.1 p.1,min r.2 p.2)] else[]
def parts:List Rg:=[(0,55295),(57344,1114111)]
def dZ (r:Rg):List Rg:=parts.flatMap (clip (max r.1 0,min r.2 1114111))
theorem Dd (r p:Rg):(clip r p).length<=1:=by grind [clip]
def sX (r:Rg):(dZ r).length<=2:=fy _ 1 (Dd _) parts
def ch (out:List Rg) (r:Rg):List Rg:=
 match out.getLast? with
 | some p=>if r.1<=p.2+1 then out.dropLast++[(p.1,max p.2 r.2)] else out++[r]
 | none=>[r]
def iJ (l:List Rg):List Rg:=l.foldl ch []
def E' (r:Rg):Prop:=0<=r.1/\r.1<=r.2/\r.2<=1114111
theorem PB (x:Rg):∀r∈dZ x,E' r:=by
 intro r a;simp only[dZ,ZbG] at a;grind [clip,E']
theorem Bt (h:∀r∈l,E' r) (d:E' p):∀r∈ch l p,E' r:=by
 intro r a;unfold ch at a;split at a
 ·rename_i q b
  have c:q∈l:=List.mem_of_getLast? b;grind [List.dropLast_sublist,E']
 ·grind
theorem yC (out:List Rg) (r:Rg):(ch out r).length<=out.length+1:=by
 grind [ch]
theorem De (h:l[k]?=some p):iJ (l.take (k+1))=ch (iJ (l.take k)) p:=by
 grind [iJ,List.take_add_one]
theorem L1 (h:∀p∈l,E' p):∀p∈iJ l,E' p:=by
 have gen:∀(l out:List Rg),(∀p∈l,E' p)->(∀p∈out,E' p)->∀p∈l.foldl ch out,E' p:=by
  intro l
  induction l with
  | nil=>intro out _ h;exact h
  | cons x t b=>intro out hs a;exact b _ (λp c=>hs p (by grind)) (Bt a (hs x (by simp)))
 exact gen l [] h (by simp)
theorem wN (s:List Rg):(iJ s).length<=s.length:=by
 have gen:∀(s out:List Rg),(s.foldl ch out).length<=out.length+s.length:=by
  intro s
  induction s with
  | nil=>intro out;simp
  | cons x t a=>intro out;have:=a (ch out x);have:=yC out x;simp only[Zb2,Zae];omega
 grind [iJ]
def tV (p:Rg):Prop:=0<=p.1/\p.1<=p.2/\p.2<=1114111/\(p.2<55296\/57343<p.1)
def Good (l:List Rg):Prop:=(∀p∈l,tV p)/\l.Pairwise (λp q=>p.2+1<q.1)
theorem rP (l:List Rg) (r:Int):bj l r↔∃p∈l,p.1<=r/\r<=p.2:=by
 grind [bj]
theorem jG (p:Rg) (l:List Rg) (r:Int):bj (p::l) r=((decide (p.1<=r)&&decide (r<=p.2))||bj l r):=rfl
theorem wO (l m:List Rg) (r:Int):bj (l++m) r=(bj l r||bj m r):=by simp[bj]
theorem PC (h:l.Perm s) (r:Int):bj l r=bj s r:=by
 grind [rP]
theorem gE (r:Int):fE r↔0<=r/\r<=1114111/\(r<55296\/57343<r):=by
 simp[fE];omega
theorem sY (h:Good (p::l)):Good l:=⟨λq a=>h.1 q (by grind),(ZcJ.1 h.2).2⟩
def oW (h:Good (p::l)) (b:bj l y):p.2+1<y:=by
 have⟨q,a,h1,c⟩:=(rP _ _).1 b;have:=(ZcJ.1 h.2).1 q a;omega
theorem wP (h:Good (p::l)) (a:bj (p::l) y):p.1<=y:=by
 rw[jG,ZbM] at a;rcases a with a | a
 ·grind
 ·have:=oW h a;have:=h.1 p (by simp);grind [tV]
theorem pL:∀{l m:List Rg},Good l->Good m->(∀r,bj l r=bj m r)->l=m
 | [],[],_,_,_=>rfl
 | [],q::u,_,hm,h=>by
  have:=h q.1;have k:=hm.1 q (by simp);grind [tV,bj]
 | p::t,[],hl,_,h=>by
  have:=h p.1;have k:=hl.1 p (by simp);grind [tV,bj]
 | p::t,q::u,hl,hm,h=>by
  have ip:=hl.1 p (by simp);have n:=hm.1 q (by simp);unfold tV at ip n;have yn:∀r,p.1<=r->r<=p.2->bj (p::t) r:=λr a b=>by grind [jG]
  have c:∀r,q.1<=r->r<=q.2->bj (q::u) r:=λr a b=>by grind [jG]
  have e:p.1=q.1:=by
   have a:=wP hm ((h p.1).symm.trans (yn p.1 ω ω));have b:=wP hl ((h q.1).trans (c q.1 ω ω));omega
  have e2:p.2=q.2:=by
   rcases Int.lt_trichotomy p.2 q.2 with d | j | d
   ·have a:=(h (p.2+1)).trans (c (p.2+1) ω ω);rw[jG,ZbM] at a;rcases a with a | a
    ·grind
    ·have:=oW hl a;omega
   ·exact j
   ·have a:=(h (q.2+1)).symm.trans (yn (q.2+1) ω ω);rw[jG,ZbM] at a;rcases a with a | a
    ·grind
    ·have:=oW hm a;omega
  have f:p=q:=ZdT e e2;congr 1;refine pL (sY hl) (sY hm) λr=>?_
  by_cases o:p.1<=r/\r<=p.2
  ·have g:bj t r=false:=by
    rcases ht:bj t r with _ | _
    ·rfl
    ·have:=oW hl ht;omega
   have i:bj u r=false:=by
    rcases ht:bj u r with _ | _
    ·rfl
    ·have:=oW hm ht;omega
   rw[g,i]
  ·have:=h r;grind [jG]
theorem wQ (h:Good l) (f:tV p) (b:∀r∈l,r.1<=p.1):Good (ch l p)/\(∀r∈ch l p,r.1<=p.1)/\∀x,bj (ch l p) x=(bj l x||(decide (p.1<=x)&&decide (x<=p.2))):=by
 rcases Zcu l with rfl | ⟨d,r,rfl⟩
 ·refine⟨⟨?_,by simp[ch]⟩,?_,λx=>?_⟩
  ·grind [ch]
  ·grind [ch]
  ·simp[ch,bj]
 ·rw[Zcv] at*
  have c:ch (d++[r]) p=if p.1<=r.2+1 then d++[(r.1,max r.2 p.2)] else d++[r]++[p]:=by simp[ch]
  have ip:=h.1 r (by simp);have g:=ZbC.1 h.2;rw[c];by_cases e:p.1<=r.2+1
  ·rw[Zac e];refine⟨⟨λq a=>?_,?_⟩,λq a=>?_,λx=>?_⟩
   ·rcases Zax.1 a with a | a
    ·exact h.1 q (by simp[a])
    ·grind [tV]
   ·grind
   ·grind
   ·grind [bj]
  ·rw[Zaa e];refine⟨⟨λq a=>?_,?_⟩,λq a=>?_,λx=>?_⟩
   ·rcases Zax.1 a with a | a
    ·exact h.1 q a
    ·simp at a;subst a;exact f
   ·grind
   ·grind
   ·grind [bj]
theorem Df (hs:∀p∈l,tV p) (c:l.Pairwise (λa b=>a.1<=b.1)):Good (iJ l)/\∀x,bj (iJ l) x=bj l x:=by
 have gen:∀(l out:List Rg),(∀p∈l,tV p)->l.Pairwise (λa b=>a.1<=b.1)->Good out->(∀p∈out,∀x∈l,p.1<=x.1)->Good (l.foldl ch out)/\∀x,bj (l.foldl ch out) x=(bj out x||bj l x):=by
  intro l
  induction l with
  | nil=>intro out _ _ h _;exact⟨h,λx=>by simp[bj]⟩
  | cons r t i=>
   intro out hs c f hl;have⟨g1,g2,g3⟩:=wQ f (hs r (by simp)) (λp d=>hl p d r (by simp));have e:=ZcJ.1 c;have⟨k1,k2⟩:=i _ (λp d=>hs p (by simp[d])) e.2 g1 (λp d x g=>Int.le_trans (g2 p d) (e.1 x g));grind [jG]
 have:=gen l [] hs c ⟨by simp,by simp⟩ (by simp);assumption
theorem L2 (x:Rg):∀r∈dZ x,tV r:=by
 intro r a;simp only[dZ,ZbG] at a;grind [clip,parts,tV]
theorem PD (x p:Rg) (r:Int):bj (clip x p) r=(decide (x.1<=r)&&decide (r<=x.2)&&(decide (p.1<=r)&&decide (r<=p.2))):=by
 grind [clip,bj]
theorem L3 (x:Rg) (r:Int):bj (dZ x) r=(fE r&&(decide (x.1<=r)&&decide (r<=x.2))):=by
 simp only[dZ,parts,Zbt,List.flatMap_nil,Zaw,wO,PD];grind [fE]
theorem PE (l:List Rg) (r:Int):bj (l.flatMap dZ) r=(fE r&&bj l r):=by
 induction l with
 | nil=>simp[bj]
 | cons x t a=>
  grind [wO,L3,jG]
def wR (l m:List Rg):Prop:=Good m/\(∀r,bj m r=(fE r&&bj l r))/\m.length<=2*l.length
theorem Dg (e:s.Perm (l.flatMap dZ)) (d:s.Pairwise (λa b=>a.1<=b.1)):wR l (iJ s):=by
 have c:∀p∈s,tV p:=λp h=>by
  grind [L2]
 have⟨g,f⟩:=Df c d;refine⟨g,λr=>?_,?_⟩
 ·rw[f,PC e,PE]
 ·have h1:=wN s;have i:=e.length_eq;have j:=fy dZ 2 sX l;omega
def FQ (h:wR l s) (a:wR l b):s=b:=pL h.1 a.1 λr=>by rw[h.2.1,a.2.1]
def Qfp (a b:Rg):Bool:=decide (a.1<=b.1)
def aX (l:List Rg):List Rg:=iJ ((l.flatMap dZ).mergeSort Qfp)
theorem dP (l:List Rg):wR l (aX l):=by
 refine Dg (List.mergeSort_perm _ _) ?_;grind [List.pairwise_mergeSort,Qfp]
def PF (h:wR l s):s=aX l:=FQ h (dP l)
def im (nx:Int):List Rg->List Rg
 | []=>[(nx,1114111)]
 | p::t=>(nx,p.1-1)::im (p.2+1) t
theorem zv (nx:Int) (m:List Rg):(im nx m).length=m.length+1:=by induction m generalizing nx<;>simp_all [im]
theorem zw:∀(m:List Rg) (nx:Int),Good m->(∀p∈m,nx<=p.1)->∀r,r<=1114111->bj (im nx m) r=(decide (nx<=r)&&!bj m r)
 | [],nx,_,_,r,a=>by simp[im,bj,a]
 | p::t,nx,hg,hn,r,a=>by
  have ip:=hg.1 p (by simp);unfold tV at ip;have d:=ZcJ.1 hg.2;have c:=zw t (p.2+1) (sY hg) (λq b=>by grind) r a;grind [im,bj]
theorem PG (h:fE y):y<=1114111/\0<=y:=by
 grind [gE]
def Qfq (l n:List Rg):Prop:=Good n/\(∀r,bj n r=(fE r&&!bj l r))/\n.length<=4*l.length+2
theorem WM (a:wR l s) (n:wR (im 0 s) b):Qfq l b:=by
 refine⟨n.1,λr=>?_,?_⟩
 ·rw[n.2.1];rcases c:fE r with _ | _
  ·rfl
  ·have:=PG c;rw[zw s 0 a.1 (λp d=>(a.1.1 p d).1) r this.1,a.2.1,c];simp[this.2]
 ·have h1:=n.2.2;have e:=a.2.2;grind [zv]
def cq (l:List Rg) (lo hi:Int):List Rg:=
 match l.getLast? with
 | some r=>if r.2+1=lo then l.dropLast++[(r.1,hi)] else l++[(lo,hi)]
 | none=>[(lo,hi)]
def swap (m:List Int) (j:Nat):List Int:=(m.set j (m.getD (j+1) 0)).set (j+1) (m.getD j 0)
theorem Dh (m:List Int) (j:Nat):(swap m j).length=m.length:=by simp[swap]
theorem Di (m:List Int) (j i:Nat) (h:j+1<m.length):(swap m j).getD i 0=if i=j+1 then m.getD j 0 else if i=j then m.getD (j+1) 0 else m.getD i 0:=by
 grind [swap]
theorem swap_perm (m:List Int) (j:Nat) (h:j+1<m.length):(swap m j).Perm m:=by
 grind [swap]
def oX (m:List Int) (k i:Nat):Prop:=∀a b,a<b->b<=i->b≠k->m.getD a 0<=m.getD b 0
def Dj (m:List Int) (i:Nat):Prop:=∀a b,a<b->b<i->m.getD a 0<=m.getD b 0
theorem Bu (h:Dj m k):oX m k k:=λa b h1 c d=>h a b h1 ω
theorem Dk {i:Nat} (h:oX m (k+1) i) (hi:i<m.length) (l:k+1<=i) (j:m.getD (k+1) 0<m.getD k 0):oX (swap m k) k i:=by
 intro a b h1 f g;rw[Di m k a ω,Di m k b ω];by_cases d:b=k+1
 ·subst d;rw[Zac rfl,Zaa ω];by_cases e:a=k
  ·omega
  ·rw[Zaa e];exact h a k ω ω ω
 ·rw[Zaa d,Zaa g];by_cases e:a=k+1
  ·rw[Zac e];exact h k b ω f d
  ·rw[Zaa e];by_cases c:a=k
   ·rw[Zac c];exact h (k+1) b ω f d
   ·rw[Zaa c];exact h a b h1 f d
theorem FT {i:Nat} (h:oX m k i) (hk:k=0\/m.getD (k-1) 0<=m.getD k 0):Dj m (i+1):=by
 intro a b h1 d;by_cases c:b=k
 ·subst c;rcases hk with rfl | hk
  ·omega
  ·by_cases e:a=b-1
   ·grind
   ·have:=h a (b-1) ω ω ω;omega
 ·exact h a b h1 ω c
theorem PH (h:Dj m m.length):m.Pairwise (· <= ·):=by
 rw[ZbD];intro i j hi b a;have:=h i j a b;grind
def m1 (x:Rg):Bool:=decide (x.1<=x.2)&&decide (0<=x.1)&&decide (x.1<=1114111)
def m2 (x:Rg):Bool:=decide (x.1<=x.2)&&decide (0<=x.2)&&decide (x.2<1114111)
def lN (x:Rg):List Int:=(if m1 x then[x.1] else[])++(if m2 x then[x.2+1] else[])
def cZ (l:List Rg):List Int:=[0,55296,57344,1114112]++l.flatMap lN
theorem sZ (x:Rg):(lN x).length<=2:=by grind [lN]
def PI (c:Int->Bool) (m:List Int) (k:Nat):Bool:=decide (m.getD k 0<m.getD (k+1) 0)&&(decide (m.getD k 0<55296)||decide (57343<m.getD k 0))&&c (m.getD k 0)
def Bv (c:Int->Bool) (m:List Int) (out:List Rg) (k:Nat):List Rg:=if PI c m k then cq out (m.getD k 0) (m.getD (k+1) 0-1) else out
def dA (c:Int->Bool) (m:List Int):Nat->List Rg
 | 0=>[]
 | k+1=>Bv c m (dA c m k) k
theorem FU (l:List Rg) (lo hi:Int):(cq l lo hi).length<=l.length+1:=by
 grind [cq]
theorem PJ (c:Int->Bool) (m:List Int) (k:Nat):(dA c m k).length<=k:=by
 induction k with
 | zero=>simp[dA]
 | succ k a=>
  grind [FU,dA,Bv]
theorem L4 (h:∀r∈l,-10<=r.2/\r.2<=1114111) (a: -10<=Z/\Z<=1114111):∀r∈cq l y Z,-10<=r.2/\r.2<=1114111:=by
 grind [cq,List.dropLast_sublist]
theorem WN (a:∀x∈m,0<=x/\x<=1114112):∀k,k+1<=m.length->∀r∈dA c m k,-10<=r.2/\r.2<=1114111:=by
 intro k
 induction k with
 | zero=>intro _ r b;simp[dA] at b
 | succ k e=>
  intro hk;simp only[dA,Bv];split
  ·have d:m.getD (k+1) 0∈m:=ZaJ (getD_eq (show k+1<m.length by omega) 0);have:=a _ d;exact L4 (e ω) ω
  ·grind
theorem mz:∀x∈cZ l,0<=x/\x<=1114112:=by
 intro x a;simp only[cZ,Zax,ZbG] at a;rcases a with a | ⟨y,_,a⟩
 ·grind
 ·rcases Zax.1 a with a | a
  ·split at a
   ·rename_i h;simp[m1] at h;simp at a;omega
   ·simp at a
  ·split at a
   ·rename_i h;simp[m2] at h;simp at a;omega
   ·simp at a
theorem adj (h:m.Pairwise (· <= ·)) (hk:k+1<m.length) (a:y∈m):y<=m.getD k 0\/m.getD (k+1) 0<=y:=by
 grind [List.getElem_of_mem,List.pairwise_iff_getElem]
theorem Dl {lo hi:Int} (h:Good l) (c:tV (lo,hi)) (f:∀p∈l,p.2<lo):
  Good (cq l lo hi)/\(∀p∈cq l lo hi,p.2<=hi)/\∀r,bj (cq l lo hi) r=(bj l r||(decide (lo<=r)&&decide (r<=hi))):=by
 unfold tV at c;rcases Zcu l with rfl | ⟨e,p,rfl⟩
 ·refine⟨⟨λq b=>?_,by simp[cq]⟩,λq b=>?_,λr=>?_⟩
  ·simp[cq] at b;subst b;exact c
  ·grind [cq]
  ·simp[cq,bj]
 ·rw[Zcv] at*
  have d:cq (e++[p]) lo hi=if p.2+1=lo then e++[(p.1,hi)] else e++[p]++[(lo,hi)]:=by simp[cq]
  have ip:=h.1 p (by simp);have g:=ZbC.1 h.2;unfold tV at ip;rw[d];by_cases b:p.2+1=lo
  ·rw[Zac b];refine⟨⟨λq a=>?_,?_⟩,λq a=>?_,λr=>?_⟩
   ·rcases Zax.1 a with a | a
    ·exact h.1 q (by simp[a])
    ·grind [tV]
   ·grind
   ·grind
   ·grind [bj]
  ·rw[Zaa b];refine⟨⟨λq a=>?_,?_⟩,λq a=>?_,λr=>?_⟩
   ·rcases Zax.1 a with a | a
    ·exact h.1 q a
    ·simp at a;subst a;exact c
   ·grind
   ·grind
   ·grind [bj]
def JH (c:Int->Bool) (m:List Int):Prop:=∀k,k+1<m.length->∀r,m.getD k 0<=r->r<m.getD (k+1) 0->c r=c (m.getD k 0)
theorem zx (d:m.Perm (cZ l)) (e:m.Pairwise (· <= ·)):JH (λr=>bj l r) m:=by
 intro k hk r h1 h;have g:=mz _ (d.mem_iff.1 (ZaJ (getD_eq (show k<m.length by omega) 0)));have b1:=mz _ (d.mem_iff.1 (ZaJ (getD_eq hk 0)));have mk:∀x∈l,∀y∈lN x,y<=m.getD k 0\/m.getD (k+1) 0<=y:=λx a y i=>
  adj e hk (d.mem_iff.2 (by grind [cZ]))
 generalize m.getD k 0=A at*
 rw[ZaG,rP,rP];constructor
 ·rintro⟨x,a,f,e2⟩;refine⟨x,a,?_,ω⟩;rcases(show A<x.1\/x.1<=A by omega) with b | b
  ·have c:m1 x:=by simp[m1];omega
   have:=mk x a x.1 (by simp[lN,c]);omega
  ·exact b
 ·rintro⟨x,a,f,e2⟩;refine⟨x,a,ω,?_⟩;rcases(show x.2<r\/r<=x.2 by omega) with b | b
  ·have c:m2 x:=by simp[m2];omega
   have:=mk x a (x.2+1) (by simp[lN,c]);omega
  ·exact b
theorem PK (i1:Good l) (i2:∀p∈l,p.2<y) (i3:∀r,bj l r=(decide (r<y)&&(fE r&&c r))) (e:0<=y/\y<=1114112) (f:0<=Z/\Z<=1114112) (hle:y<=Z)
  (d:55296<=y\/Z<=55296) (a2:57344<=y\/Z<=57344) (b:∀r,y<=r->r<Z->c r=c y):
  Good (if (decide (y<Z)&&(decide (y<55296)||decide (57343<y))&&c y)=true then cq l y (Z-1) else l)/\
  (∀p∈(if (decide (y<Z)&&(decide (y<55296)||decide (57343<y))&&c y)=true then cq l y (Z-1) else l),p.2<Z)/\
  ∀r,bj (if (decide (y<Z)&&(decide (y<55296)||decide (57343<y))&&c y)=true then cq l y (Z-1) else l) r=(decide (r<Z)&&(fE r&&c r)):=by
 by_cases a:(decide (y<Z)&&(decide (y<55296)||decide (57343<y))&&c y)
 ·rw[Zac a];have⟨g1,g2,g3⟩:=Dl (lo:=y) (hi:=Z-1) i1 (by grind [tV]) i2;grind [gE]
 ·grind [gE]
theorem L5 (e:m.Perm (cZ l)) (a:m.Pairwise (· <= ·)) (j:JH c m):
  ∀k,k+1<=m.length->Good (dA c m k)/\(∀p∈dA c m k,p.2<m.getD k 0)/\∀r,bj (dA c m k) r=(decide (r<m.getD k 0)&&(fE r&&c r)):=by
 have mem:∀y∈[0,55296,57344,1114112],(y:Int)∈m:=λy q=>e.mem_iff.2 (by grind [cZ])
 have d:∀k,k<m.length->0<=m.getD k 0/\m.getD k 0<=1114112:=λk hk=>mz _ (e.mem_iff.1 (ZaJ (getD_eq hk 0)))
 intro k
 induction k with
 | zero=>
  intro hk;have h0:m.getD 0 0=0:=by
   have⟨i,hi,o⟩:=Za3 (mem 0 (by simp));grind [List.pairwise_iff_getElem]
  refine⟨⟨by simp[dA],by simp[dA]⟩,by simp[dA],λr=>?_⟩;grind [dA,bj,gE]
 | succ k n=>
  intro hk;have⟨i1,i2,i3⟩:=n ω;have g:=d k ω;have h:=d (k+1) ω;have hle:m.getD k 0<=m.getD (k+1) 0:=by
   grind [List.pairwise_iff_getElem]
  have f:=adj a (show k+1<m.length by omega) (mem 55296 (by simp));have a2:=adj a (show k+1<m.length by omega) (mem 57344 (by simp));have b:=j k ω;exact PK i1 i2 i3 g h hle f a2 b
theorem Dm (a:m.Perm (cZ l)) (e:m.Pairwise (· <= ·)) (f:JH c m):
  Good (dA c m (m.length-1))/\∀r,bj (dA c m (m.length-1)) r=(fE r&&c r):=by
 have hl:1<=m.length:=by have:=a.length_eq;simp[cZ] at this;omega
 have⟨g1,_,g3⟩:=L5 a e f (m.length-1) ω;have mem:(1114112:Int)∈m:=a.mem_iff.2 (by simp[cZ]);have d:m.getD (m.length-1) 0=1114112:=by
  have b:=mz _ (a.mem_iff.1 (ZaJ (getD_eq (show m.length-1<m.length by omega) 0)));grind [List.getElem_of_mem,List.pairwise_iff_getElem]
 grind [gE]
def lE (l:List Rg):List Rg:=aX (im 0 (aX l))
def zy (l:List Rg):Qfq l (lE l):=WM (dP l) (dP _)
theorem Dp (a:Good s) (h:∀r,bj s r=(fE r&&bj l r)):aX l=s:=pL (dP l).1 a λr=>by rw[(dP l).2.1,h]
theorem WO (a:Good s) (h:∀r,bj s r=(fE r&&!bj l r)):lE l=s:=pL (zy l).1 a λr=>by rw[(zy l).2.1,h]
end cls
end Go.Proofs.YtiiiphndmbabcaaGreat
