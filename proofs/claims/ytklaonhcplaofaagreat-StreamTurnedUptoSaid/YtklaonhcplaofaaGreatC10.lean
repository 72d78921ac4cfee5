/- StreamTurned: a part of the proof. -/
import Derived.Test.YtklaonhcplaofaaGreatC9
import Derived.Test.YtklaonhcplaofaaGreatC5
import Derived.Test.YtklaonhcplaofaaGreatC4
import Derived.Test.YtklaonhcplaofaaGreatProg
import Derived.WalkKit
import Derived.Test.YtklaonhcplaofaaGreatC3
import Derived.Lib.Hide
import Derived.Deep.LoopGhost
import Derived.Deep.DeepCutAuto
import Derived.Laws.AppendOwnNone
import Derived.BigQuiet
import Derived.Deep.QuietTactic
set_option linter.all false
namespace Go.Proofs.YtklaonhcplaofaaGreat
open Go.Proofs.Tryz
set_option maxRecDepth 100000
set_option maxHeartbeats 4000000
namespace sx
noncomputable section
open Go Go.RowKit cls syn
variable {s:df} {l:List ah} {a:List Int} {Z:df->df}
abbrev RA9 (v:df) (p:Prop):Prop:=aa [v.bS] (aa [v.ab] p)
def Uo (y:df×ah):Prop:=let k:=ag (ee y).ab;let q1:=ag y.1.ab;let u:=(bG y.1 (aS.mk 6 0 0 [])).1;let v:=(bG y.1 (aS.mk 5 0 0 [])).1;let g:=y.2.op;let c:=y.2.af;let w:=iB .i64 2 y.2.cap;let B:=aw .i64 w 1;let A:=(bG y.1 (aS.mk 1 0 0 y.2.r)).1;let s:=(bG y.1 (aS.mk 4 w 0 [])).1;let F:=ah.mk 0 [] 0 0 false 0 0 [];let a:=gt F c 0;let d:=ah.mk a.op a.r a.mn a.mx a.lz a.cap a.nk a.af;let e:=ee (s,d);let l:=(bG e (aS.mk 4 B 0 [])).1;let h:=Kq.mk y.1 (Nd.mk g y.2.r y.2.mn y.2.mx y.2.lz y.2.cap y.2.nk) d;let t:=λp:Prop=>RAL g (RA7 y.2 (RAM y.2.nk c p));let m:Prop:=(q1=k/\y.1.bS=(ee y).bS/\y.1.ab=(ee y).ab/\True);let G:=λz:df×Nat=>Gw y.1 z.1/\kI (List.drop z.2 c) z.1=kI c y.1;ak y.1.bS (m) (ak (aC g 2) (Iv (y.1.ab.length<=400)/\aa ([1,0,0]:List Int) (RAM y.2.r q1 (RA9 y.1 (ag A.ab=k/\A.bS=(ee y).bS/\A.ab=(ee y).ab/\True)))) (ak (aC g 3) ((∃z:df×Nat,0=(z.2:Int)/\t (q1=ag z.1.ab/\y.1.bS=z.1.bS/\y.1.ab=z.1.ab/\(Iv (z.2<=c.length/\G z))))/\(∀x:df×Nat,let n:=ag x.1.ab;let i:=(x.2:Int);let j:=c.length;let o:=ay i (ag c);let b:=gt F c i.toNat;let f:=ah.mk b.op b.r b.mn b.mx b.lz b.cap b.nk b.af;let q:Prop:=(n=k/\x.1.bS=(ee y).bS/\x.1.ab=(ee y).ab/\True);(Iv (x.2<=j/\Gw y.1 x.1/\kI (List.drop x.2 c) x.1=kI c y.1))->ak o (ak (!x.1.bS) (aH 0 i=true/\o=true/\Iv (BX (x.1,f)/\(2*dc f)<(2*dc y.2))/\RA0 b (RAM b.af n (RA9 x.1 (∃z:df×Nat,aw .i64 i 1=(z.2:Int)/\t (ag (ee (x.1,f)).ab=ag z.1.ab/\(ee (x.1,f)).bS=z.1.bS/\(ee (x.1,f)).ab=z.1.ab/\(Iv ((z.2<=j/\G z)/\(j-z.2)<(j-x.2)))))))) (q)) (q))) (ak (aC g 4) (Iv (Qil (y.1,c)/\((2*tS c)+1)<(2*dc y.2))/\RAM c q1 (RA9 y.1 (ag (xG (y.1,c)).ab=k/\(xG (y.1,c)).bS=(ee y).bS/\(xG (y.1,c)).ab=(ee y).ab/\True))) (ak (aC g 5) (Tt 1 (ay 0 (ag c)=true/\Iv (Qim h/\((2*dc d)+1)<(2*dc y.2))/\RAL g (RA7 y.2 (RAL y.2.nk (RA0 a (RAM a.af q1 (RA9 y.1 (RAL g (RA7 y.2 (RAM y.2.nk c (RA0 a (RAL a.af (ag (o4 h).ab=k/\(o4 h).bS=(ee y).bS/\(o4 h).ab=(ee y).ab/\True))))))))))))) (ak (aC g 6) (Iv (y.1.ab.length<=400)/\aa ([4,w,0]:List Int) (RAD (RAL q1 (RA9 y.1 (Tt 1 (ay 0 (ag c)=true/\Iv (BX (s,d)/\(2*dc d)<(2*dc y.2))/\aa [a.op] (aa [a.r] (aa [a.mn,a.mx] (aa [a.lz] (aa [a.cap,a.nk] (aa [a.af] (aa [ag s.ab] (aa [s.bS] (aa [s.ab] (Iv (e.ab.length<=400)/\aa ([4,B,0]:List Int) (aa ([[]]:List (List (Int×Int))) (aa [ag e.ab] (aa [e.bS] (aa [e.ab] (ag l.ab=k/\l.bS=(ee y).bS/\l.ab=(ee y).ab/\True)))))))))))))))))))) (ak (aC g 7) (Iv (y.1.ab.length<=400)/\aa ([5,0,0]:List Int) (RAD (RAL q1 (RA9 y.1 (ag v.ab=k/\v.bS=(ee y).bS/\v.ab=(ee y).ab/\True))))) (ak (aC g 8) (Iv (y.1.ab.length<=400)/\aa ([6,0,0]:List Int) (RAD (RAL q1 (RA9 y.1 (ag u.ab=k/\u.bS=(ee y).bS/\u.ab=(ee y).ab/\True))))) (m))))))))
def ZD:∀y,Uo y=QpX y:=λy=>by kernel_rfl
def Up (y:df×(List ah)):Prop:=let D:=ag (xG y).ab;let q1:=(jS y).2;let A:=ag (jS y).1.ab;((∃z:Um,aa [y.2] ([]=z.j/\0=((z.i:Nat):Int)/\ag y.1.ab=ag z.s.ab/\y.1.bS=z.s.bS/\y.1.ab=z.s.ab/\(Iv (Un y z))))/\(∀x:Um,let B:=ag x.s.ab;let p:=((x.i:Nat):Int);let C:=ay p (ag y.2);let E:=aC p (cF .i64 (ag y.2) 1);let k:=bG x.s (aS.mk 2 0 0 []);let w:=k.2.toNat;let a:=gt (ah.mk 0 [] 0 0 false 0 0 []) y.2 p.toNat;let c:=ah.mk a.op a.r a.mn a.mx a.lz a.cap a.nk a.af;let g:=ee (k.1,c);let b:=bG g (aS.mk 3 0 0 []);let d:=ag b.1.ab;let m:=gt (aS.mk 0 0 0 []) b.1.ab w;let q:=cC b.1.ab w (aS.mk m.op (aw .i64 k.2 1) m.y m.bg);let n:=gt (aS.mk 0 0 0 []) q w;let t:Prop:=(∃z:Unit,x.j=q1/\B=A/\x.s.bS=(jS y).1.bS/\x.s.ab=(jS y).1.ab/\(Iv True));(Iv (Un y x))->ak C (ak (!x.s.bS) (ak E (aH 0 p/\C/\Iv (BX (x.s,c)/\(2*dc c)<((2*tS y.2)+1))/\aa [a.op] (aa [a.r] (aa [a.mn,a.mx] (aa [a.lz] (aa [a.cap,a.nk] (aa [a.af] (aa [B] (aa [x.s.bS] (aa [x.s.ab] (∃z:Unit,x.j=q1/\ag (ee (x.s,c)).ab=A/\(ee (x.s,c)).bS=(jS y).1.bS/\(ee (x.s,c)).ab=(jS y).1.ab/\(Iv True))))))))))) (Iv (x.s.ab.length<=400)/\aa ([2,0,0]:List Int) (aa ([[]]:List (List (Int×Int))) (aa [B] (aa [x.s.bS] (aa [x.s.ab] (aH 0 p/\C/\Iv (BX (k.1,c)/\(2*dc c)<((2*tS y.2)+1))/\aa [a.op] (aa [a.r] (aa [a.mn,a.mx] (aa [a.lz] (aa [a.cap,a.nk] (aa [a.af] (aa [ag k.1.ab] (aa [k.1.bS] (aa [k.1.ab] (Iv (g.ab.length<=400)/\aa ([3,0,0]:List Int) (aa ([[]]:List (List (Int×Int))) (aa [ag g.ab] (aa [g.bS] (aa [g.ab] (bx (ag (bC x.j [b.2])) 8/\ak (!b.1.bS) (aH 0 k.2/\ay k.2 d/\aH 0 k.2/\ay k.2 d/\aa [d,d,d] (∃z:Um,aa [y.2] (bC x.j [b.2]=z.j/\aw .i64 p 1=((z.i:Nat):Int)/\d=ag z.s.ab/\b.1.bS=z.s.bS/\cC q w (aS.mk n.op n.x d n.bg)=z.s.ab/\(Iv (Un y z/\(y.2.length-z.i)<(y.2.length-x.i)))))) (∃z:Um,aa [y.2] (bC x.j [b.2]=z.j/\aw .i64 p 1=((z.i:Nat):Int)/\d=ag z.s.ab/\b.1.bS=z.s.bS/\b.1.ab=z.s.ab/\(Iv (Un y z/\(y.2.length-z.i)<(y.2.length-x.i)))))))))))))))))))))))))) (t)) (t)))/\(∀x:Unit,(Iv True)->(∃z:Nat,aa [q1] (0=(z:Int)/\A=ag (ny y z).ab/\(jS y).1.bS=(ny y z).bS/\(jS y).1.ab=(ny y z).ab/\(Iv (z<=q1.length))))/\(∀f:Nat,let e:=ag (ny y f).ab;let l:=q1.length;let u:=ay (f:Int) (ag q1);let h:=gt 0 q1 (f:Int).toNat;let o:=gt (aS.mk 0 0 0 []) (ny y f).ab h.toNat;let v:Prop:=(e=D/\(ny y f).bS=(xG y).bS/\(ny y f).ab=(xG y).ab/\True);(Iv (f<=l))->ak u (ak (!(ny y f).bS) (aH 0 (f:Int)/\u/\aH 0 h/\ay h e/\aa [e,h,e] (∃z:Nat,aa [q1] (aw .i64 (f:Int) 1=(z:Int)/\e=ag (ny y z).ab/\(ny y f).bS=(ny y z).bS/\cC (ny y f).ab h.toNat (aS.mk o.op e o.y o.bg)=(ny y z).ab/\(Iv (z<=l/\(l-z)<(l-f)))))) (v)) (v)))
def ZE:∀y,Up y=QpY y:=λy=>by kernel_rfl
def Uq (y:Kq):Prop:=let I:=ag (jT y).ab;let q1:=ag (o4 y).ab;let t:=(g_ y).2;let L:=ag (g_ y).1.ab;let h:=bG (jT y) (aS.mk 2 0 0 []);let b:=ah.mk y.k.op y.k.r y.k.mn y.k.mx y.k.lz y.k.cap y.k.nk y.k.af;let G:=ee (h.1,b);let m:=(bG G (aS.mk 3 h.2 0 [])).1;let H:=ag m.ab;let M:=fe H y.n.lz m.ab h.2;let u:=λp:Prop=>RA6 y.n p;let l:=λp:Prop=>RA0 y.k (RAL y.k.af (RA6 y.n p));Iv (E9 b)/\RA0 y.k (RAL y.k.af (((∃z:df×Nat,aa [jz b] (0=(z.2:Int)/\l (ag y.c.ab=ag z.1.ab/\y.c.bS=z.1.bS/\y.c.ab=z.1.ab/\(Iv (crI y z)))))/\(∀x:df×Nat,let v:=ag x.1.ab;let J:=ay (x.2:Int) y.n.mn;let q:Prop:=(∃z:Unit,l (v=I/\x.1.bS=(jT y).bS/\x.1.ab=(jT y).ab/\(Iv True)));(Iv (crI y x))->ak J (ak (!x.1.bS) (ak (!(jz b)) (Iv (BX (x.1,b)/\(2*dc b)<((2*dc y.k)+1))/\aa [y.k.op] (aa [y.k.r] (aa [y.k.mn,y.k.mx] (aa [y.k.lz] (aa [y.k.cap,y.k.nk] (aa [y.k.af] (aa [v] (aa [x.1.bS] (aa [x.1.ab] (∃z:df×Nat,aa [jz b] (aw .i64 (x.2:Int) 1=(z.2:Int)/\l (ag (ee (x.1,b)).ab=ag z.1.ab/\(ee (x.1,b)).bS=z.1.bS/\(ee (x.1,b)).ab=z.1.ab/\(Iv (crI y z/\(y.n.mn.toNat-z.2)<(y.n.mn.toNat-x.2))))))))))))))) (q)) (q)) (q)))/\(∀x:Unit,(Iv True)->ak (aC y.n.mx (-1)) (Iv ((jT y).ab.length<=400)/\aa ([2,0,0]:List Int) (aa ([[]]:List (List (Int×Int))) (aa [I] (aa [(jT y).bS] (aa [(jT y).ab] (Iv (BX (h.1,b)/\(2*dc b)<((2*dc y.k)+1))/\aa [y.k.op] (aa [y.k.r] (aa [y.k.mn,y.k.mx] (aa [y.k.lz] (aa [y.k.cap,y.k.nk] (aa [y.k.af] (aa [ag h.1.ab] (aa [h.1.bS] (aa [h.1.ab] (Iv (G.ab.length<=400)/\aa ([3,h.2,0]:List Int) (aa ([[]]:List (List (Int×Int))) (aa [ag G.ab] (aa [G.bS] (aa [G.ab] (ak (!m.bS) (Iv (m.ab.length<=1000/\0<=h.2/\h.2<(m.ab.length:Int))/\aa [h.2,H] (aa [y.n.lz] (aa [H] (aa [m.bS] (aa [m.ab] (aa [H] (aa [y.n.lz] (ag M=q1/\m.bS=(o4 y).bS/\M=(o4 y).ab/\True)))))))) (H=q1/\m.bS=(o4 y).bS/\m.ab=(o4 y).ab/\True))))))))))))))))))))) (((∃z:Um,[]=z.j/\y.n.mn=(y.n.mn+((z.i:Nat):Int))/\l (I=ag z.s.ab/\(jT y).bS=z.s.bS/\(jT y).ab=z.s.ab/\(Iv (crJ y z))))/\(∀d:Um,let w:=ag d.s.ab;let K:=ay (y.n.mn+((d.i:Nat):Int)) y.n.mx;let a:=bG d.s (aS.mk 2 0 0 []);let A:=bC d.j [a.2];let B:Prop:=(∃z:Unit,d.j=t/\u (w=L/\d.s.bS=(g_ y).1.bS/\d.s.ab=(g_ y).1.ab/\(Iv True)));(Iv (crJ y d))->ak K (ak (!d.s.bS) (Iv (d.s.ab.length<=400)/\aa ([2,0,0]:List Int) (aa ([[]]:List (List (Int×Int))) (aa [w] (aa [d.s.bS] (aa [d.s.ab] (bx (ag A) 8/\Iv (BX (a.1,b)/\(2*dc b)<((2*dc y.k)+1))/\aa [y.k.op] (aa [y.k.r] (aa [y.k.mn,y.k.mx] (aa [y.k.lz] (aa [y.k.cap,y.k.nk] (aa [y.k.af] (aa [ag a.1.ab] (aa [a.1.bS] (aa [a.1.ab] (∃z:Um,A=z.j/\aw .i64 (y.n.mn+((d.i:Nat):Int)) 1=(y.n.mn+((z.i:Nat):Int))/\l (ag (ee (a.1,b)).ab=ag z.s.ab/\(ee (a.1,b)).bS=z.s.bS/\(ee (a.1,b)).ab=z.s.ab/\(Iv (crJ y z/\(qL y-z.i)<(qL y-d.i))))))))))))))))))) (B)) (B)))/\(∀d:Unit,(Iv True)->(∃z:Nat,aa [t] (0=(z:Int)/\u (L=ag (nW y z).ab/\(g_ y).1.bS=(nW y z).bS/\(g_ y).1.ab=(nW y z).ab/\(Iv (z<=t.length)))))/\(∀e:Nat,let f:=ag (nW y e).ab;let C:=(nW y e).ab.length;let o:=t.length;let D:=ay (e:Int) (ag t);let g:=gt 0 t (e:Int).toNat;let E:=fe f y.n.lz (nW y e).ab g;let F:Prop:=(f=q1/\(nW y e).bS=(o4 y).bS/\(nW y e).ab=(o4 y).ab/\True);(Iv (e<=o))->ak D (ak (!(nW y e).bS) (aH 0 (e:Int)/\D/\Iv (C<=1000/\0<=g/\g<(C:Int))/\aa [g,f] (aa [y.n.lz] (aa [f] (aa [(nW y e).bS] (aa [(nW y e).ab] (aa [g,f] (aa [y.n.lz] (∃z:Nat,aa [t] (aw .i64 (e:Int) 1=(z:Int)/\u (ag E=ag (nW y z).ab/\(nW y e).bS=(nW y z).bS/\E=(nW y z).ab/\(Iv (z<=o/\(o-z)<(o-e))))))))))))) (F)) (F)))))))
def ZF:∀y,Uq y=Qp1 y:=λy=>by kernel_rfl
theorem ZG (h:s.bS):kI l s=s:=by
 cases l with
 | nil=>rw[kI]
 | cons t l=>rw[kI,Zac h]
theorem co3 {b:df} (h:s=b):(s.ab.length:Int)=(b.ab.length:Int)/\s.bS=b.bS/\s.ab=b.ab:=by grind
theorem Kr (h:0<l.length) (s:df):Og l s=iE (l.getD 0 bA) s:=by
 cases l with
 | nil=>cases h
 | cons t l=>rw[Og];rfl
theorem Qp2 (y:df×ah) (I:H_.pre y):Uo y:=by
 have⟨s,t⟩:=y;obtain⟨h1,c⟩:s.ab.length<=400/\E9 t:=I;have hk:=c.1.few;have wf:=(iq t).mp c.2;have C:∀s t,ee (s,t)=iE t s:=λs t=>by grind [ee,aI]
 have A:xG (s,t.af)=dK (kC (fD t.af s []).1.ab.length) (fD t.af s []).1 (fD t.af s []).2:=by
  grind [xG,ny,aI,jS]
 have B:∀n k,o4 ⟨s,n,k⟩=xE (iE k) (jz k) n.mn n.mx n.lz s:=λn k=>by grind [o4,aI]
 have E:=r8 t s;unfold Uo;have G:∀(l:List ah) n,gt (ah.mk 0 [] 0 0 false 0 0 []) l n=l.getD n bA:=λ_ _=>rfl
 simp only[bI,bH,av,G,bO,Zad,C,Zan,Zao];have TK:∀x,x<t.af.length->2*dc (t.af.getD x bA)<2*dc t:=λx h=>by have:=im h;omega
 refine⟨λb=>by grind,λb=>?_⟩;rw[Zaa (by grind)] at E;refine⟨λo=>⟨h1,by grind⟩,λo=>?_⟩;rw[Zaa o] at E;refine⟨λr=>?_,λr=>?_⟩
 ·refine⟨⟨(s,0),rfl,rfl,rfl,rfl,Zaj _,Gw.refl s,rfl⟩,λx h=>?_⟩;have⟨u,i⟩:=x;have⟨i1,i2,i3⟩:=h;have bS:u.bS->(u.ab.length:Int)=((iE t s).ab.length:Int)/\u.bS=(iE t s).bS/\u.ab=(iE t s).ab:=λJ=>by
   grind [ZG]
  refine⟨λe=>⟨λv=>?_,λv=>bS v⟩,λe=>?_⟩
  ·have f:i<t.af.length:=ω;have D:t.af.drop i=t.af.getD i bA::t.af.drop (i+1):=by simp_all
   rw[D,kI,Zaa (by grind)] at i3;exact⟨ω,e,⟨⟨i2.max h1,c.TK f⟩,TK i f⟩,(iE (t.af.getD i bA) u,i+1),bK ω,rfl,rfl,rfl,⟨f,i2.trans (lq _ _),i3⟩,show t.af.length-(i+1)<t.af.length-i by omega⟩
  ·grind [kI]
 ·rw[Zaa r] at E;refine⟨λj=>?_,λj=>?_⟩
  ·rw[Zac j] at E;rw[A,<-E];refine⟨⟨⟨h1,b,hk,λk g=>?_⟩,by grind [xm]⟩,rfl,rfl,rfl⟩;obtain⟨i,hi,rfl⟩:=Za3 g;have:=c.TK hi;grind
  ·rw[Zaa j] at E;refine⟨λd=>?_,λd=>?_⟩
   ·rw[Zac d] at E;have⟨w,p,q,w4⟩:=wf.1.rep d;have a:0<t.af.length:=by grind
    have H:jz (t.af.getD 0 bA)=BU t.af:=by grind [jz,aI,Km]
    have F:(λs=>Og t.af s)=iE (t.af.getD 0 bA):=funext λs=>Kr a s
    rw[F] at E;rw[B,H,<-E];exact⟨ω,⟨⟨h1,b,c.TK a,p,q,w4⟩,by grind⟩,rfl,rfl,rfl⟩
   ·rw[Zaa d] at E;refine⟨λm=>?_,λm=>?_⟩
    ·rw[Zac m] at E;have⟨w,p,q⟩:=wf.1.uk m;simp only at w p q;have a:0<t.af.length:=ω;rw[Kr a] at E;have e8:iB .i64 2 t.cap=2*t.cap:=Bm ω ω;have z:aw .i64 (2*t.cap) 1=2*t.cap+1:=ba ω ω;rw[e8,z,<-E];have p1:=(eB s ⟨4,2*t.cap,0,[]⟩).1;exact⟨h1,ω,⟨⟨p1.max h1,c.TK a⟩,TK 0 a⟩,(lq _ _).max (p1.max h1),rfl,rfl,rfl⟩
    ·grind
theorem xH {g:List aS->Int->List aS} {k:Nat} (hk:k<a.length) (b:(dK g s (a.take k)).bS=false) (c:∀l j,(g l j).length=l.length):g (dK g s (a.take k)).ab (a.getD k 0)=(dK g s (a.take (k+1))).ab/\s.bS=false/\(dK g s (a.take (k+1))).bS=false:=by
 grind [dK,cg]
theorem Qp3 (y:df×List ah) (I:Nf.pre y):Up y:=by
 have⟨s,l⟩:=y;obtain⟨h1,L,M,D⟩:s.ab.length<=400/\s.bS=false/\l.length<=1000000/\∀t∈l,E9 t:=I;have w:∀s t,ee (s,t)=iE t s:=λs t=>by grind [ee,aI]
 have A:jS (s,l)=fD l s []:=by grind [jS,aI]
 have z:∀j,ny (s,l) j=dK (kC (jS (s,l)).1.ab.length) (jS (s,l)).1 ((jS (s,l)).2.take j):=λj=>by grind [ny,aI]
 have B:xG (s,l)=ny (s,l) (jS (s,l)).2.length:=by grind [xG,aI]
 have⟨K,a2,a3⟩:=xF l s [] (λ_ v c=>nomatch c);simp only[Zak,Za6] at a3;unfold Up;have H:∀(l:List ah) n,gt (ah.mk 0 [] 0 0 false 0 0 []) l n=l.getD n bA:=λ_ _=>rfl
 have g:∀(l:List Int) n,gt 0 l n=l.getD n 0:=λ_ _=>rfl
 simp only[bI,bH,av,a7,bm,H,g,bO,Zad,w,B,z,A,Zan,Zao,ZaY,ZaZ];have hw:∀x,x<l.length->E9 (l.getD x bA):=λx d=>D _ (by grind)
 have da:∀x,x<l.length->2*dc (l.getD x bA)<2*tS l+1:=λx d=>by have:=BD d;omega
 refine⟨⟨⟨⟨s,[],0⟩,rfl,rfl,rfl,rfl,rfl,Zaj _,Gw.refl s,Zah _,rfl⟩,λx d=>?_⟩,⟨0,rfl,?_,?_,?_,Zaj _⟩,λj N=>?_⟩
 ·have⟨u,j,i⟩:=x;have⟨i1,i2,i3,i4⟩:=d;simp only at i1 i2 i3 i4 ⊢;have bS:u.bS->j=(fD l s []).2/\(u.ab.length:Int)=((fD l s []).1.ab.length:Int)/\u.bS=(fD l s []).1.bS/\u.ab=(fD l s []).1.ab:=λE=>by
   have:fD (l.drop i) u j=(u,j):=by
    cases l.drop i with
    | nil=>rw[fD]
    | cons t m=>rw[fD,Zac E]
   grind
  refine⟨λe=>⟨λr=>?_,λr=>bS r⟩,λe=>?_⟩
  ·have a:i<l.length:=ω;have G:l.drop i=l.getD i bA::l.drop (i+1):=by simp_all
   rw[G,fD,Zaa (by grind)] at i4;have k:=i2.max h1;refine⟨λel=>?_,λel=>?_⟩
   ·rw[zO ω ω] at el;rw[Zac (by grind)] at i4;rw[<-i4];exact⟨ω,e,⟨⟨k,hw i a⟩,da i a⟩,rfl,rfl,rfl,rfl⟩
   ·have ne:¬(l.drop (i+1)).isEmpty:=by
     grind [List.drop_eq_nil_iff]
    rw[Zaa ne] at i4;have⟨p1,p2⟩:=eB u ⟨2,0,0,[]⟩;have p:=lq (l.getD i bA) (bG u ⟨2,0,0,[]⟩).1;have⟨q1,O⟩:=eB (iE (l.getD i bA) (bG u ⟨2,0,0,[]⟩).1) ⟨3,0,0,[]⟩;have m1:=p1.max k;have m2:=p.max m1;have b:=(Kp (lq (l.getD i bA)) u).1;unfold uC at i4 b;refine⟨k,ω,e,⟨⟨m1,hw i a⟩,da i a⟩,m2,by grind,λq=>?_,λq=>?_⟩
    ·have⟨P,J,Q⟩:=p2 (p.low (q1.low q));have hl:(u.ab.length:Int)<((bG (iE (l.getD i bA) (bG u ⟨2,0,0,[]⟩).1) ⟨3,0,0,[]⟩).1.ab.length:Int):=by
      have:=p.len;grind
     have f:kH (bG (iE (l.getD i bA) (bG u ⟨2,0,0,[]⟩).1) ⟨3,0,0,[]⟩).1 false (bG u ⟨2,0,0,[]⟩).2=⟨fe (bG (iE (l.getD i bA) (bG u ⟨2,0,0,[]⟩).1) ⟨3,0,0,[]⟩).1.ab.length false (bG (iE (l.getD i bA) (bG u ⟨2,0,0,[]⟩).1) ⟨3,0,0,[]⟩).1.ab (bG u ⟨2,0,0,[]⟩).2,false⟩:=by grind [kH]
     rw[f] at i4 b;rw[J] at i4 b ⊢;generalize (bG (iE (l.getD i bA) (bG u ⟨2,0,0,[]⟩).1) ⟨3,0,0,[]⟩)=Z at*
     have hi:u.ab.length<Z.1.ab.length:=ω;have C:aw .i64 (u.ab.length:Int) 1=(u.ab.length:Int)+1:=ba ω ω;simp only[Zad,C];refine⟨ω,hl,ω,hl,⟨⟨fe Z.1.ab.length false Z.1.ab u.ab.length,false⟩,j++[Z.2],i+1⟩,rfl,bK ω,by rw[dX],q,?_,⟨a,i2.trans b,by grind,i4⟩,show l.length-(i+1)<l.length-i by omega⟩;rw[BL hi,tc];rfl
    ·have f:kH (bG (iE (l.getD i bA) (bG u ⟨2,0,0,[]⟩).1) ⟨3,0,0,[]⟩).1 false (bG u ⟨2,0,0,[]⟩).2=(bG (iE (l.getD i bA) (bG u ⟨2,0,0,[]⟩).1) ⟨3,0,0,[]⟩).1:=by grind [kH]
     rw[f] at i4 b;exact⟨⟨_,_,i+1⟩,rfl,bK ω,rfl,rfl,rfl,⟨a,i2.trans b,by grind,i4⟩,show l.length-(i+1)<l.length-i by omega⟩
  ·grind [fD]
 ·grind [fv,iu]
 ·grind [fv,iu]
 ·grind [dK]
 ·generalize fD l s []=R at*
  have F:=fv (kC (R.1.ab.length:Nat)) (λl j=>iu _ _ _) R.1;have done:¬j<R.2.length\/(dK (kC (R.1.ab.length:Nat)) R.1 (R.2.take j)).bS->dK (kC (R.1.ab.length:Nat)) R.1 (R.2.take j)=dK (kC (R.1.ab.length:Nat)) R.1 (R.2.take R.2.length):=λh=>by
   grind [dK]
  refine⟨λe=>⟨λo=>?_,λo=>co3 (done (.inr o))⟩,λe=>co3 (done (.inl ω))⟩;have a:j<R.2.length:=ω;have⟨g1,g2,g3⟩:=xH a o (λl j=>iu _ _ _);have c:=a2 g2 (R.2.getD j 0) (by grind);rw[(F _).2.1];exact⟨ω,e,c.1,c.2,j+1,bK ω,by grind,by grind,g1,ω,ω⟩
theorem An {q:Bool} (h:s.bS\/q):∀n,nw Z q n s=s
 | 0=>rfl
 | n+1=>by grind [nw]
theorem Nh (h:s.bS):∀n,jA Z n s a=(s,a)
 | 0=>rfl
 | n+1=>by grind [jA]
theorem Qp4 (y:Kq) (L:Ng.pre y):Uq y:=by
 have⟨c,x,k⟩:=y;obtain⟨h1,Q,g,S,T,U⟩:c.ab.length<=400/\c.bS=false/\E9 k/\0<=x.mn/\x.mn<=30/\(x.mx= -1\/(x.mn<=x.mx/\x.mx<=30)):=L;have I:∀s,ee (s,k)=iE k s:=λs=>by grind [ee,aI]
 have r:jT ⟨c,x,k⟩=nw (iE k) (jz k) x.mn.toNat c:=by grind [jT,aI]
 have O:qL ⟨c,x,k⟩=kB x.mn x.mx:=by grind [qL,aI]
 have t:g_ ⟨c,x,k⟩=jA (iE k) (qL ⟨c,x,k⟩) (jT ⟨c,x,k⟩) []:=by grind [g_,aI]
 have J:∀j,nW ⟨c,x,k⟩ j=dK (fe (g_ ⟨c,x,k⟩).1.ab.length x.lz) (g_ ⟨c,x,k⟩).1 ((g_ ⟨c,x,k⟩).2.take j):=λj=>by unfold nW;rw[aI]
 have P:o4 ⟨c,x,k⟩=xE (iE k) (jz k) x.mn x.mx x.lz c:=by grind [o4,aI]
 have w:=vj (jz k) (lq k) x.mn.toNat c;have⟨C,D,N⟩:=tg (lq k) (qL ⟨c,x,k⟩) (jT ⟨c,x,k⟩) [] (λ_ v B=>nomatch B);rw[<-r] at w;rw[<-t] at C D N;have m:=w.max h1;unfold Uq;have o:∀(l:List Int) n,gt 0 l n=l.getD n 0:=λ_ _=>rfl
 simp only[bI,bH,av,a7,bm,o,bO,Zad,I,J,Zan,Zao,ZaY,ZaZ];have da:2*dc k<2*dc k+1:=ω;refine⟨g,⟨⟨(c,0),rfl,rfl,rfl,rfl,Zaj _,Gw.refl c,r.symm⟩,λz hz=>?_⟩,λem=>?_,λem=>?_⟩
 ·have⟨u,i⟩:=z;have⟨i1,i2,i3⟩:=hz;have stop:u.bS\/jz k->(u.ab.length:Int)=((jT ⟨c,x,k⟩).ab.length:Int)/\u.bS=(jT ⟨c,x,k⟩).bS/\u.ab=(jT ⟨c,x,k⟩).ab:=λh=>by
   grind [An]
  refine⟨λe=>⟨λf=>⟨λq=>?_,λq=>stop (.inr q)⟩,λf=>stop (.inl f)⟩,λe=>?_⟩
  ·rw[show x.mn.toNat-i=(x.mn.toNat-(i+1))+1 by omega,nw,Zaa (by grind)] at i3;exact⟨⟨⟨i2.max h1,g⟩,da⟩,(iE k u,i+1),bK ω,rfl,rfl,rfl,⟨show i+1<=x.mn.toNat by omega,i2.trans (lq _ _),i3⟩,show x.mn.toNat-(i+1)<x.mn.toNat-i by omega⟩
  ·rw[show x.mn.toNat-i=0 by omega,nw] at i3;exact co3 i3
 ·have E:o4 ⟨c,x,k⟩=Am (iE k) x.lz (jT ⟨c,x,k⟩):=by grind [xE]
  unfold Am at E;generalize jT ⟨c,x,k⟩=A at*
  have⟨p1,p2⟩:=eB A ⟨2,0,0,[]⟩;have d:=lq k (bG A ⟨2,0,0,[]⟩).1;have⟨q1,Y⟩:=eB (iE k (bG A ⟨2,0,0,[]⟩).1) ⟨3,(bG A ⟨2,0,0,[]⟩).2,0,[]⟩;have m1:=p1.max m;have m2:=d.max m1;refine⟨m,⟨⟨m1,g⟩,da⟩,m2,λG=>?_,λG=>?_⟩
  ·have⟨Z,r2,r3⟩:=p2 (d.low (q1.low G));have:=d.len;grind [kH]
  ·grind [kH]
 ·have E:o4 ⟨c,x,k⟩=dK (fe (g_ ⟨c,x,k⟩).1.ab.length x.lz) (g_ ⟨c,x,k⟩).1 (g_ ⟨c,x,k⟩).2:=by grind [xE]
  have V:qL ⟨c,x,k⟩<=30/\x.mn+(qL ⟨c,x,k⟩:Nat)=x.mx:=by grind [kB]
  have K:∀z,crJ ⟨c,x,k⟩ z↔(z.i<=qL ⟨c,x,k⟩/\Gw (jT ⟨c,x,k⟩) z.s/\z.j.length<=z.i/\jA (iE k) (qL ⟨c,x,k⟩ -z.i) z.s z.j=g_ ⟨c,x,k⟩):=λz=>ZbW
  simp only[K];rw[E];generalize qL ⟨c,x,k⟩=M at*
  generalize jT ⟨c,x,k⟩=A at*
  refine⟨⟨⟨⟨A,[],0⟩,rfl,by simp,rfl,rfl,rfl,Zaj _,Gw.refl A,Zah _,t.symm⟩,λz hz=>?_⟩,⟨0,rfl,?_,?_,?_,Zaj _⟩,λj W=>?_⟩
  ·have⟨u,j,i⟩:=z;have⟨i1,i2,i3,i4⟩:=hz;simp only at i1 i2 i3 i4 ⊢;have stop:∀n,jA (iE k) n u j=(u,j)->jA (iE k) n u j=g_ ⟨c,x,k⟩->j=(g_ ⟨c,x,k⟩).2/\(u.ab.length:Int)=((g_ ⟨c,x,k⟩).1.ab.length:Int)/\u.bS=(g_ ⟨c,x,k⟩).1.bS/\u.ab=(g_ ⟨c,x,k⟩).1.ab:=λn a b=>by
    grind
   refine⟨λe=>⟨λf=>?_,λf=>stop _ (Nh f _) i4⟩,λe=>?_⟩
   ·rw[show M-i=(M-(i+1))+1 by omega,jA,Zaa (by grind)] at i4;have p1:=(eB u ⟨2,0,0,[]⟩).1;have d:=lq k (bG u ⟨2,0,0,[]⟩).1;have mu:=i2.max m;refine⟨mu,by grind,⟨⟨p1.max mu,g⟩,da⟩,⟨iE k (bG u ⟨2,0,0,[]⟩).1,j++[(bG u ⟨2,0,0,[]⟩).2],i+1⟩,rfl,?_,rfl,rfl,rfl,⟨show i+1<=M by omega,(i2.trans p1).trans d,by grind,i4⟩,show M-(i+1)<M-i by omega⟩;grind
   ·rw[show M-i=0 by omega] at i4;exact stop 0 rfl i4
  ·grind [fv,dX]
  ·grind [fv,dX]
  ·grind [dK]
  ·have X:=C.max m;generalize g_ ⟨c,x,k⟩=R at*
   have F:=fv (fe (R.1.ab.length:Nat) x.lz) (λl j=>dX _ _ _ _) R.1;have done:¬j<R.2.length\/(dK (fe (R.1.ab.length:Nat) x.lz) R.1 (R.2.take j)).bS->dK (fe (R.1.ab.length:Nat) x.lz) R.1 (R.2.take j)=dK (fe (R.1.ab.length:Nat) x.lz) R.1 R.2:=λh=>by
    grind [dK]
   refine⟨λe=>⟨λp=>?_,λp=>co3 (done (.inr p))⟩,λe=>co3 (done (.inl ω))⟩;have H:j<R.2.length:=ω;have⟨g1,g2,g3⟩:=xH H p (λl j=>dX _ _ _ _);have B:=D g2 (R.2.getD j 0) (by grind);grind [bK]
inductive Fo where
 | n | a | r
noncomputable section
def foC:Fo->br D
 | .n=>H_ | .a=>Nf | .r=>Ng
def Qp5:∀i,(foC i).Y->Nat
 | .n=>λy=>2*dc y.2 | .a=>λy=>2*tS y.2+1 | .r=>λy=>2*dc y.k+1
def foF:Fo->Func
 | .n=>f78 | .a=>f116 | .r=>f117
def Qis:Fo->tI
 | .n=>[yF] | .a=>[yF] | .r=>[yF,Uk,Ez]
def foO:∀i,(foC i).Y->cO D
 | .n=>Qin | .a=>Qio | .r=>Qiq
def Qp6:∀i,Ok (foC i):=
 wJ [.n,.a,.r] foC Qp5 (fn:=foF) (tab:=Qis) (iH:=foO)
  (λi=>match i with
   | .n=>Kn | .a=>Kn | .r=>⟨Kn,Qij,Qii⟩)
  (λi=>match i with
   | .n=>by kernel_rfl | .a=>by kernel_rfl | .r=>by kernel_rfl)
  (λi=>match i with
   | .n=>by kernel_rfl | .a=>by kernel_rfl | .r=>by kernel_rfl)
  λi=>match i with
   | .n=>λy b=>Eq.mp (ZD y) (Qp2 y b) | .a=>λy b=>Eq.mp (ZE y) (Qp3 y b) | .r=>λy b=>Eq.mp (ZF y) (Qp4 y b)
end
structure Fit (f:df->df) (g:Nat->List aS) (sz:Nat):Prop where
 gw:∀s,Gw s (f s)
 len:∀b,(g b).length=sz
 ok:∀c:List aS,c.length+sz<=400->f ⟨c,false⟩=⟨c++g c.length,false⟩
 no:∀c:List aS,c.length<=400->400<c.length+sz->(f ⟨c,false⟩).bS=true
variable {Z:df->df} {g:Nat->List aS} {a:Nat} {l:List ah}
def Fit.bS (h:Fit Z g a) {s:df} (hs:s.bS):(Z s).bS:=(h.gw s).bS hs
theorem lu (i:aS):Fit (λs=>(bG s i).1) (λ_=>[i]) 1:=by
 refine⟨λs=>(eB s i).1,λ_=>rfl,λc h=>?_,λc h a=>?_⟩
 all_goals grind [bG]
def Fit.then {d:df->df} {e:Nat->List aS} {b:Nat} (h:Fit Z g a) (k:Fit d e b):Fit (λs=>d (Z s)) (λn=>g n++e (n+a)) (a+b):=by
 refine⟨λs=>(h.gw s).trans (k.gw _),λn=>by rw[Zab,h.len,k.len],λc i=>?_,λc h1 j=>?_⟩
 ·rw[h.ok c ω,k.ok _ (by rw[Zab,h.len];omega),Zab,h.len,ZaD]
 ·by_cases i:c.length+a<=400
  ·rw[h.ok c i];exact k.no _ (by rw[Zab,h.len];omega) (by rw[Zab,h.len];omega)
  ·exact k.bS (h.no c h1 ω)
theorem kJ (s:df) (i:aS) (c:List aS) (h:s=⟨c,false⟩):(c.length<400->bG s i=(⟨c++[i],false⟩,(c.length:Int)))/\(400<=c.length->bG s i=(⟨c,true⟩,0)):=by
 grind [bG]
theorem xI (h:Fit Z g a) (lz:Bool) (J:Int->aS) (c:List aS) (e:c.length<=400):
  (c.length+(a+2)<=400->(bG (Z (bG ⟨c,false⟩ ⟨2,0,0,[]⟩).1) (J (bG ⟨c,false⟩ ⟨2,0,0,[]⟩).2))=(⟨c++⟨2,0,0,[]⟩::(g (c.length+1)++[J c.length]),false⟩,((c.length+1+a:Nat):Int))/\
   kH (bG (Z (bG ⟨c,false⟩ ⟨2,0,0,[]⟩).1) (J (bG ⟨c,false⟩ ⟨2,0,0,[]⟩).2)).1 lz (bG ⟨c,false⟩ ⟨2,0,0,[]⟩).2=⟨c++gI lz c.length (c.length+a+2)::(g (c.length+1)++[J c.length]),false⟩)/\
  (400<c.length+(a+2)->(bG (Z (bG ⟨c,false⟩ ⟨2,0,0,[]⟩).1) (J (bG ⟨c,false⟩ ⟨2,0,0,[]⟩).2)).1.bS/\(kH (bG (Z (bG ⟨c,false⟩ ⟨2,0,0,[]⟩).1) (J (bG ⟨c,false⟩ ⟨2,0,0,[]⟩).2)).1 lz (bG ⟨c,false⟩ ⟨2,0,0,[]⟩).2).bS):=by
 constructor
 ·intro b;have d:=(kJ ⟨c,false⟩ ⟨2,0,0,[]⟩ c rfl).1 ω;have sz:(c++[(⟨2,0,0,[]⟩:aS)]).length=c.length+1:=by simp
  have e2:=h.ok (c++[⟨2,0,0,[]⟩]) ω;have i:(c++[(⟨2,0,0,[]⟩:aS)]++g (c.length+1)).length=c.length+1+a:=by rw[Zab,h.len,sz]
  grind [kJ,kH,r6,gI]
 ·intro b;have bS:(bG (Z (bG ⟨c,false⟩ ⟨2,0,0,[]⟩).1) (J (bG ⟨c,false⟩ ⟨2,0,0,[]⟩).2)).1.bS:=by
   by_cases h0:c.length<400
   ·rw[(kJ ⟨c,false⟩ ⟨2,0,0,[]⟩ c rfl).1 h0];have sz:(c++[(⟨2,0,0,[]⟩:aS)]).length=c.length+1:=by simp
    by_cases h1:c.length+1+a<=400
    ·simp only[h.ok (c++[⟨2,0,0,[]⟩]) ω];rw[(kJ _ _ _ rfl).2 (by rw[Zab,h.len,sz];omega)]
    ·exact(eB _ _).1.bS (h.no _ ω ω)
   ·rw[(kJ ⟨c,false⟩ ⟨2,0,0,[]⟩ c rfl).2 ω];exact(eB _ _).1.bS ((h.gw _).bS rfl)
  grind [BV]
def Ur (h:Fit Z g a) (lz:Bool):Fit (Am Z lz) (λb=>gI lz b (b+a+2)::(g (b+1)++[⟨3,(b:Nat),0,[]⟩])) (a+2):=by
 refine⟨λs=>Ko h.gw lz s,λb=>by simp[h.len],λc d=>?_,λc h1 sz=>?_⟩
 ·exact((xI h lz (λj=>⟨3,j,0,[]⟩) c ω).1 d).2
 ·exact((xI h lz (λj=>⟨3,j,0,[]⟩) c h1).2 sz).2
theorem Ks (h:Fit Z g a) {q:Bool} (i:q=decide (a=0)):∀n,Fit (nw Z q n) (gT g a n) (n*a)
 | 0=>⟨λs=>Gw.refl s,λb=>by simp[gT],λc sz=>by simp[nw,gT],λc h1 e=>ω⟩
 | n+1=>by
  have d:=Ks h i n;refine⟨λs=>vj q h.gw _ s,λb=>oY h.len _ b,λc sz=>?_,λc h1 e=>?_⟩
  ·rw[ZaV] at sz;by_cases h0:a=0
   ·rw[An (.inr (by grind)),show gT g a (n+1) c.length=[] from Zap (by rw[oY h.len,h0];simp),Zaw]
   ·rw[nw,Zaa (by grind),h.ok c ω,d.ok _ (by rw[Zab,h.len];omega),gT,Zab,h.len,ZaD]
  ·rw[ZaV] at e;rw[nw,Zaa (by grind)];by_cases sz:c.length+a<=400
   ·rw[h.ok c sz];exact d.no _ (by rw[Zab,h.len];omega) (by rw[Zab,h.len];omega)
   ·exact d.bS (h.no c h1 ω)
theorem BY (h:Fit Z g a):∀(n:Nat) (c:List aS) (j:List Int),c.length<=400->
  (c.length+n*(a+1)<=400->jA Z n ⟨c,false⟩ j=(⟨c++e_ (λ_=>⟨2,0,0,[]⟩) g a n c.length,false⟩,j++js a n c.length))/\(400<c.length+n*(a+1)->(jA Z n ⟨c,false⟩ j).1.bS)
 | 0,c,j,b=>⟨λ_=>by simp[jA,e_,js],λi=>ω⟩
 | n+1,c,j,b=>by
  have sz:(c++[(⟨2,0,0,[]⟩:aS)]).length=c.length+1:=by simp
  rw[jA,Zaa (by simp),ZaV];by_cases h0:c.length<400
  ·rw[(kJ ⟨c,false⟩ ⟨2,0,0,[]⟩ c rfl).1 h0];by_cases h1:c.length+1+a<=400
   ·rw[h.ok _ ω,sz];have k:(c++[(⟨2,0,0,[]⟩:aS)]++g (c.length+1)).length=c.length+1+a:=by rw[Zab,h.len,sz]
    have⟨i1,i2⟩:=BY h n (c++[⟨2,0,0,[]⟩]++g (c.length+1)) (j++[(c.length:Int)]) ω;grind [e_,js]
   ·refine⟨λd=>ω,λ_=>(tg h.gw n _ _ ?_).1.bS (h.no _ ω ω)⟩;intro e;rw[h.no _ ω ω] at e;cases e
  ·rw[(kJ ⟨c,false⟩ ⟨2,0,0,[]⟩ c rfl).2 ω];refine⟨λd=>ω,λ_=>(tg h.gw n _ _ ?_).1.bS ((h.gw _).bS rfl)⟩;intro e;rw[(h.gw ⟨c,true⟩).bS rfl] at e;cases e
def Us (h:Fit Z g a) {q:Bool} (m:q=decide (a=0)) (mn mx:Int) (lz:Bool):
  Fit (xE Z q mn mx lz) (Hs g a mn mx lz) (mn.toNat*a+(if mx= -1 then a+2 else kB mn mx*(a+1))):=by
 have d:=Ks h m mn.toNat;unfold xE Hs;by_cases sz:mx= -1
 ·simp only[sz,Zbv];exact d.then (Ur h lz)
 ·simp only[sz,Za0];generalize kB mn mx=n;have hO:Fit (λs=>dK (fe (jA Z n s []).1.ab.length lz) (jA Z n s []).1 (jA Z n s []).2) (λb=>e_ (λi=>gI lz i (b+n*(a+1))) g a n b) (n*(a+1)):=by
   refine⟨λs=>?_,λb=>oZ h.len _ b,λc k=>?_,λc h1 e=>?_⟩
   ·exact(tg h.gw n s [] (λ_ v o=>nomatch o)).1.trans (fv _ (λl j=>dX _ _ _ _) _ _).1
   ·simp only[(BY h n c [] ω).1 k];unfold dK;rw[Zaa (by simp)];have p:(c++e_ (λ_=>(⟨2,0,0,[]⟩:aS)) g a n c.length).length=c.length+n*(a+1):=by rw[Zab,oZ h.len]
    simp only[p,Zcb];rw[BK h.len n c c.length rfl]
   ·rw[(fv _ (λl j=>dX _ _ _ _) _ _).2.2];exact(BY h n c [] h1).2 e
  exact d.then hO
theorem ZH (h:∀t∈l,Fit (iE t) (bP t) (bp t)):∀(c:List aS) (j:List Int),c.length<=400->
  (c.length+(aP l+2*(l.length-1))<=400->fD l ⟨c,false⟩ j=(⟨c++jR l c.length 0,false⟩,j++jy l.dropLast c.length))/\(400<c.length+(aP l+2*(l.length-1))->(fD l ⟨c,false⟩ j).1.bS):=by
 induction l with
 | nil=>exact λc j a=>⟨λ_=>by simp[fD,jR,jy],λd=>by grind [aP]⟩
 | cons t l f=>
  intro c j a;have ht:=h t (by simp);rw[fD,Zaa (by simp)];cases l with
  | nil=>
   rw[jR];simp only[List.isEmpty_nil,Zbv,aP,Zae,Zak,List.dropLast_singleton,jy,Zaw];exact⟨λb=>by rw[ht.ok c ω],λb=>ht.no c a ω⟩
  | cons u l=>
   rw[Zaa (by simp),jR,Zaa (by simp),aP,Zae,List.dropLast_cons₂,jy];have⟨k1,k2⟩:=xI ht false (λ_=>⟨3,0,0,[]⟩) c a;unfold uC;by_cases hs:c.length+(bp t+2)<=400
   ·have⟨k3,k4⟩:=k1 hs;have g:(c++gI false c.length (c.length+bp t+2)::(bP t (c.length+1)++[(⟨3,0,0,[]⟩:aS)])).length=c.length+2+bp t:=by simp[ht.len];omega
    grind [gI]
   ·have⟨k3,k4⟩:=k2 ω;simp only[Zae];refine⟨λb=>ω,λ_=>(xF _ _ _ ?_).1.bS k4⟩;intro e;grind
theorem ZI (h:∀t∈l,Fit (iE t) (bP t) (bp t)):Fit (kI l) (bq l) (aP l):=by
 induction l with
 | nil=>exact⟨λs=>BW _ s,λb=>by rfl,λc d=>by simp[kI,bq],λc h1 a=>by grind [aP]⟩
 | cons t l e=>
  have k:=(h t (by simp)).then (e λu hu=>h u (by grind));refine⟨λs=>BW _ s,λb=>by rw[bq,aP];exact k.len b,λc d=>?_,λc h1 a=>?_⟩
  ·rw[kI,Zaa (by simp),bq];rw[aP] at d;exact k.ok c d
  ·rw[kI,Zaa (by simp)];rw[aP] at a;exact k.no c h1 a
theorem Kt (h:l.length=1):l=[l.getD 0 bA]:=by
 match l,h with
 | [k],_=>rfl
mutual
theorem EA:∀t:ah,j3 t->BS t=decide (bp t=0)
 | .mk op r mn mx lz cap nk ks,h=>by
  rw[j3] at h
  rw[BS,bp]
  unfold oW
  by_cases h1:op=1
  ·have h0:(ks.length:Int)=0:=h.1.none h1
   have:ks=[]:=Zap ω
   subst this
   subst h1
   simp[aP]
  ·rw[Zaa h1]
   by_cases h3:op=3
   ·rw[Zac h3,Ao ks h.2.2]
    simp[h3]
   ·rw[Zaa h3]
    by_cases h5:op=5
    ·obtain⟨w1,w2,w3,w4⟩:=h.1.rep h5
     simp only at w1 w2 w3 w4
     rw[Zac h5,Ap ks h.2.2 ω]
     subst h5
     simp only[show ¬((5:Int)=2\/(5:Int)=7\/(5:Int)=8) by decide,show ¬((5:Int)=4) by decide,show ¬((5:Int)=6) by decide,Za0,Zbv]
     by_cases m0:mx=0
     ·have:mn=0:=ω
      subst this;subst m0;simp
     ·rw[Zaa m0]
      by_cases m1:mx= -1
      ·rw[Zac m1]
       have:¬mn=mx:=ω
       simp[this]
      ·rw[Zaa m1]
       by_cases me:mn=mx
       ·obtain⟨k,hk⟩:∃k,mn.toNat=k+1:=⟨mn.toNat-1,ω⟩
        have hd:mx.toNat-mn.toNat=0:=ω
        rw[hd,hk]
        simp[me,Nat.mul_eq_zero]
       ·obtain⟨d,hd⟩:∃d,mx.toNat-mn.toNat=d+1:=⟨mx.toNat-mn.toNat-1,ω⟩
        rw[hd]
        simp[me]
    ·rw[Zaa h5]
     have:=h.1.op h1
     simp only at this
     rcases this with g | g | g | g | g | g | g
     ·simp[g]
     ·simp[g]
     ·simp[g]
     ·exact absurd g h3
     ·have:=h.1.aG g
      simp only at this
      simp[g]
      omega
     ·exact absurd g h5
     ·simp[g]
theorem Ao:∀l:List ah,my l->pV l=decide (aP l=0)
 | [],_=>by simp[pV,aP]
 | t::l,h=>by
  rw[my] at h
  rw[pV,aP,EA t h.1,Ao l h.2,ZaG]
  simp
theorem Ap:∀l:List ah,my l->l.length=1->BU l=decide (aP l=0)
 | [t],h,_=>by
  rw[my] at h
  rw[BU,aP,aP,EA t h.1]
  rfl
end
def my.tail {t:ah} {l:List ah} (h:my (t::l)):j3 t/\my l:=by assumption
mutual
theorem Ut:∀t:ah,j3 t->Fit (iE t) (bP t) (bp t)
 | .mk op r mn mx lz cap nk ks,h=>by
  have hw:=(iq _).mp h
  have hk:∀t∈ks,Fit (iE t) (bP t) (bp t):=Ku ks hw.2.2
  generalize ht:ah.mk op r mn mx lz cap nk ks=t at*
  have eks:t.af=ks:=by rw[<-ht];rfl
  rw[<-eks] at hk
  clear ht eks
  have key:∀{f:df->df} {g:Nat->List aS},Fit f g (bp t)->(∀s,s.bS=false->iE t s=f s)->(∀b,bP t b=g b)->Fit (iE t) (bP t) (bp t):=λF e e2=>
   ⟨λs=>lq t s,λb=>by rw[e2,F.len],λc hc=>by rw[e _ rfl,e2,F.ok c hc],λc h1 h2=>by rw[e _ rfl,F.no c h1 h2]⟩
  have da:=size_eq t
  unfold oW at da
  have ns:∀{X:df->df} {s:df},s.bS=false->(if s.bS=true then s else X s)=X s:=λhb=>Zaa (by rw[hb];simp)
  by_cases h1:t.op=1
  ·have h0:(t.af.length:Int)=0:=hw.1.none h1
   have hn:t.af=[]:=Zap ω
   have s0:bp t=0:=by rw[da,hn];simp[h1,aP]
   rw[s0] at key ⊢
   refine key (f:=id) (g:=λ_=>[]) ⟨λs=>Gw.refl s,λ_=>rfl,λc _=>by simp,λc h1 h2=>ω⟩ (λs hb=>?_) λb=>?_
   ·rw[r8,Zaa (by rw[hb];simp),Zaa ω,Zaa ω,Zaa ω,Zaa ω,Zaa ω,Zaa ω,Zaa ω];rfl
   ·rw[kE,Zaa ω,Zaa ω,Zaa ω,Zaa ω,Zaa ω,Zaa ω,Zaa ω]
  ·rcases hw.1.op h1 with h2 | h2 | h2 | h2 | h2 | h2 | h2
   all_goals have h2:t.op=_:=h2
   ·rw[Zac ω] at da
    rw[da] at key ⊢
    exact key (lu ⟨1,0,0,t.r⟩) (λs hb=>by rw[r8,Zaa (by rw[hb];simp),Zac h2]) λb=>by rw[kE,Zac h2]
   ·rw[Zac ω] at da
    rw[da] at key ⊢
    exact key (lu ⟨5,0,0,[]⟩) (λs hb=>by rw[r8,Zaa (by rw[hb];simp),Zaa ω,Zaa ω,Zaa ω,Zaa ω,Zaa ω,Zac h2]) λb=>by rw[kE,Zaa ω,Zac h2]
   ·rw[Zac ω] at da
    rw[da] at key ⊢
    exact key (lu ⟨6,0,0,[]⟩) (λs hb=>by rw[r8,Zaa (by rw[hb];simp),Zaa ω,Zaa ω,Zaa ω,Zaa ω,Zaa ω,Zaa ω,Zac h2]) λb=>by rw[kE,Zaa ω,Zaa ω,Zac h2]
   ·rw[Zaa ω,Zaa ω,Zaa ω,Zaa ω] at da
    rw[da] at key ⊢
    exact key (ZI hk) (λs hb=>by rw[r8,Zaa (by rw[hb];simp),Zaa ω,Zac h2]) λb=>by rw[kE,Zaa ω,Zaa ω,Zaa ω,Zac h2]
   ·rw[Zaa ω,Zac h2] at da
    rw[da] at key ⊢
    have hA:=ZH hk
    have h0:1<=t.af.length:=by have:=hw.1.aG h2;simp only at this;omega
    have hlast:t.af=t.af.dropLast++[t.af.getD (t.af.length-1) bA]:=by
     rw[Zcz]
     conv=>lhs;rw[<-ZaM (l:=t.af),show t.af.length=(t.af.length-1)+1 by omega]
     rw[cg bA ω]
    refine key (f:=λs=>dK (kC (fD t.af s []).1.ab.length) (fD t.af s []).1 (fD t.af s []).2) (g:=λb=>jR t.af b (b+aP t.af+2*(t.af.length-1))) ?_ (λs hb=>by rw[r8,Zaa (by rw[hb];simp),Zaa ω,Zaa ω,Zac h2]) λb=>by rw[kE,Zaa ω,Zaa ω,Zaa ω,Zaa ω,Zac h2]
    refine⟨λs=>(xF t.af s [] (λ_ v hv=>(nomatch hv))).1.trans (fv _ (λl j=>iu _ _ _) _ _).1,λb=>kF _ _ _ hw.2.2,λc hc=>?_,λc h1 h2=>?_⟩
    ·simp only[(hA c [] ω).1 hc]
     unfold dK
     rw[Zaa (by simp)]
     have n1:(c++jR t.af c.length 0).length=c.length+aP t.af+2*(t.af.length-1):=by rw[Zab,kF _ _ _ hw.2.2];omega
     simp only[n1,Zcb]
     congr 1
     conv=>lhs;rw[hlast,pJ]
     have:=BJ (e:=c.length+aP t.af+2*(t.af.length-1)) t.af.dropLast c (bP (t.af.getD (t.af.length-1) bA) (c.length+(aP t.af.dropLast+2*t.af.dropLast.length))) c.length (by rw[Zcz];exact hw.2.2.take _) rfl
     rw[<-hlast,this]
     conv=>rhs;arg 2;arg 1;rw[hlast]
     rw[pJ]
    ·rw[(fv _ (λl j=>iu _ _ _) _ _).2.2]
     exact(hA c [] h1).2 h2
   ·rw[Zaa ω,Zaa ω,Zaa ω,Zac h2] at da
    obtain⟨w1,_⟩:=hw.1.rep h2
    simp only at w1
    have hks:=Kt (l:=t.af) ω
    have qo:aP t.af=bp (t.af.getD 0 bA):=by conv=>lhs;rw[hks,aP,aP,Zbn]
    have hcl:∀b,bq t.af b=bP (t.af.getD 0 bA) b:=λb=>by conv=>lhs;rw[hks,bq,bq,Zaw]
    have hH:∀s,Og t.af s=iE (t.af.getD 0 bA) s:=λs=>Kr ω s
    have hq:=Ap t.af hw.2.2 ω
    have k0:=hk (t.af.getD 0 bA) (by rw[eo ω];exact Zas _)
    rw[<-qo] at k0
    have e1:(λs=>Og t.af s)=iE (t.af.getD 0 bA):=funext hH
    have e2:(λb=>bq t.af b)=bP (t.af.getD 0 bA):=funext hcl
    have F:=Us k0 hq t.mn t.mx t.lz
    have hs2:bp t=t.mn.toNat*aP t.af+(if t.mx= -1 then aP t.af+2 else kB t.mn t.mx*(aP t.af+1)):=by
     rw[da]
     split
     ·omega
     ·rfl
    rw[hs2] at key ⊢
    exact key F (λs hb=>by rw[r8,Zaa (by rw[hb];simp),Zaa ω,Zaa ω,Zaa ω,Zac h2,e1]) λb=>by rw[kE,Zaa ω,Zaa ω,Zaa ω,Zaa ω,Zaa ω,Zac h2,e2]
   ·rw[Zaa ω,Zaa ω,Zac h2] at da
    obtain⟨w1,_⟩:=hw.1.uk h2
    simp only at w1
    have hks:=Kt (l:=t.af) ω
    have qo:aP t.af=bp (t.af.getD 0 bA):=by conv=>lhs;rw[hks,aP,aP,Zbn]
    have hcl:∀b,bq t.af b=bP (t.af.getD 0 bA) b:=λb=>by conv=>lhs;rw[hks,bq,bq,Zaw]
    have k0:=hk (t.af.getD 0 bA) (by rw[eo ω];exact Zas _)
    rw[<-qo] at k0
    have F:=((lu ⟨4,2*t.cap,0,[]⟩).then k0).then (lu ⟨4,2*t.cap+1,0,[]⟩)
    rw[show 1+aP t.af+1=bp t by rw[da];omega] at F
    exact key F (λs hb=>by rw[r8,Zaa (by rw[hb];simp),Zaa ω,Zaa ω,Zaa ω,Zaa ω,Zac h2,Kr ω]) λb=>by rw[kE,Zaa ω,Zaa ω,Zaa ω,Zaa ω,Zaa ω,Zaa ω,Zac h2,hcl];simp
theorem Ku:∀l:List ah,my l->∀t∈l,Fit (iE t) (bP t) (bp t)
 | [],_=>λt ht=>nomatch ht
 | t::l,h=>λu hu=>by
  rw[my] at h
  rcases List.mem_cons.mp hu with e | e
  ·rw[e];exact Ut t h.1
  ·exact Ku l h.2 u e
end
def RdP (y:List Nd×Int):Prop:=0<=y.2/\y.1.length<=480/\∃t r,j3 t/\y.1.drop y.2.toNat=aD t++r
def kK (y:List Nd×Int):ah:=lk (ck (y.1.drop y.2.toNat)).1
def Uu (y:List Nd×Int):Int:=lk (y.2+(aD (kK y)).length)
def Ia:br D:=bL 74 (List Nd×Int) (λa s=>match a with
 | [l,i]=>az (aU D s 7 l) λl=>aL (cA i) λ_ i=>.ret ((l:List Nd),i)
 | _=>.fail) RdP (λy=>[.list 7 y.1,QsE y.2]) λy=>.tuple [.agg (D.bd 15 (kK y)),QsE (Uu y)]
def Ni (y:List Nd×Int) (k:Nat):Int:=lk (y.2+1+(aA ((kK y).af.take k)).length)
def Qp8 (y:Ia.Y):cO D:=⟨[],[],[(122,⟨Nat,[0],λk=>[(1,QsE (Ni y k)),(4,.ptr 0 0),(6,.ptr 1 0),(7,QsE k)],[],λk=>[uB 0 bA,(1,.cells [QsE (kK y).op,.list 6 (kK y).r,QsE (kK y).mn,QsE (kK y).mx,.bool (kK y).lz,QsE (kK y).cap,QsE (kK y).nk,.grow 15 ((kK y).af.take k) 2] 167 false),tkO 2],3,λk=>k<=(kK y).af.length,λk=>(kK y).af.length-k⟩)],[],1,[]⟩
def Qp9 (y:Ia.Y):Prop:=vc [Ia.under (λy=>dc (kK y)) (dc (kK y))] f74 Ia Qp8 y
def Ib:br D:=bL 42 (List (List Nd)) QhD o3 (λy=>[.list 9 y]) λy=>.tuple [.agg [.list 8 (bW y).1.1,.list 5 (bW y).1.2],QsE (bW y).2.1,QsE (bW y).2.2]
structure DcX where
 c:List aS
 s:List Int
 r:Nat
def ZJ (y:List (List Nd)) (x:DcX):Prop:=x.r<=y.length/\y.length<=8/\x.c.length<=400/\x.s.length=x.r/\mA (y.drop x.r) x.r x.c x.s=bW y
def Qqa (y:Ib.Y):cO D:=⟨[],[],[(250,⟨DcX,[0],λx=>[(2,.ptr 0 0),(3,.num .i64 0),(4,.num .i64 0),(5,.ptr 1 0),(6,.ptr 2 0),(7,QsE x.r)],[],λx=>[(0,.cells [.dd,.dd] 72 false),(1,.cells [.own 3 4 (ag x.c),.bool false] 174 false),(2,.cells [.dd,.grow 5 x.s 4] 72 false),(3,.arr 8 x.c 149 false),ux 4],5,ZJ y,λx=>y.length-x.r⟩)],[],1,[]⟩
def Uv (y:(List Nd)×Int):Prop:=let a:=kK y;let q1:=a.af;let c:=gt (Nd.mk 0 [] 0 0 false 0 0) y.1 y.2.toNat;let g:=λp:Prop=>aa ([0]:List Int) (aa ([[]]:List (List (Int×Int))) (aa ([0,0]:List Int) p));let h:=λp:Prop=>aa ([0,0]:List Int) (aa ([[]]:List (List ah)) p);let i:=λp:Prop=>aa [a.op] (aa [a.r] (aa [a.mn,a.mx] (aa [a.lz] (aa [a.cap,a.nk] p))));aH 0 y.2/\ay y.2 (ag y.1)/\(∃z:Nat,aa [y.1] (aw .i64 y.2 1=Ni y z/\0=(z:Int)/\c.op=a.op/\c.r=a.r/\c.mn=a.mn/\c.mx=a.mx/\c.lz=a.lz/\c.cap=a.cap/\c.af=a.nk/\[]=List.take z q1/\g (false=false/\h ((Iv (z<=q1.length))))))/\(∀x:Nat,let e:=Ni y x;let b:=kK (y.1,e);let f:=q1.length;let j:=ay (x:Int) a.nk;let d:=bC (List.take x q1) [ah.mk b.op b.r b.mn b.mx b.lz b.cap b.nk b.af];(Iv (x<=f))->ak j (Iv (RdP (y.1,e)/\dc b<dc a)/\aa [y.1] (aa [e] (bx (ag d) 96/\∃z:Nat,aa [y.1] (Uu (y.1,e)=Ni y z/\aw .i64 (x:Int) 1=(z:Int)/\i (d=List.take z q1/\g (false=false/\h ((Iv (z<=f/\(f-z)<(f-x)))))))))) (i (List.take x q1=q1/\e=Uu y/\True)))
def ZK:∀y,Uv y=Qp9 y:=λy=>by kernel_rfl
def Uw (y:List (List Nd)):Prop:=let h:=(bW y).2.2;let q1:=(bW y).2.1;ak (ay 8 (ag y)) ([]=(bW y).1.1/\[]=(bW y).1.2/\13=q1/\8=h/\True) ((∃z:DcX,aa [y] (0=((z.r:Nat):Int)/\[]=z.s/\0=ag z.c/\false=false/\[]=z.c/\(Iv (ZJ y z))))/\(∀x:DcX,let b:=((x.r:Nat):Int);let j:=bC x.s [ag x.c];let e:=gt [] y b.toNat;let a:=kK (e,0);let i:=(bG (df.mk x.c false) (aS.mk 4 0 0 [])).1;let f:=(i,ah.mk a.op a.r a.mn a.mx a.lz a.cap a.nk a.af);let k:=ag (ee f).ab;let g:=(bG (ee f) (aS.mk 4 1 0 [])).1;let d:=(bG g (aS.mk 7 b 0 [])).1;(Iv (ZJ y x))->ak (ay b (ag y)) (aH 0 b/\ay b (ag y)/\Iv (cx e)/\aa [e] (ak (!(dE e)) ([]=(bW y).1.1/\[]=(bW y).1.2/\1=q1/\b=h/\True) (bx (ag j) 8/\aa [x.s] (aa [ag x.c] (aH 0 b/\ay b (ag y)/\Iv (RdP (e,0))/\aa [e] (aa ([0]:List Int) (Iv (x.c.length<=400)/\aa ([4,0,0]:List Int) (aa ([[]]:List (List (Int×Int))) (aa [ag x.c] (false=false/\aa [x.c] (Iv (BX f)/\aa [a.op] (aa [a.r] (aa [a.mn,a.mx] (aa [a.lz] (aa [a.cap,a.nk] (aa [a.af] (aa [ag i.ab] (aa [i.bS] (aa [i.ab] (Iv ((ee f).ab.length<=400)/\aa ([4,1,0]:List Int) (aa ([[]]:List (List (Int×Int))) (aa [k] (aa [(ee f).bS] (aa [(ee f).ab] (Iv (g.ab.length<=400)/\aa ([7,b,0]:List Int) (aa ([[]]:List (List (Int×Int))) (aa [ag g.ab] (aa [g.bS] (aa [g.ab] (ak d.bS ([]=(bW y).1.1/\[]=(bW y).1.2/\12=q1/\b=h/\True) (∃z:DcX,aa [y] (aw .i64 b 1=((z.r:Nat):Int)/\j=z.s/\ag d.ab=ag z.c/\d.bS=false/\d.ab=z.c/\(Iv (ZJ y z/\(y.length-z.r)<(y.length-x.r))))))))))))))))))))))))))))))))))) (x.c=(bW y).1.1/\x.s=(bW y).1.2/\0=q1/\0=h/\True)))
theorem BZ {l r:List Nd} {a:Nat} {t:ah} (h:j3 t) (e:l.drop a=aD t++r):kK (l,(a:Int))=t:=by
 grind [kK,jQ]
theorem Qqc (y:List Nd×Int) (s:Ia.pre y):Uv y:=by
 obtain⟨l,i⟩:=y;obtain⟨h0,h1,t,r,m,d⟩:=s;obtain⟨a,rfl⟩:=Zau h0;simp only[Zad] at h1 d;have j:=BZ m d;have f:∀i t,kK (l,i)=t->Uu (l,i)=i+(aD t).length:=λi t h=>by grind [Uu,aI]
 have n:∀k,Ni (l,(a:Int)) k=((fu t a k:Nat):Int):=λk=>by grind [Ni,fu,aI]
 obtain⟨w,u,z⟩:=pI d;have wf:=(iq t).mp m;have q:=Ev t.af;have o:(aD t).length=(aA t.af).length+1:=by rw[bQ];simp
 unfold Uv;have p:gt (Nd.mk 0 [] 0 0 false 0 0) l a=⟨t.op,t.r,t.mn,t.mx,t.lz,t.cap,t.af.length⟩:=u;simp only[j,f _ _ j,n,Zad,p];simp only[bH,km,gk,oG,av,a7,bm,bO];refine⟨ω,ω,⟨0,by grind [j5],rfl,wf.2.1.symm,rfl,Zaj _⟩,λx v=>⟨λe=>?_,λe=>?_⟩⟩
 ·rw[wf.2.1] at e;have c:x<t.af.length:=ω;have hk:=vb d c;have b:=wf.2.2.mem c;have g:=BZ (a:=fu t a x) b hk;rw[f _ _ g,g];refine⟨⟨⟨ω,h1,_,_,b,by assumption⟩,im c⟩,?_,x+1,by grind [Ak],bK ω,(cg bA c).symm,ω,ω⟩;grind
 ·grind [fu]
def Qiu:Ok Ia:=Ob (λy=>dc (kK y)) ZK trivial Qqc
theorem ZM {t:ah} (h:j3 t) (r:Nat):Fit (λs=>(bG (bG (iE t (bG s ⟨4,0,0,[]⟩).1) ⟨4,1,0,[]⟩).1 ⟨7,r,0,[]⟩).1) (pT t r) (bp t+3):=by
 have F:=(((lu ⟨4,0,0,[]⟩).then (Ut t h)).then (lu ⟨4,1,0,[]⟩)).then (lu ⟨7,r,0,[]⟩);rw[show 1+bp t+1+1=bp t+3 by omega] at F;have:(λn=>[(⟨4,0,0,[]⟩:aS)]++bP t (n+1)++[⟨4,1,0,[]⟩]++[⟨7,(r:Int),0,[]⟩])=pT t r:=funext λn=>by grind [pT]
 grind
theorem Qqd (y:List (List Nd)) (o:Ib.pre y):Uw y:=by
 obtain⟨h1,k⟩:y.length<=1000000/\∀l∈y,∀x∈l,ik x:=o;have f:bW y=Hv y:=by grind [bW,aI]
 have j:∀s t,ee (s,t)=iE t s:=λs t=>by grind [ee,aI]
 unfold Uw;simp only[bI,bH,av,cS,bm,Zad,a7,Zan,Zao,bO,j];unfold Hv at f;refine⟨λe=>?_,λe=>?_⟩
 ·grind
 ·rw[Zaa ω] at f;refine⟨⟨⟨[],[],0⟩,rfl,rfl,rfl,rfl,Zaj _,ω,Zaj _,rfl,f.symm⟩,λx i=>?_⟩;obtain⟨c,s,r⟩:=x;obtain⟨i1,i2,i3,i4,i5⟩:=i;simp only at i1 i3 i4 i5 ⊢;refine⟨λe2=>?_,λe2=>?_⟩
  ·have v:r<y.length:=ω;have n:y.drop r=y.getD r []::y.drop (r+1):=by simp_all
   have b:cx (y.getD r []):=k _ (by grind);rw[n,mA] at i5;generalize y.getD r []=l at*
   refine⟨ω,e2,b,λh=>?_,λh=>?_⟩
   ·grind
   ·rw[Zaa (by grind)] at i5;obtain⟨t,d,w,u⟩:=iU h;have h0:l.drop 0=aD t++[]:=by grind
    have ht:qJ l=t:=by
     grind [jQ,qJ]
    have m:kK (l,0)=t:=BZ (a:=0) d h0;rw[ht] at i5;rw[m];have hl:(aD t).length<=480:=by grind
    have hw:E9 t:=⟨⟨ω,λx i=>b x (by grind)⟩,d⟩;have F:=ZM d r;have p1:=(eB ⟨c,false⟩ ⟨4,0,0,[]⟩).1;have p:=lq t (bG ⟨c,false⟩ ⟨4,0,0,[]⟩).1;have q1:=(eB (iE t (bG ⟨c,false⟩ ⟨4,0,0,[]⟩).1) ⟨4,1,0,[]⟩).1;have m1:=p1.max i3;have m2:=p.max m1;refine⟨by grind,ω,e2,⟨ZaQ _,u,t,[],d,h0⟩,i3,⟨m1,hw⟩,m2,q1.max m2,λq=>?_,λq=>?_⟩
    ·by_cases g:c.length+(bp t+3)<=400
     ·have:=F.ok c g;grind
     ·grind
    ·by_cases g:c.length+(bp t+3)<=400
     ·have hk:=F.ok c g;rw[Zaa ω] at i5;rw[hk];refine⟨⟨c++pT t r c.length,s++[(c.length:Int)],r+1⟩,bK ω,rfl,rfl,rfl,rfl,⟨by assumption,i2,by simp only[Zab,F.len];omega,by simp[i4],i5⟩,by grind⟩
     ·have:=F.no c i3 ω;grind
  ·grind [mA]
def Qiv:Ok Ib:=okZ [Mz,Ia,yF,H_] f42 Qqa ⟨QaL sT,Qiu,Kn,Qp6 .n⟩ Qqd
def ZN:br D:=bL 41 (List Nd) X_ nM (λy=>[.list 7 y]) λy=>.list 7 (lk (cJ y))
def ruO (n:Nat) (y:cG) (l:LdR):Nat×AO D.E:=(n,.cells [.list 3 y.r,.str y.c,.list 8 l.ab,.list 5 l.st,.list 8 l.cc,.list 5 l.cs,.bool (!seq y.c [])] 74 false)
def yG:br D:=⟨13,cG×Bool,BO nV,pU,λy=>[Eo y.1],λ_=>[],
 λy=>match y.2 with
  | true=>.tuple [.ptr 0 0,QsE 0,QsE 0]
  | false=>.tuple [.gy,QsE (b5 y.1).aq,QsE (b5 y.1).at_],
 λy=>match y.2 with
  | true=>[ruO 0 y.1 (b5 y.1)]
  | false=>[],0,1⟩
def dsO (y:cG):Nat×AO D.E:=(0,.cells [.list 3 y.r,.str y.c] 24 false)
def nz (y:cG) (x:List (List Nd)×Nat):Prop:=y.r.length<=8/\∃t,(∀k,jt t k=(y.r.take x.2).any λp=>decide (p.name=k))/\xx y ⟨t,x.1,x.2⟩
def ti (y:cG):List Nd:=lk (if y.c≠[] then cJ (b_ y.c).1 else[])
def Qix (y:yG.Y):cO D:=⟨[],[],[(250,⟨List (List Nd)×Nat,[5],λx=>[(1,.ptr 0 0),(6,.grow 9 x.1 1),(7,QsE x.2)],[],λ_=>[dsO y.1,(1,.tok 9 99)],2,nz y.1,λx=>y.1.r.length-x.2⟩)],
 [(1023,⟨Unit,[5],λ_=>[(1,.ptr 0 0),(6,.list 9 (bn y.1).out),(13,.ptr 1 0),(14,.list 7 (ti y.1))],[],λ_=>[dsO y.1,ruO 1 y.1 (Ki 0 0)],2,λ_=>(bn y.1).aq=0/\y.1.r.length<=8/\(y.1.c≠[]->(b_ y.1.c).2.1=0),λ_=>0⟩)],1,
 [(128154,⟨List (List Nd)×Nat,λx=>{ X:=Nat,aN:=[5,7],sl:=λk=>[(1,.ptr 0 0),(6,.grow 9 x.1 1),(8,.ptr 2 0),(9,QsE k)],kp:=[],pc:=λ_=>[dsO y.1,(1,.tok 9 99),(2,.cells [.str (y.1.r.getD x.2 ⟨[],[]⟩).name,.str (y.1.r.getD x.2 ⟨[],[]⟩).text] 56 false)],nx:=3,inv:=λk=>k<=x.2/\x.2<y.1.r.length/\nz y.1 x/\∀j,j<k->(y.1.r.getD j ⟨[],[]⟩).name≠(y.1.r.getD x.2 ⟨[],[]⟩).name,me:=λk=>x.2-k },none⟩)]⟩
structure ZO where
 n:Int
 lo:Int
 hi:Int
def uD (y:ZO):Int:=y.lo+(if Int.tmod y.n (y.hi-y.lo+1)<0 then Int.tmod y.n (y.hi-y.lo+1)+(y.hi-y.lo+1) else Int.tmod y.n (y.hi-y.lo+1))
def Ux (y:ZO):Prop:=0<=y.lo/\y.lo<=y.hi/\y.hi<=1000000000000
def Uy:br D:=bL 9 ZO (λa _=>match a with
 | [n,l,h]=>aL (cA n) λ_ n=>aL (cA l) λ_ l=>aL (cA h) λ_ h=>.ret ⟨n,l,h⟩
 | _=>.fail) Ux (λy=>[QsE y.n,QsE y.lo,QsE y.hi]) λy=>QsE (uD y)
structure ye where
 l:List l8
 dM:Int
def pW:l8:=⟨[],0,false⟩
def xJ (dM:Int) (p:By):Nat->By->By
 | 0,b=>b
 | k+1,b=>if (b.length:Int)<dM then xJ dM p k (b++p) else b
def Nj (r:l8):Int:=uD ⟨r.times,0,60⟩
def txB (dM:Int) (r:l8) (b:By):By:=xJ dM r.piece (Nj r).toNat b
def txR (dM:Int) (r:l8) (b:By):By:=if r.ea=true then txB dM r b else txB dM r b++[10]
def iK (dM:Int) (l:List l8):Nat->By
 | 0=>[]
 | k+1=>txR dM (l.getD k pW) (iK dM l k)
def Nk (y:ye):By:=(iK y.dM y.l y.l.length).take y.dM.toNat
def Nl (y:ye):Prop:=0<=y.dM/\y.dM<=100000/\y.l.length<=1000000000000/\∀r∈y.l,r.piece.length<=1000000000000
def Uz:br D:=bL 5 ye (λa s=>match a with
 | [l,m]=>az (aU D s 19 l) λl=>aL (cA m) λ_ m=>.ret ⟨l,m⟩
 | _=>.fail) Nl (λy=>[.list 19 y.l,QsE y.dM]) λy=>.list 0 (Nk y)
def Qqg (y:Uz.Y):cO D:=⟨[],[],[(58,⟨Nat,[0,1],λk=>[(5,.grow 0 (iK (ye.dM y) (ye.l y) k) 0),(6,QsE k)],[],λ_=>[(0,.tok 0 5)],1,λk=>k<=(ye.l y).length,λk=>(ye.l y).length-k⟩)],[],1,
 [(14922,⟨Nat,λi=>⟨Nat×By,[0,1,6,7],λx=>[(5,.grow 0 x.2 0),(8,QsE x.1)],[],λ_=>[(0,.tok 0 5)],1,λx=>x.1<=(Nj ((ye.l y).getD i pW)).toNat/\x.2.length<=i+1000000100000/\xJ (ye.dM y) ((ye.l y).getD i pW).piece ((Nj ((ye.l y).getD i pW)).toNat-x.1) x.2=txB (ye.dM y) ((ye.l y).getD i pW) (iK (ye.dM y) (ye.l y) i),λx=>(Nj ((ye.l y).getD i pW)).toNat-x.1⟩,none⟩)]⟩
def iF (y:cG):cG:=⟨if 3<y.r.length then y.r.take 3 else y.r,y.c⟩
def xK (y:cG):Bool:=nV (iF y)
def UA (y:cG×Bool):Prop:=y.2=xK y.1
def nX (y:cG):lG:=lk ⟨iF y,⟨(b5 (iF y)).ab,(b5 (iF y)).st⟩,⟨(b5 (iF y)).cc,(b5 (iF y)).cs⟩,(bn (iF y)).tab⟩
def Nn:br D:=⟨4,cG×Bool,BO xK,UA,λy=>[Eo y.1],λ_=>[],
 λy=>match y.2 with
  | true=>.tuple [.ptr 0 0,.ptr 3 0,.lit true]
  | false=>.tuple [.gy,.gy,.lit true],
 λy=>match y.2 with
  | true=>Wa (nX y.1)++[ruO 3 (iF y.1) (b5 (iF y.1))]
  | false=>[],0,4⟩
def QiB (y:Nn.Y):cO D:=⟨[],[],[],[(3,⟨Unit,[],λ_=>[(1,.ptr 0 0)],[],λ_=>[(0,.cells [.list 3 (iF y.1).r,.str y.1.c] 24 false)],1,λ_=>True,λ_=>0⟩)],1,[]⟩
def QdE:br D:=bL 6 Unit (λ_ _=>.ret ()) (λ_=>True) (λ_=>[]) λ_=>.lit true
def Qa2 (y:ZO):Prop:=let a:=aw .i64 (cF .i64 y.hi y.lo) 1;let q1:=QbT y.n a;(!(aC a 0))/\ak (ay q1 0) (aw .i64 y.lo (aw .i64 (cF .i64 (aw .i64 q1 y.hi) y.lo) 1)=uD y/\True) (aw .i64 y.lo q1=uD y/\True)
def UB (y:ye):Prop:=let c:=y.l.length;let q1:=ag y.l;let q:=λp:Prop=>RAM y.l y.dM p;(∃z:Nat,q ([]=iK y.dM y.l z/\0=(z:Int)/\(Iv (z<=c))))/\(∀x:Nat,let j:=iK y.dM y.l x;let s:=ay y.dM (ag j);let k:=gt (l8.mk [] 0 false) y.l (x:Int).toNat;let o:=ZO.mk k.times 0 60;let r:=λp:Prop=>RAP y.l y.dM (x:Int) (uD o) p;(Iv (x<=c))->ak (ay (x:Int) q1) (aH 0 (x:Int)/\ay (x:Int) q1/\Iv (Ux o)/\aa ([k.times,0,60]:List Int) (∃z:Nat,let e:=List.getD y.l z pW;let d:=(Nj e).toNat;(∃a:Nat×(List UInt8),r (j=a.2/\0=(a.1:Int)/\(Iv (a.1<=d/\a.2.length<=(z+1000000100000)/\xJ y.dM e.piece (d-a.1) a.2=txB y.dM e (iK y.dM y.l z)))))/\(∀b:Nat×(List UInt8),let m:=ay (ag b.2) y.dM;let f:=txB y.dM e (iK y.dM y.l z);let g:=bC b.2 [b8 10];let h:=bC b.2 k.piece;let n:=ay (b.1:Int) (uD o);let i:Prop:=(aH 0 (x:Int)/\ay (x:Int) q1/\ak (!k.ea) (bx (ag g) 1/\∃a:Nat,q (g=iK y.dM y.l a/\aw .i64 (x:Int) 1=(a:Int)/\(Iv (a<=c/\(c-a)<(c-x))))) (∃a:Nat,q (b.2=iK y.dM y.l a/\aw .i64 (x:Int) 1=(a:Int)/\(Iv (a<=c/\(c-a)<(c-x))))));(Iv (b.1<=d/\b.2.length<=(z+1000000100000)/\xJ y.dM e.piece (d-b.1) b.2=f))->ak n (ak m (aH 0 (x:Int)/\ay (x:Int) q1/\bx (ag h) 1/\∃a:Nat×(List UInt8),r (h=a.2/\aw .i64 (b.1:Int) 1=(a.1:Int)/\(Iv ((a.1<=d/\a.2.length<=(z+1000000100000)/\xJ y.dM e.piece (d-a.1) a.2=f)/\(d-a.1)<(d-b.1))))) (i)) (i)))) (ak s (aH 0 y.dM/\aH y.dM (ag j)/\dj j y.dM=Nk y/\True) (j=Nk y/\True)))
def Ic (y:cG):Prop:=let e:=b5 (iF y);let q1:=ite (3<y.r.length) (List.take 3 y.r) y.r;let a:=cG.mk q1 y.c;let b:=b5 a;let f:=aC b.aq b.aq;let d:=λp:Prop=>RAM q1 y.c p;(ak (ay 3 (ag y.r)) (Tt 1 (aH 3 (ag y.r)/\∃z:Unit,dj y.r 3=q1/\RAL y.c ((Iv True)))) (∃z:Unit,y.r=q1/\RAL y.c ((Iv True))))/\(∀x:Unit,(Iv True)->ak (nV a) (Iv (pU (a,true))/\d (ak (nV a) (Iv (pU (a,true))/\d (ak (aC 0 0) (d (b.ab=e.ab/\b.st=e.st/\b.cc=e.cc/\b.cs=e.cs/\aa [!(seq y.c [])] (q1=(nX y).s.r/\y.c=(nX y).s.c/\b.ab=(nX y).p.ab/\b.st=(nX y).p.aj/\b.cc=(nX y).q.ab/\b.cs=(nX y).q.aj/\ag (bn a).tab=ag (nX y).t/\(bn a).tab=(nX y).t/\True))) (False))) (Iv (pU (a,false))/\d (ak (aC 0 b.aq) (False) (False))))) (Iv (pU (a,false))/\d (ak (nV a) (Iv (pU (a,true))/\d (ak (aC b.aq 0) (False) (False))) (Iv (pU (a,false))/\d (ak f (False) (False))))))
def Ie (y:cG):Prop:=let b:=ite (3<y.r.length) (List.take 3 y.r) y.r;let q1:=cG.mk b y.c;let d:=aC 0 (b5 q1).aq;let e:=aC (b5 q1).aq 0;let f:=aC (b5 q1).aq (b5 q1).aq;let a:=λp:Prop=>RAM b y.c p;(ak (ay 3 (ag y.r)) (Tt 1 (aH 3 (ag y.r)/\∃z:Unit,dj y.r 3=b/\RAL y.c ((Iv True)))) (∃z:Unit,y.r=b/\RAL y.c ((Iv True))))/\(∀x:Unit,(Iv True)->ak (nV q1) (Iv (pU (q1,true))/\a (ak (nV q1) (Iv (pU (q1,true))/\a (ak (aC 0 0) (False) (False))) (Iv (pU (q1,false))/\a (ak d (False) (False))))) (Iv (pU (q1,false))/\a (ak (nV q1) (Iv (pU (q1,true))/\a (ak e (False) (False))) (Iv (pU (q1,false))/\a (ak f (True) (False))))))
def If (y:cG):Prop:=let i:=bW (bn y).out;let q1:=y.r.length;let e:=ag y.r;let m:=!(seq y.c []);let n:=([ti y]:List (List Nd));let t:=(b_ y.c).1;let w:=!(aC (b_ y.c).2.1 0);let A:=!(aC (bW n).2.1 0);let v:=λp:Prop=>RAB (RA3 y p);let u:=λp:Prop=>RA3 y p;let B:=Iv ((bn y).aq=0/\q1<=8/\((Ne (y,true).1.c [])->(b_ y.c).2.1=0));let k:Prop:=(RA3 y (RAE (RAF (RAE (RAF (RAL m (RA3 y (B))))))));let F:=λj:Nat=>List.getD y.r j (qd.mk [] []);ak (ay 8 e) (False) ((∃z:(List (List Nd))×Nat,RAL e ([]=z.1/\0=(z.2:Int)/\u ((Iv (nz y z)))))/\(∀x:(List (List Nd))×Nat,let b:=(x.2:Int);let g:=gt (qd.mk [] []) y.r b.toNat;(Iv (nz y x))->ak (ay b e) (aH 0 b/\ay b e/\Iv True/\RAL g.name (ak (!(iD g.name)) (False) (∃z:(List (List Nd))×Nat,let a:=List.getD y.r z.2 (qd.mk [] []);let h:=(b_ a.text).1;let o:=!(aC (b_ a.text).2.1 0);let l:=bC z.1 [lk (cJ h)];(∃d:Nat,aa [e,b] (x.1=z.1/\0=(d:Int)/\g.name=a.name/\g.text=a.text/\u ((Iv (d<=z.2/\z.2<q1/\nz y z/\(∀j:Nat,(Nat.le (Nat.succ j) d)->Ne (F j).name a.name))))))/\(∀f:Nat,let q:=ay (f:Int) b;let s:=seq (gt (qd.mk [] []) y.r (f:Int).toNat).name a.name;(Iv (f<=z.2/\z.2<q1/\nz y z/\(∀j:Nat,(Nat.le (Nat.succ j) f)->Ne (F j).name a.name)))->ak q (aH 0 (f:Int)/\ay (f:Int) e/\aa [y.r] (aa [(gt (qd.mk [] []) y.r (f:Int).toNat).name,a.name] (ak s (False) (∃d:Nat,aa [e,b] (aa [z.1] (aw .i64 (f:Int) 1=(d:Int)/\aa [a.name,a.text] (aa [y.r] (aa [y.c] ((Iv ((d<=z.2/\z.2<q1/\nz y z/\(∀j:Nat,(Nat.le (Nat.succ j) d)->Ne (F j).name a.name))/\(z.2-d)<(z.2-f)))))))))))) (Iv True/\aa [a.text] (ak o (False) (Iv (nM h)/\aa [h] (bx (ag l) 24/\∃d:(List (List Nd))×Nat,aa [e] (l=d.1/\aw .i64 b 1=(d.2:Int)/\u ((Iv (nz y d/\(q1-d.2)<(q1-x.2))))))))))))) (bx e 32/\RAL y.r ((ak m (Iv True/\aa [y.c] (ak w (False) (Iv (nM t)/\aa [t] (∃z:Unit,aa [e] (x.1=(bn y).out/\lk (cJ t)=ti y/\k))))) (∃z:Unit,aa [e] (x.1=(bn y).out/\[]=ti y/\k)))/\(∀f:Unit,B->Iv (o3 (bn y).out)/\aa [(bn y).out] (ak (!(aC i.2.1 0)) (False) (ak m (Iv (o3 n)/\aa [n] (ak A (False) (v (i.1.1=(b5 y).ab/\i.1.2=(b5 y).st/\(bW n).1.1=(b5 y).cc/\(bW n).1.2=(b5 y).cs/\aa [m] (True))))) (v (i.1.1=(b5 y).ab/\i.1.2=(b5 y).st/\[]=(b5 y).cc/\[]=(b5 y).cs/\aa [m] (True))))))))))
def Ig (y:cG):Prop:=let d:=ag y.r;let q1:=y.r.length;let q:=!(seq y.c []);let l:=([ti y]:List (List Nd));let s:=(b_ y.c).1;let m:=(b_ y.c).2.1;let t:=(bW (bn y).out).2;let w:=!(aC (bW l).2.1 0);let u:=λp:Prop=>RA3 y p;let A:=Iv ((bn y).aq=0/\q1<=8/\((Ne (y,false).1.c [])->m=0));let v:Prop:=(RA3 y (RAE (RAF (RAE (RAF (RAL q (RA3 y (A))))))));let B:=λj:Nat=>List.getD y.r j (qd.mk [] []);ak (ay 8 d) (13=(b5 y).aq/\8=(b5 y).at_/\True) ((∃z:(List (List Nd))×Nat,RAL d ([]=z.1/\0=(z.2:Int)/\u ((Iv (nz y z)))))/\(∀x:(List (List Nd))×Nat,let b:=(x.2:Int);let g:=gt (qd.mk [] []) y.r b.toNat;(Iv (nz y x))->ak (ay b d) (aH 0 b/\ay b d/\Iv True/\RAL g.name (ak (!(iD g.name)) (14=(b5 y).aq/\b=(b5 y).at_/\True) (∃z:(List (List Nd))×Nat,let a:=List.getD y.r z.2 (qd.mk [] []);let h:=(b_ a.text).1;let i:=(b_ a.text).2.1;let k:=bC z.1 [lk (cJ h)];(∃e:Nat,aa [d,b] (x.1=z.1/\0=(e:Int)/\g.name=a.name/\g.text=a.text/\u ((Iv (e<=z.2/\z.2<q1/\nz y z/\(∀j:Nat,(Nat.le (Nat.succ j) e)->Ne (B j).name a.name))))))/\(∀f:Nat,let n:=ay (f:Int) b;let o:=seq (gt (qd.mk [] []) y.r (f:Int).toNat).name a.name;(Iv (f<=z.2/\z.2<q1/\nz y z/\(∀j:Nat,(Nat.le (Nat.succ j) f)->Ne (B j).name a.name)))->ak n (aH 0 (f:Int)/\ay (f:Int) d/\aa [y.r] (aa [(gt (qd.mk [] []) y.r (f:Int).toNat).name,a.name] (ak o (8=(b5 y).aq/\b=(b5 y).at_/\True) (∃e:Nat,aa [d,b] (aa [z.1] (aw .i64 (f:Int) 1=(e:Int)/\aa [a.name,a.text] (aa [y.r] (aa [y.c] ((Iv ((e<=z.2/\z.2<q1/\nz y z/\(∀j:Nat,(Nat.le (Nat.succ j) e)->Ne (B j).name a.name))/\(z.2-e)<(z.2-f)))))))))))) (Iv True/\aa [a.text] (ak (!(aC i 0)) (i=(b5 y).aq/\b=(b5 y).at_/\True) (Iv (nM h)/\aa [h] (bx (ag k) 24/\∃e:(List (List Nd))×Nat,aa [d] (k=e.1/\aw .i64 b 1=(e.2:Int)/\u ((Iv (nz y e/\(q1-e.2)<(q1-x.2))))))))))))) (bx d 32/\RAL y.r ((ak q (Iv True/\aa [y.c] (ak (!(aC m 0)) (m=(b5 y).aq/\d=(b5 y).at_/\True) (Iv (nM s)/\aa [s] (∃z:Unit,aa [d] (x.1=(bn y).out/\lk (cJ s)=ti y/\v))))) (∃z:Unit,aa [d] (x.1=(bn y).out/\[]=ti y/\v)))/\(∀f:Unit,A->Iv (o3 (bn y).out)/\aa [(bn y).out] (ak (!(aC t.1 0)) (t.1=(b5 y).aq/\t.2=(b5 y).at_/\True) (ak q (Iv (o3 l)/\aa [l] (ak w ((bW l).2.1=(b5 y).aq/\d=(b5 y).at_/\True) (False))) (False))))))))
abbrev o5:qd:=⟨[],[]⟩
variable {B Z:Nat} {v:Int} {Y:Nat->List aS}
theorem ZR {t:List Row} {n:By} (h:jt t n=false) (k:By):jt (qK t n v) k=(jt t k||decide (n=k)):=by
 grind [Kl,jt,List.take_append_drop]
theorem EB {y:cG} {x:List (List Nd)×Nat} (h:nz y x) (m:x.2<y.r.length):
  (iD (y.r.getD x.2 o5).name=false->(bn y).aq=14/\(bn y).at_=x.2)/\
  (iD (y.r.getD x.2 o5).name->(∃j,j<x.2/\(y.r.getD j o5).name=(y.r.getD x.2 o5).name)->(bn y).aq=8/\(bn y).at_=x.2)/\
  (iD (y.r.getD x.2 o5).name->(∀j,j<x.2->(y.r.getD j o5).name≠(y.r.getD x.2 o5).name)->((b_ (y.r.getD x.2 o5).text).2.1≠0->(bn y).aq=(b_ (y.r.getD x.2 o5).text).2.1/\(bn y).at_=x.2)/\
   ((b_ (y.r.getD x.2 o5).text).2.1=0->nz y (x.1++[cJ (b_ (y.r.getD x.2 o5).text).1],x.2+1))):=by
 obtain⟨h1,t,f,g⟩:=h;obtain⟨c,d,s3⟩:=xB g m;simp only at c d s3;have ht:∀k,jt t k↔∃j,j<x.2/\(y.r.getD j o5).name=k:=λk=>by
  rw[f,ZcT];constructor
  ·rintro⟨p,l,e⟩;obtain⟨j,b,rfl⟩:=Za3 l;rw[Zar] at b;refine⟨j,ω,?_⟩;grind
  ·rintro⟨j,b,e⟩;rw[eo ω] at e;exact⟨y.r[j],List.mem_iff_getElem.mpr ⟨j,by grind,by grind⟩,by grind⟩
 refine⟨c,λa e2=>d a ((ht _).mpr e2),λa e2=>?_⟩;have i:jt t (y.r.getD x.2 o5).name=false:=by
  grind
 obtain⟨n,o⟩:=s3 a i;refine⟨n,λe=>⟨h1,_,λk=>?_,o e⟩⟩;grind [ZR,cg]
theorem QiE (y:cG) (b:Bool) (O:yG.pre (y,b)):(b->If y)/\(b=false->Ig y):=by
 obtain⟨hl,S⟩:y.r.length<=1000/\b=nV y:=O;have I:b5 y=iV y:=by grind [b5,aI]
 have C:y.c≠[]->ti y=cJ (b_ y.c).1:=λh=>by grind [ti,aI]
 have z:y.c=[]->ti y=[]:=λh=>by grind [ti,aI]
 have E:b↔(iV y).aq=0:=by grind [nV]
 have J:∀{s:By},seq s []=false↔s≠[]:=λ{s}=>by grind
 obtain⟨Q,U⟩:(∀x∈(bn y).out,cx x)/\(bn y).out.length<=y.r.length:=by
  grind [ve,bn,aI]
 have L:o3 (bn y).out:=⟨ω,Q⟩;have P:cx (ti y):=by
  by_cases h:y.c=[]
  ·grind [eA]
  ·grind [vd,lH]
 have H:o3 [ti y]:=⟨by simp,λl hl=>by rw[List.mem_singleton.mp hl];exact P⟩;have G:8<y.r.length->iV y=Ki 13 8:=λh=>by grind [iV]
 have hz:y.r.length<=8->nz y ([],0):=λh=>⟨h,[],λk=>rfl,Zaj _,List.Pairwise.nil,Zah _,rfl,by grind [bn,aI]⟩
 have p:∀x:List (List Nd)×Nat,nz y x->¬x.2<y.r.length->x.1=(bn y).out/\(bn y).aq=0:=λx f e=>by
  obtain⟨_,t,_,i1,_,_,_,i5⟩:=f;grind [mB]
 have hlen:∀x:List (List Nd)×Nat,nz y x->x.1.length=x.2:=λx f=>by
  obtain⟨_,t,_,_,_,_,i4,_⟩:=f;exact i4
 have K:∀n,gt (qd.mk [] []) y.r n=y.r.getD n o5:=λ_=>rfl
 have A:∀n,y.r.getD n (qd.mk [] [])=y.r.getD n o5:=λ_=>rfl
 constructor
 ·intro N;have h0:=E.mp N;unfold If;rw[I];simp only[bI,bH,av,a7,bm,wL,J,K,A,Zad,Zan,Zao,aI,ZaY,ZaZ];refine⟨λD=>?_,λD=>⟨⟨([],0),rfl,rfl,hz ω⟩,λx f=>⟨λe=>?_,λe=>?_⟩⟩⟩
  ·rw[G ω] at h0;cases h0
  ·have w:x.2<y.r.length:=ω;obtain⟨M,F,s3⟩:=EB f w;have V:(bn y).aq=0:=Zch λh=>by rw[T5 ω h] at h0;exact h h0
   refine⟨ω,e,λq=>?_,λq=>⟨x,⟨0,rfl,rfl,rfl,rfl,Zaj _,w,f,λj g=>absurd g (Zbo _)⟩,λk hk=>?_⟩⟩
   ·grind
   ·obtain⟨k1,k2,k3,k4⟩:=hk;refine⟨λek=>⟨ω,ω,λi=>?_,λi=>⟨k+1,bK ω,⟨ω,w,f,λj g=>?_⟩,ω⟩⟩,λek=>⟨λi=>?_,λi=>⟨lH _,?_,(x.1++[cJ (b_ (y.r.getD x.2 o5).text).1],x.2+1),rfl,bK ω,?_,show y.r.length-(x.2+1)<y.r.length-x.2 by omega⟩⟩⟩
    ·have:=(F q ⟨k,ω,i⟩).1;omega
    ·grind
    ·grind
    ·grind
    ·grind
  ·obtain⟨B,m⟩:=p x f ω;refine⟨ω,⟨λd=>⟨λu=>?_,λu=>⟨lH _,B,(C d).symm,m,ω,λ_=>u⟩⟩,λd=>⟨B,(z d).symm,m,ω,λh=>absurd d h⟩⟩,λg=>⟨L,λv=>?_,λv=>⟨λd=>⟨H,λo=>?_,λo=>?_⟩,λd=>?_⟩⟩⟩
   ·rw[T6 ω m d u] at h0;exact u h0
   ·rw[T7 ω m g.2.2 v] at h0;exact v h0
   ·rw[C d] at o;rw[T8 ω m g.2.2 v d o] at h0;exact o h0
   ·grind [T9]
   ·grind [T_]
 ·intro R;have h0:(iV y).aq≠0:=λh=>by grind
  unfold Ig;rw[I];simp only[bI,bH,av,a7,bm,wL,J,K,A,Zad,Zan,Zao,aI,ZaY,ZaZ];have aq:∀{e a:Int},y.r.length<=8->(bn y).aq=e/\(bn y).at_=a->e≠0->e=(iV y).aq/\a=(iV y).at_:=λD h T=>by
   rw[T5 ω ω,h.1,h.2];exact⟨rfl,rfl⟩
  refine⟨λD=>?_,λD=>⟨⟨([],0),rfl,rfl,hz ω⟩,λx f=>⟨λe=>?_,λe=>?_⟩⟩⟩
  ·rw[G ω];exact⟨rfl,rfl⟩
  ·have w:x.2<y.r.length:=ω;obtain⟨M,F,s3⟩:=EB f w;refine⟨ω,e,λq=>aq ω (M q) (by decide),λq=>⟨x,⟨0,rfl,rfl,rfl,rfl,Zaj _,w,f,λj g=>absurd g (Zbo _)⟩,λk hk=>?_⟩⟩;obtain⟨k1,k2,k3,k4⟩:=hk;refine⟨λek=>⟨ω,ω,λi=>aq ω (F q ⟨k,ω,i⟩) (by decide),λi=>⟨k+1,bK ω,⟨ω,w,f,λj g=>?_⟩,ω⟩⟩,λek=>⟨λi=>aq ω ((s3 q λj g=>k4 j (show j<k by omega)).1 i) i,λi=>⟨lH _,?_,(x.1++[cJ (b_ (y.r.getD x.2 o5).text).1],x.2+1),rfl,bK ω,?_,show y.r.length-(x.2+1)<y.r.length-x.2 by omega⟩⟩⟩
   ·grind
   ·grind
   ·grind
  ·obtain⟨B,m⟩:=p x f ω;refine⟨ω,⟨λd=>⟨λu=>?_,λu=>⟨lH _,B,(C d).symm,m,ω,λ_=>u⟩⟩,λd=>⟨B,(z d).symm,m,ω,λh=>absurd d h⟩⟩,λg=>⟨L,λv=>?_,λv=>⟨λd=>⟨H,λo=>?_,λo=>?_⟩,λd=>?_⟩⟩⟩
   ·rw[T6 ω m d u];exact⟨rfl,rfl⟩
   ·rw[T7 ω m g.2.2 v];exact⟨rfl,rfl⟩
   ·rw[C d] at o ⊢;rw[T8 ω m g.2.2 v d o];exact⟨rfl,rfl⟩
   ·grind [T9]
   ·grind [T_]
def QiF (hs:Ok ZN):Ok yG:=QsR (k:=yG) (T:=If) (F:=Ig) [MZ,Hc,ZN,Ib] f13 Qix id id (λ_=>rfl) ⟨QhK,Qg5 QcE (Gq sT) (QcH sT),hs,Qiv⟩ (λy a=>(QiE y true a).1 rfl) λy a=>(QiE y false a).2 rfl
def EC (n:Int) {m:Int} (h:0<m): -m<Int.tmod n m/\Int.tmod n m<m:=by
 have h1:=Int.tmod_lt_of_pos n h;have a:=Int.tmod_lt_of_pos (-n) h;rw[Int.neg_tmod] at a;omega
theorem ZS {y:ZO} (h:Ux y):y.lo<=uD y/\uD y<=y.hi:=by
 obtain⟨h1,a,b⟩:=h;have:=EC y.n (m:=y.hi-y.lo+1) ω;grind [uD]
theorem Qa3:Ok Uy:=okZ (V:=Qa2) [] Tryz.f9 (λ_=>ew ()) trivial λ(y:ZO) b=>by
 obtain⟨h1,c,d⟩:=b;have:=EC y.n (m:=y.hi-y.lo+1) ω;unfold Qa2;simp only[lF,Zai,gk,oG,Zan,l9];rw[sQ (a:=y.hi) ω ω,ba (a:=y.hi-y.lo) ω ω];grind [QbT,uD]
theorem ED {p:By} (a:v+p.length<=B):∀(k:Nat) (b:By),b.length<=B->(xJ v p k b).length<=B
 | 0,b,h=>h
 | k+1,b,h=>by
  rw[xJ];split
  ·exact ED a k _ (by grind)
  ·exact h
theorem ZT (r:l8):0<=Nj r/\Nj r<=60:=ZS (y:=⟨r.times,0,60⟩) ⟨by grind,by grind,by grind⟩
theorem Aq {y:ye} (h:Nl y):∀k,k<=y.l.length->(iK y.dM y.l k).length<=k+1000000100000
 | 0,_=>Zaj _
 | k+1,hk=>by
  have i:=Aq h k ω;obtain⟨h1,a,b,c⟩:=h;have e:(y.l.getD k pW).piece.length<=1000000000000:=by
   grind
  have d:(txB y.dM (y.l.getD k pW) (iK y.dM y.l k)).length<=k+1000000100000:=ED ω _ _ i;grind [iK,txR]
theorem Qqi (y:ye) (g:Nl y):UB y:=by
 have hlen:=Aq g;obtain⟨h1,u,v,w⟩:=g;unfold UB;simp only[bI,fU,lf,av,Zad,bm,a7,Zan,Zao];refine⟨⟨0,rfl,rfl,Zaj _⟩,λx s=>⟨λk=>?_,λk=>?_⟩⟩
 ·have hk:x<y.l.length:=ω;have j:gt (l8.mk [] 0 false) y.l x=y.l.getD x pW:=rfl;have B:(y.l.getD x pW).piece.length<=1000000000000:=by
   grind
  have A:=ZT (y.l.getD x pW);have d:uD ⟨(y.l.getD x pW).times,0,60⟩=Nj (y.l.getD x pW):=rfl;have f:=hlen x s;have hs:iK y.dM y.l (x+1)=txR y.dM (y.l.getD x pW) (iK y.dM y.l x):=rfl;rw[j,d];generalize p:y.l.getD x pW=r at*
  refine⟨ω,k,⟨by grind,by grind,by grind⟩,x,?_⟩;rw[p];refine⟨⟨(0,iK y.dM y.l x),rfl,rfl,Zaj _,f,rfl⟩,λz hz=>?_⟩;obtain⟨a,b⟩:=z;obtain⟨c,z2,z3⟩:=hz;simp only at c z2 z3 ⊢;have fin:xJ y.dM r.piece ((Nj r).toNat-a) b=b->0<=(x:Int)/\(x:Int)<y.l.length/\(r.ea=false->((b++[b8 10]).length:Int)*(1:Nat)<=140737488355328/\∃c:Nat,b++[b8 10]=iK y.dM y.l c/\aw .i64 (x:Int) 1=(c:Int)/\c<=y.l.length/\y.l.length-c<y.l.length-x)/\(r.ea->∃c:Nat,b=iK y.dM y.l c/\aw .i64 (x:Int) 1=(c:Int)/\c<=y.l.length/\y.l.length-c<y.l.length-x):=λe=>by
   rw[e] at z3;refine⟨ω,k,λo=>⟨?_,x+1,?_,ba ω ω,ω,ω⟩,λo=>⟨x+1,?_,ba ω ω,ω,ω⟩⟩
   ·grind
   ·rw[hs];unfold txR;rw[Zaa (by grind),<-z3];rfl
   ·grind [txR]
  refine⟨λt=>⟨λh=>?_,λh=>fin ?_⟩,λt=>fin ?_⟩
  ·obtain⟨m,n⟩:∃m,(Nj r).toNat-a=m+1:=⟨(Nj r).toNat-a-1,ω⟩;rw[n,xJ,Zac h] at z3;have i:(b++r.piece).length<=1000000100000:=by grind
   refine⟨ω,k,ω,(a+1,b++r.piece),rfl,ba ω ω,⟨⟨ω,by grind,?_⟩,ω⟩⟩;grind
  ·cases(Nj r).toNat-a with
   | zero=>rfl
   | succ m=>rw[xJ,Zaa ω]
  ·rw[show(Nj r).toNat-a=0 by omega];rfl
 ·have e:x=y.l.length:=ω;subst e;refine⟨λq=>⟨h1,ω,rfl⟩,λq=>?_⟩;grind [Nk,List.take_of_length_le]
def QiG:Ok Uz:=okZ [Uy] Tryz.f5 Qqg Qa3 Qqi
theorem Kv (y:cG):(ay 3 (ag y.r)->aH 3 (ag y.r)/\dj y.r 3=(if 3<y.r.length then y.r.take 3 else y.r))/\(ay 3 (ag y.r)=false->y.r=(if 3<y.r.length then y.r.take 3 else y.r)):=by
 rw[gk,oG,km,av];refine⟨λh=>⟨ω,by rw[Zac ω];rfl⟩,λh=>by grind⟩
theorem B0 (y:cG):(iF y).r.length<=3:=by
 grind [iF]
theorem QiH (y:cG) (a:UA (y,true)):Ic y:=by
 have a:true=nV (iF y):=a;have hl:=B0 y;grind [Kv,pU,iF,Ic,nX,aI]
theorem QiI (y:cG) (a:UA (y,false)):Ie y:=by
 have a:false=nV (iF y):=a;grind [Kv,pU,iF,Ie]
def QiJ (hl:Ok xy) (a:Ok yG):Ok Nn:=QsR (k:=Nn) (T:=Ic) (F:=Ie) [xy,yG] Tryz.f4 QiB id id (λ_=>rfl) ⟨hl,a⟩ QiH QiI
def mC (lo hi:Nat) (x:aS):Prop:=x.bg.length<=1000000/\((x.op=1/\x.x=0/\x.y=0/\x.bg=aV x.bg)\/(x.op=2/\(lo:Int)<=x.x/\x.x<=hi/\(lo:Int)<=x.y/\x.y<=hi/\x.bg=[])\/(x.op=3/\(lo:Int)<=x.x/\x.x<=hi/\x.y=0/\x.bg=[])\/(x.op=4/\0<=x.x/\x.x<10/\x.y=0/\x.bg=[])\/((x.op=5\/x.op=6)/\x.x=0/\x.y=0/\x.bg=[]))
def mC.mono {i g:Nat} {x:aS} (h:mC B Z x) (h1:i<=B) (j:Z<=g):mC i g x:=by
 obtain⟨h0,h | ⟨a,b,c,d,e,f⟩ | ⟨a,b,c,d⟩ | h | h⟩:=h
 ·exact⟨h0,.inl h⟩
 ·exact⟨h0,.inr (.inl ⟨a,ω,ω,ω,ω,f⟩)⟩
 ·exact⟨h0,.inr (.inr (.inl ⟨a,ω,ω,d⟩))⟩
 ·exact⟨h0,.inr (.inr (.inr (.inl h)))⟩
 ·exact⟨h0,.inr (.inr (.inr (.inr h)))⟩
theorem EE {b out:Nat} (lz:Bool) (h1:B<=b) (a:b+1<=Z) (c:B<=out) (d:out<=Z):mC B Z (gI lz b out):=by
 unfold gI;split<;>exact⟨Zaj _,.inr (.inl ⟨rfl,by grind,by grind,by grind,by grind,rfl⟩)⟩
theorem Kw (a:∀b,∀x∈Y b,mC b (b+B) x):∀(n b:Nat),∀x∈gT Y B n b,mC b (b+n*B) x
 | 0,b,x,h=>nomatch h
 | n+1,b,x,h=>by
  have e:b+B+n*B=b+(n+1)*B:=by grind
  rcases Zax.1 h with h | h
  ·exact(a b x h).mono ω ω
  ·exact(Kw a n _ x h).mono ω ω
theorem Kx {lz:Bool} (a:∀b,∀x∈Y b,mC b (b+B) x):∀(n b:Nat),b+n*(B+1)<=Z->∀x∈e_ (λi=>gI lz i Z) Y B n b,mC b Z x
 | 0,b,_,x,h=>nomatch h
 | n+1,b,c,x,h=>by
  have e:b+1+B+n*(B+1)=b+(n+1)*(B+1):=by grind
  rcases Zbf.1 h with rfl | h
  ·grind [EE]
  ·rcases Zax.1 h with h | h
   ·exact(a _ x h).mono ω ω
   ·exact(Kx a n _ ω x h).mono ω ω
def NdT (t:ah):Prop:=∀x∈aD t,ik x
def NdL (l:List ah):Prop:=∀x∈aA l,ik x
mutual
theorem B3:∀(t:ah) (b:Nat),j3 t->NdT t->∀x∈bP t b,mC b (b+bp t) x
 | .mk op r mn mx lz cap nk ks,b,h,hn,x,hx=>by
  rw[j3] at h
  obtain⟨⟨g,hw⟩,_,h3⟩:=h
  have hn1:ik ⟨op,r,mn,mx,lz,cap,ks.length⟩:=hn _ (by rw[aD];exact Za8 ..)
  have hn2:NdL ks:=λy hy=>hn y (by rw[aD];exact ZaU _ hy)
  have hl:=λb=>EF ks b h3 hn2
  have hll:=λb=>mz ks b h3
  rw[bP] at hx
  rw[bp]
  unfold oW
  unfold b9 at hw
  by_cases h2:op=2
  ·simp[h2] at hx hw ⊢
   subst hx
   refine⟨hn1,.inl ⟨rfl,rfl,rfl,?_⟩⟩
   split at hw
   ·cases hw
   ·exact(by simpa using hw:_/\_).2
  ·by_cases h7:op=7
   ·simp[h7] at hx ⊢
    subst hx
    exact⟨Zaj _,.inr (.inr (.inr (.inr ⟨.inl rfl,rfl,rfl,rfl⟩)))⟩
   ·by_cases h8:op=8
    ·simp[h8] at hx ⊢
     subst hx
     exact⟨Zaj _,.inr (.inr (.inr (.inr ⟨.inr rfl,rfl,rfl,rfl⟩)))⟩
    ·by_cases h3':op=3
     ·simp[h3'] at hx ⊢
      exact hl b x hx
     ·by_cases h4:op=4
      ·simp[h4] at hx ⊢
       exact(Ky ks b _ h3 hn2 (Zah _) x hx).mono (Zah _) ω
      ·by_cases h5:op=5
       ·subst h5
        simp only[show ¬((5:Int)=2) by decide,show ¬((5:Int)=7) by decide,show ¬((5:Int)=8) by decide,show ¬((5:Int)=3) by decide,show ¬((5:Int)=4) by decide,show ¬((5:Int)=6) by decide,Za0,Zbv,or_self] at hx ⊢
        unfold Hs at hx
        rcases Zax.1 hx with hx | hx
        ·refine(Kw hl _ _ x hx).mono (Zah _) ?_
         split<;>omega
        ·split at hx
         ·rename_i hm
          rw[Zac hm]
          rcases Zbf.1 hx with rfl | hx
          ·exact EE lz ω ω ω ω
          ·rcases Zax.1 hx with hx | hx
           ·exact(hl _ x hx).mono ω ω
           ·rw[ZaI.1 hx]
            exact⟨Zaj _,.inr (.inr (.inl ⟨rfl,by simp only;omega,by simp only;omega,rfl,rfl⟩))⟩
         ·rename_i hm
          rw[Zaa hm]
          unfold kB at hx
          refine(Kx hl _ _ ?_ x hx).mono ω ω
          omega
       ·by_cases h6:op=6
        ·simp[h6] at hx hw ⊢
         have hc:1<=cap/\cap<=4:=by
          split at hw
          ·cases hw
          ·have:=(by simpa using hw:_/\_)
           omega
         rcases hx with rfl | hx | rfl
         ·exact⟨Zaj _,.inr (.inr (.inr (.inl ⟨rfl,by simp only;omega,by simp only;omega,rfl,rfl⟩)))⟩
         ·exact(hl _ x hx).mono ω ω
         ·exact⟨Zaj _,.inr (.inr (.inr (.inl ⟨rfl,by simp only;omega,by simp only;omega,rfl,rfl⟩)))⟩
        ·simp[h2,h7,h8,h3',h4,h5,h6] at hx
theorem EF:∀(l:List ah) (b:Nat),my l->NdL l->∀x∈bq l b,mC b (b+aP l) x
 | [],b,_,_,x,hx=>by rw[bq] at hx;cases hx
 | t::l,b,h,hn,x,hx=>by
  rw[my] at h
  rw[bq] at hx
  rw[aP]
  rcases Zax.1 hx with hx | hx
  ·exact(B3 t b h.1 (λy hy=>hn y (by rw[aA];exact Zay _ hy)) x hx).mono (Zah _) ω
  ·exact(EF l _ h.2 (λy hy=>hn y (by rw[aA];exact ZaC _ hy)) x hx).mono ω ω
theorem Ky:∀(l:List ah) (b e:Nat),my l->NdL l->b+aP l+2*(l.length-1)<=e->∀x∈jR l b e,mC b e x
 | [],b,e,_,_,_,x,hx=>by rw[jR] at hx;cases hx
 | t::l,b,e,h,hn,he,x,hx=>by
  rw[my] at h
  rw[jR] at hx
  rw[aP] at he
  have ht:=λb=>B3 t b h.1 (λy hy=>hn y (by rw[aA];exact Zay _ hy))
  have hl:=λb=>Ky l b e h.2 (λy hy=>hn y (by rw[aA];exact ZaC _ hy))
  cases l with
  | nil=>
   simp only[List.isEmpty_nil,Zbv] at hx
   exact(ht b x hx).mono (Zah _) ω
  | cons u l=>
   simp only[List.isEmpty_cons,ZaE,Za0] at hx
   simp only[Zae] at he hl
   rcases Zbf.1 hx with rfl | hx
   ·exact⟨Zaj _,.inr (.inl ⟨rfl,by simp only;omega,by simp only;omega,by simp only;omega,by simp only;omega,rfl⟩)⟩
   ·rcases Zax.1 hx with hx | hx
    ·exact(ht _ x hx).mono ω ω
    ·rcases Zbf.1 hx with rfl | hx
     ·exact⟨Zaj _,.inr (.inr (.inl ⟨rfl,by simp only;omega,by simp only;omega,rfl,rfl⟩))⟩
     ·exact(hl _ ω x hx).mono ω (Zah _)
end
variable {i:Nat} {c:List aS} {s:cG} {Z:List Int}
def Seg (c:List aS) (q lo hi:Nat):Prop:=lo<=hi/\hi<c.length/\c.getD hi cX=⟨7,q,0,[]⟩/\∀i,lo<=i->i<hi->mC lo hi (c.getD i cX)
def UG (c:List aS) (s:List Int) (r:Nat):Prop:=s.length=r/\(∀q,q<r->∃lo hi:Nat,s.getD q 0=lo/\Seg c q lo hi)/\∀i,i<c.length->∃q lo hi:Nat,q<r/\Seg c q lo hi/\lo<=i/\i<=hi
theorem UH {α:Type} (d:α) (a b:List α) (h:i<a.length):(a++b).getD i d=a.getD i d:=by
 grind
theorem No {α:Type} (d:α) (a b:List α) (i:Nat):(a++b).getD (a.length+i) d=b.getD i d:=by
 grind
theorem Seg.app {lo hi:Nat} (h:Seg c i lo hi) (d:List aS):Seg (c++d) i lo hi:=by
 have⟨h1,e,f,g⟩:=h;refine⟨h1,by grind,by grind,λq a b=>?_⟩;grind
theorem ZU (c:List aS) {t:ah} (r:Nat) (h:j3 t) (e:NdT t):Seg (c++pT t r c.length) r c.length (c.length+bp t+2):=by
 have hl:=ir t (c.length+1) h;have f:pT t r c.length=(⟨4,0,0,[]⟩::(bP t (c.length+1)++[⟨4,1,0,[]⟩]))++[⟨7,r,0,[]⟩]:=by grind [pT]
 have g:((⟨4,0,0,[]⟩:aS)::(bP t (c.length+1)++[⟨4,1,0,[]⟩])).length=bp t+2:=by simp[hl]
 rw[f];refine⟨ω,by grind,?_,λi a b=>?_⟩
 ·grind
 ·obtain⟨k,rfl⟩:∃k,i=c.length+k:=⟨i-c.length,ω⟩;rw[No,UH _ _ _ ω];have d:((⟨4,0,0,[]⟩:aS)::(bP t (c.length+1)++[⟨4,1,0,[]⟩])).getD k cX∈((⟨4,0,0,[]⟩:aS)::(bP t (c.length+1)++[⟨4,1,0,[]⟩])):=by
   grind
  generalize ((⟨4,0,0,[]⟩:aS)::(bP t (c.length+1)++[⟨4,1,0,[]⟩])).getD k cX=x at d ⊢;rcases Zbf.1 d with rfl | d
  ·exact⟨Zaj _,.inr (.inr (.inr (.inl ⟨rfl,by grind,by grind,rfl,rfl⟩)))⟩
  ·rcases Zax.1 d with d | d
   ·exact(B3 t _ h e x d).mono ω ω
   ·rw[ZaI.1 d];exact⟨Zaj _,.inr (.inr (.inr (.inl ⟨rfl,by grind,by grind,rfl,rfl⟩)))⟩
theorem UI {t:ah} (h:UG c Z i) (hw:j3 t) (m:NdT t):UG (c++pT t i c.length) (Z++[(c.length:Int)]) (i+1):=by
 have⟨h1,k,l⟩:=h;have n:=ZU c i hw m;have hl:=ir t (c.length+1) hw;refine⟨by simp[h1],λq o=>?_,λr hi=>?_⟩
 ·by_cases j:q<i
  ·have⟨lo,hi,e,hs⟩:=k q j;exact⟨lo,hi,by grind,hs.app _⟩
  ·grind
 ·by_cases g:r<c.length
  ·have⟨q,lo,f,a,b,d,e⟩:=l r g;exact⟨q,lo,f,ω,b.app _,d,e⟩
  ·grind [pT]
theorem Kz:∀(l:List (List Nd)) (r:Nat) (c:List aS) (s:List Int),(∀x∈l,∀n∈x,ik n)->UG c s r->c.length<=400->(mA l r c s).2.1=0->UG (mA l r c s).1.1 (mA l r c s).1.2 (r+l.length)/\(mA l r c s).1.1.length<=400
 | [],r,c,s,_,h,f,_=>⟨h,f⟩
 | x::l,r,c,s,hn,h,f,he=>by
  rw[mA] at he ⊢;by_cases i:dE x=false
  ·grind
  ·rw[Zaa i] at he ⊢;have⟨t,d,k,m⟩:=iU (L:=x) (by grind);have ht:qJ x=t:=by
    have:=jQ (a:=0) (r:=[]) d (show x.drop 0=aD t++[] by grind);assumption
   by_cases e:400<c.length+bp (qJ x)+3
   ·grind
   ·rw[Zaa e] at he ⊢;rw[ht] at he e ⊢;have b:NdT t:=λn g=>hn x (by simp) n (by grind)
    have hl:=ir t (c.length+1) d;have:=Kz l (r+1) _ _ (λy j=>hn y (by simp[j])) (UI h d b) (by grind [pT]) he;grind
theorem tj {ab:List aS} {Q:Int->Prop} (h0:∀i,Q i->0<=i) (b:∀i,Q i->((ab.getD i.toNat cX).op=2->Q (ab.getD i.toNat cX).x/\Q (ab.getD i.toNat cX).y)/\((ab.getD i.toNat cX).op=3->Q (ab.getD i.toNat cX).x)/\((ab.getD i.toNat cX).op≠2->(ab.getD i.toNat cX).op≠3->(ab.getD i.toNat cX).op≠7->Q (i+1))):
  ∀(f:Nat) (s:List Bool) (l:List Int),(∀i:Nat,s.getD i false->Q i)->(∀i∈l,Q i)->∀i:Nat,(kq ab f s l).getD i false->Q i
 | 0,s,l,hs,_=>hs
 | f+1,s,l,hs,hl=>by
  rw[kq];split
  ·exact hs
  ·have hi:Q (l.getD (l.length-1) 0):=by
    rw[Zag,Zaf ω];grind
   have hk:∀i∈l.take (l.length-1),Q i:=λi hi=>hl i (Zcg hi)
   simp only;generalize l.getD (l.length-1) 0=j at hi ⊢;generalize l.take (l.length-1)=k at hk ⊢;have c:=h0 j hi;have a:∀i:Nat,(s.set j.toNat true).getD i false->Q i:=λi h=>by
    by_cases e:i=j.toNat
    ·subst e;rw[show((j.toNat:Nat):Int)=j by omega];exact hi
    ·grind
   split
   ·exact tj h0 b f s k hs hk
   ·split
    ·refine tj h0 b f _ _ a λi h=>?_
     rcases Zax.1 h with h | h
     ·exact hk i h
     ·simp only[Zbf,Zds,Zdt] at h;rcases h with rfl | rfl
      ·grind
      ·grind
    ·split
     ·refine tj h0 b f _ _ a λi h=>?_
      grind
     ·split
      ·exact tj h0 b f _ k a hk
      ·rename_i d g m
       refine tj h0 b f _ _ a λi h=>?_
       grind
theorem ZV (h:UG c Z i) (D:i<=8) (z:c.length<=400):Ck ⟨c,Z⟩:=by
 have⟨h1,t,u⟩:=h;have hi:∀r,r<c.length->(∃q:Nat,q<i/\c.getD r cX=⟨7,q,0,[]⟩)\/(r+1<c.length/\mC 0 (c.length-1) (c.getD r cX)):=λr hi=>by
  have⟨q,lo,l,k,⟨p,a2,a3,a4⟩,A,E⟩:=u r hi;by_cases e:r=l
  ·grind
  ·exact .inr ⟨ω,(a4 r A ω).mono ω ω⟩
 refine⟨z,by grind,λr g=>?_,λx j=>?_,⟨by grind,λr g=>?_⟩,λq k=>?_⟩
 ·show DD (c.getD r cX) (decide ((r:Int)+1<(c.length:Int))) c.length Z.length
  have j:=hi r g;generalize c.getD r cX=x at j ⊢;unfold DD;rcases j with⟨q,k,e⟩ | ⟨w,h0,⟨o,a,b,d⟩ | ⟨o,a,b,d,e,f⟩ | ⟨o,a,b,d,e⟩ | ⟨o,a,b,d,e⟩ | ⟨o,a,b,d⟩⟩
  ·rw[e];simp[gQ,h1];omega
  ·grind
  ·simp[o,f,gQ];omega
  ·simp[o,d,e,gQ];omega
  ·simp[o,d,e,gQ];omega
  ·rcases o with o | o<;>(simp[o,a,b,d];omega)
 ·have⟨r,g,e⟩:=Za3 j;rcases hi r g with⟨q,k,B⟩ | ⟨_,h0,_⟩
  ·grind
  ·grind
 ·have j:=hi r g;show((c.getD r cX).op=2->0<=(c.getD r cX).x/\(c.getD r cX).x<c.length/\0<=(c.getD r cX).y/\(c.getD r cX).y<c.length)/\((c.getD r cX).op=3->0<=(c.getD r cX).x/\(c.getD r cX).x<c.length)/\((c.getD r cX).op≠2->(c.getD r cX).op≠3->(c.getD r cX).op≠7->r+1<c.length)
  rcases j with⟨q,k,e⟩ | ⟨w,h0,⟨o,a,b,d⟩ | ⟨o,a,b,d,e,f⟩ | ⟨o,a,b,d,e⟩ | ⟨o,a,b,d,e⟩ | ⟨o,a,b,d⟩⟩
  ·rw[e];simp
  ·omega
  ·omega
  ·omega
  ·omega
  ·omega
 ·have k:q<i:=by grind
  have⟨lo,l,e,p,a2,a3,a4⟩:=t q k;show 0<=Z.getD q 0/\Z.getD q 0<c.length/\∀r:Nat,r<c.length->(kR c (Z.getD q 0)).getD r false->(c.getD r cX).op=7->(c.getD r cX).x=q
  rw[e];refine⟨ω,ω,λr g m C=>?_⟩;have v:=tj (ab:=c) (Q:=λr=>(lo:Int)<=r/\r<=l) (λr h=>ω) (λr v=>by
   obtain⟨n,rfl⟩:=Zau (show 0<=r by omega);rw[Zad];by_cases en:n=l
   ·rw[en,a3];simp
   ·have j:=a4 n ω ω;generalize c.getD n cX=x at j ⊢;obtain⟨h0,⟨o,a,b,d⟩ | ⟨o,a,b,d,e,f⟩ | ⟨o,a,b,d,e⟩ | ⟨o,a,b,d,e⟩ | ⟨o,a,b,d⟩⟩:=j
    ·omega
    ·omega
    ·omega
    ·omega
    ·rcases o with o | o<;>(simp[o];omega)) (3*c.length+1) (JF c.length) [(lo:Int)] (λr h=>by
    unfold JF at h;rw[Zag,List.getElem?_replicate] at h;split at h<;>simp at h) (λr h=>by grind) r m
  by_cases en:r=l
  ·rw[en,a3]
  ·obtain⟨h0,⟨o,_⟩ | ⟨o,_⟩ | ⟨o,_⟩ | ⟨o,_⟩ | ⟨o | o,_⟩⟩:=a4 r ω ω<;>omega
theorem UJ {l:List (List Nd)} (f:∀x∈l,∀n∈x,ik n) (c:(bW l).2.1=0):Ck ⟨(bW l).1.1,(bW l).1.2⟩/\(bW l).1.2.length=l.length:=by
 have e:bW l=Hv l:=by grind [bW,aI]
 rw[e] at c ⊢;unfold Hv at c ⊢;split at c
 ·grind
 ·rename_i d
  rw[Zaa d];have⟨a,b⟩:=Kz l 0 [] [] f ⟨rfl,λq h=>absurd h ω,λi h=>absurd h (Zbo _)⟩ (Zaj _) c;rw[Za6] at a;exact⟨ZV a ω b,a.1⟩
theorem KC:∀(l:List qd) (i:Nat) (t:List Row) (o:List (List Nd)),(mB l i t o).aq=0->(mB l i t o).out.length=o.length+l.length
 | [],i,t,o,_=>rfl
 | x::l,i,t,o,h=>by
  rw[mB] at h ⊢;split at h
  ·grind
  ·rename_i h1
   rw[Zaa h1];split at h
   ·grind
   ·rename_i a
    rw[Zaa a];split at h
    ·grind
    ·rename_i b
     rw[Zaa b,KC l _ _ _ h];simp;omega
theorem KD {y:cG} (hl:y.r.length<=1000) (h:nV y):Ck ⟨(b5 y).ab,(b5 y).st⟩/\lN ⟨(b5 y).cc,(b5 y).cs⟩/\(y.c≠[]->Ck ⟨(b5 y).cc,(b5 y).cs⟩/\(b5 y).cs.length=1)/\(b5 y).st.length=y.r.length:=by
 have p:b5 y=iV y:=by grind [b5,aI]
 obtain⟨q,s⟩:(∀x∈(bn y).out,cx x)/\(bn y).out.length<=y.r.length:=by
  grind [ve,bn,aI]
 have h0:(iV y).aq=0:=by grind [nV]
 rw[p];by_cases h1:8<y.r.length
 ·grind [iV,Ki]
 by_cases e:(bn y).aq=0
 case neg=>rw[T5 h1 e] at h0;exact absurd h0 e
 by_cases g:y.c≠[]/\(b_ y.c).2.1≠0
 ·rw[T6 h1 e g.1 g.2] at h0;exact absurd h0 g.2
 have d:y.c≠[]->(b_ y.c).2.1=0:=λa=>Zch λb=>g ⟨a,b⟩
 by_cases f:(bW (bn y).out).2.1=0
 case neg=>rw[T7 h1 e d f] at h0;exact absurd h0 f
 have k:=UJ q f;have o:(bn y).out.length=y.r.length:=by
  grind [bn,aI,KC]
 by_cases i:y.c=[]
 ·rw[T_ h1 e d f i];exact⟨k.1,⟨Zaj _,Zaj _,λx m=>nomatch m⟩,λh=>absurd i h,k.2.trans o⟩
 ·by_cases j:(bW [cJ (b_ y.c).1]).2.1=0
  ·rw[T9 h1 e d f i j];have n:=UJ (l:=[cJ (b_ y.c).1]) (λx m=>by rw[ZaI.1 m];exact vd (lH _)) j;exact⟨k.1,n.1.pg,λ_=>⟨n.1,n.2⟩,k.2.trans o⟩
  ·rw[T8 h1 e d f i j] at h0;exact absurd h0 j
theorem Ck.cod {p:eu} (h:Ck p):Rb p.ab:=by
 refine⟨by have:=h.1;omega,λx a b=>?_⟩;have⟨i,hi,e⟩:=Za3 a;have hs:=h.2.2.1 i hi;have hs:DD (p.ab.getD i cX) (decide ((i:Int)+1<↑p.ab.length)) p.ab.length p.aj.length:=hs;grind [DD,gQ]
theorem UK (h:xK s):Ck (nX s).p/\lN (nX s).q/\(nN (nX s)->Ck (nX s).q/\(nX s).q.aj.length=1):=by
 rw[show nX s=_ from aI _];have⟨h1,b,d,_⟩:=KD (y:=iF s) (by grind [B0]) h;refine⟨h1,b,λa=>d λe=>?_⟩;have a:(!seq (iF s).c []):=a;grind
theorem QdF (h:xK s):(nX s).p.aj.length=(nX s).s.r.length:=by
 rw[show nX s=_ from aI _];exact(KD (y:=iF s) (by grind [B0]) h).2.2.2
def Wb.Q {s:E6} {N:Int} (h:Wb s N):scQ s:=⟨⟨h.1,by have:=h.2.1;omega⟩,h.2.2.2.1.2⟩
structure LwY where
 s:cG
 l:List l8
 k:Int
end
end sx
namespace sx
open Go Go.RowKit Go.ChangeShapes Go.WideShapes Go.ChangeAt
set_option maxRecDepth 100000
variable {Z:Type}
def nO (v:Value):Option (AV D.E):=match v with
 | .int k n=>bif iY k n then some (.int k n) else none
 | .bool b=>some (.bool b)
 | .string s=>if s.data.toList.length<=9223372036854775807 then some (.str s.data.toList) else none
 | _=>none
noncomputable def lx (W:World):Pm D:=⟨λ_=>none,λb o=>(W.cell? ⟨b,o,none⟩).bind nO⟩
def UL {M:Pm D} {v:Value} {u:AV D.E} (h:nO v=some u):lS u/\VR M u v:=by
 cases v<;>simp only[nO] at h<;>(try (cases h;done))
 case bool b=>cases h;exact⟨rfl,.bool b⟩
 case int k n=>
  cases a:iY k n with
  | false=>rw[a] at h;cases h
  | true=>rw[a] at h;cases h;exact⟨rfl,.int a⟩
 case string s=>
  split at h
  ·rename_i hs;cases h;exact⟨rfl,.str hs⟩
  ·cases h
theorem Np (W:World) (f:D.ng<=W.heap.size) (d:D.gw W):dQ (lx W) (λ_=>none) W:=by
 refine⟨λb o h=>(nomatch h),λb i o j a g h=>(nomatch h),λb o v h=>?_,λb o a h=>(nomatch h),λb c xs e a h=>(nomatch h),⟨⟨f,d⟩,λb o a h=>(nomatch h)⟩⟩;have h:(W.cell? ⟨b,o,none⟩).bind nO=some v:=h;cases e:W.cell? ⟨b,o,none⟩ with
 | none=>rw[e] at h;cases h
 | some u=>
  rw[e] at h;have h:nO u=some v:=h;have:=UL (M:=lx W) h;exact⟨this.1,u,rfl,this.2⟩
theorem UM {f:Z->Nat}:∀(xs:List Z) (g:Nat->Nat),(∀i (hi:i<xs.length),f xs[i]<=g i)->(xs.map f).sum<=((List.range xs.length).map g).sum
 | [],g,_=>by simp
 | x::xs,g,h=>by
  have h0:=h 0 (by simp);have h1:=UM xs (λi=>g (i+1)) λi hi=>h (i+1) (by simp;omega)
  rw[Zae,List.range_succ_eq_map,Zbl,Zco,Zbl,Zco,Zdq];show f x+_<=g 0+((List.range xs.length).map (λi=>g (i+1))).sum
  have h0:f x<=g 0:=h0;omega
theorem ZW (xs:List Z):(xs.map λ_=>1).sum=xs.length:=by induction xs with
 | nil=>rfl
 | cons x xs a=>simp[a];omega
theorem UN (d:DataW Z):1<=Rows.uptoBulk d:=by
 cases d with
 | lit l=>cases l<;>simp[Rows.uptoBulk]
 | nil=>simp[Rows.uptoBulk]
 | ptr d=>simp[Rows.uptoBulk]
 | slice elems spare=>simp[Rows.uptoBulk]
 | agg parts=>simp[Rows.uptoBulk]
 | iface t d=>simp[Rows.uptoBulk]
 | map entries=>simp[Rows.uptoBulk]
 | held h=>simp[Rows.uptoBulk]
section
variable {H:Type} {bd:TypeId×Value->H} {P:Program} {W:World} {held:Bool} {M:Pm D}
variable {v:Value} {w:Nat} {Z:List Value} {k:IntKind} {s:ByteArray}
def jU (M:Pm D) (W:World) (l:List (AV D.E)) (cs:List Value):Prop:=l.length=cs.length/\∀(j:Nat) (u:AV D.E) (v:Value),l[j]?=some u->cs[j]?=some v->∀b o,W.cell? ⟨b,o,none⟩=some v->M.sg b o=some u
theorem jU.nil:jU M W [] []:=⟨rfl,λj u v h=>by simp at h⟩
def jU.cons {u:AV D.E} {l:List (AV D.E)} (h:∀b o,W.cell? ⟨b,o,none⟩=some v->M.sg b o=some u) (k:jU M W l Z):jU M W (u::l) (v::Z):=
 ⟨by simp[k.1],λj c d e a=>by
  cases j with
  | zero=>simp at e a;subst e;subst a;exact h
  | succ j=>exact k.2 j c d (by simpa using e) (by simpa using a)⟩
def UO {c:Nat} {e:TypeId} {w:Nat} {Q:D.E c->Nat->Prop} (L:P.cellsOf e=D.size c) (C:0<D.size c)
  (l:∀n cs x,Trd bd P W held n e cs=some x->∃y:D.E c,jU M W (D.bd c y) cs/\Q y (Rows.uptoBulk x.1)) (h:L3 bd P W held (.sl e) v w):
  ∃(xs:List (D.E c)) (g:Nat->Nat),VR M (.list c xs) v/\((List.range xs.length).map g).sum<=w/\∀i (hi:i<xs.length),Q xs[i] (g i):=by
 rcases h with rfl | ⟨a,len,cap,n,rfl,hl,N,t,k,R⟩
 ·exact⟨[],λ_=>0,.eD,by simp,λi hi=>by simp at hi⟩
 ·by_cases h0:len=0
  ·subst h0;exact⟨[],λ_=>0,.eD,by simp,λi hi=>by simp at hi⟩
  have O:∀i,i<len->∃y:D.E c,∃cs,W.cells? 0 (a.add (i*D.size c)) (D.size c)=some cs/\jU M W (D.bd c y) cs/\Q y (Rows.uptoBulk (t i)):=λi hi=>by
   obtain⟨cs,x,h1,K⟩:=R i hi;rw[L] at h1;obtain⟨y,S,r⟩:=l n cs _ K;exact⟨y,cs,h1,S,r⟩
  haveI:Inhabited (D.E c):=⟨D.Wn c⟩
  obtain⟨f,m⟩:=Go.Deep.choose_lt O;obtain⟨b,o,sp⟩:=a;obtain⟨G,c1,c2,_⟩:=m 0 ω;have I:((⟨b,o,sp⟩:Addr).add (0*D.size c)).add 0=⟨b,o,sp⟩:=by simp[Addr.add]
  have d:=(World.cells?_some c1).2.2 0 C;rw[I] at d;have q:(D.bd c (f 0)).length=D.size c:=gE.len c _;rw[Zaf (by rw[<-c2.1,q];exact C)] at d;obtain rfl:sp=none:=by
   cases sp with
   | none=>rfl
   | some s=>
    simp only[World.cell?] at d;split at d<;>simp at d
  have hlen:((List.range len).map f).length=len:=by simp
  refine⟨(List.range len).map f,λi=>Rows.uptoBulk (t i),?_,by rw[hlen];exact k,λi hi=>?_⟩
  ·have F:VR M (.list c ((List.range len).map f)) (.slice (some ⟨b,o,none⟩) ((List.range len).map f).length cap):=by
    refine .list (λi hi j u hu=>?_) (by rw[hlen];unfold maxLen at N;omega) (by rw[hlen];exact hl);have p:i<len:=by simpa using hi
    simp only[ZcD,Zdf] at hu;obtain⟨cs,H,z,_⟩:=m i p;have B:j<D.size c:=by rw[<-gE.len c (f i)];exact(Zam.1 hu).1
    have A:=(World.cells?_some H).2.2 j B;have J:((⟨b,o,none⟩:Addr).add (i*D.size c)).add j=⟨b,o+i*D.size c+j,none⟩:=by
     rw[Addr.add_lit,Addr.add_lit]
    rw[J,Zaf (by rw[<-z.1,gE.len];exact B)] at A;exact z.2 j u _ hu (Zaf _) _ _ A
   rw[hlen] at F;exact F
  ·simp only[ZcD,Zdf];obtain⟨_,_,_,r⟩:=m i (by simpa using hi);exact r
def UP {n:Int} (h:(Lit.int k n).wf):iY k n:=by
 rw[cE];cases k<;>simp[Lit.wf,IntKind.min,IntKind.max,IntKind.signed,IntKind.bits] at h<;>simp[Ch,sw]<;>omega
def ZX {n:Int} (h:(Lit.int k n).wf):∀b o,W.cell? ⟨b,o,none⟩=some (.int k n)->(lx W).sg b o=some (.int k n):=λb o a=>by
 show(W.cell? ⟨b,o,none⟩).bind nO=_
 rw[a];show nO (.int k n)=_
 simp only[nO,UP h,cond_true]
def As (h:s.size<=maxLen):s.data.toList.length<=9223372036854775807:=by
 have:s.data.toList.length=s.size:=by rw[Zba];rfl
 unfold maxLen at h;omega
def B4 (h:s.size<=maxLen):∀b o,W.cell? ⟨b,o,none⟩=some (.string s)->(lx W).sg b o=some (.str s.data.toList):=λb o a=>by
 show(W.cell? ⟨b,o,none⟩).bind nO=_
 rw[a];show nO (.string s)=_
 simp only[nO];rw[Zac (As h)]
def UQ (c:Bool):∀b o,W.cell? ⟨b,o,none⟩=some (.bool c)->(lx W).sg b o=some (.bool c):=λb o a=>by
 show(W.cell? ⟨b,o,none⟩).bind nO=_
 rw[a];rfl
def UR (n:Nat) (cs:List Value) (x:DataW H×List MemPlace) (h:Trd bd prog W held n 56 cs=some x):∃y:qd,jU (lx W) W (D.bd 3 (y:qd)) cs/\True:=by
 have g0:=qt 8 56 [.str,.str] cs n x (by kernel_rfl) h;obtain⟨v,r,j,d,rfl,⟨a,rfl,q1,g⟩,g1,f⟩:=g0.bD;obtain⟨v,r,k,e,rfl,⟨b,rfl,c,i⟩,g2,e2⟩:=g1.bD;obtain rfl:=g2.kW;exact⟨⟨a.data.toList,b.data.toList⟩,.cons (B4 q1) (.cons (B4 c) .nil),trivial⟩
def Nq (n:Nat) (cs:List Value) (x:DataW H×List MemPlace) (h:Trd bd prog W held n 54 cs=some x):∃y:l8,jU (lx W) W (D.bd 19 (y:l8)) cs/\(y.piece.length<=Rows.uptoBulk x.1/\1<=Rows.uptoBulk x.1):=by
 have g0:=qt 8 54 [.str,.int .i64,.bool] cs n x (by kernel_rfl) h;obtain⟨v,r,l,e,rfl,⟨a,rfl,q1,k⟩,g0,i⟩:=g0.bD;obtain⟨v,r,m,f,rfl,⟨b,rfl,d⟩,g0,e2⟩:=g0.bD;obtain⟨v,r,o,g,rfl,⟨c,rfl⟩,g0,j⟩:=g0.bD;obtain rfl:=g0.kW;exact⟨⟨a.data.toList,b,c⟩,.cons (B4 q1) (.cons (ZX d.1) (.cons (UQ c) .nil)),by show a.data.toList.length<=_;omega,UN _⟩
theorem US:∀(l:List Nat) (i:Nat) (hi:i<l.length),l[i]<=l.sum
 | x::l,0,_=>by simp
 | x::l,i+1,hi=>by
  have:=US l i (by simpa using hi);simp only[List.getElem_cons_succ,Zco];omega
def ZY (h:L3 bd prog W held (.sl 56) v w):∃xs:List qd,VR (lx W) (.list 3 (xs:List (D.E 3))) v:=by
 obtain⟨xs,g,h1,_,_⟩:=UO (c:=3) (Q:=λ(_:qd) _=>True) (by kernel_rfl) (by exact ZcY (by kernel_rfl)) (λn cs x h=>UR n cs x h) h;exact⟨xs,h1⟩
def UT (h:L3 bd prog W held (.sl 54) v w):∃xs:List l8,VR (lx W) (.list 19 (xs:List (D.E 19))) v/\xs.length<=w/\∀r∈xs,r.piece.length<=w:=by
 obtain⟨xs,g,h1,a,b⟩:=UO (c:=19) (Q:=λ(p:l8) n=>p.piece.length<=n/\1<=n) (by kernel_rfl) (by exact ZcY (by kernel_rfl)) (λn cs x h=>Nq n cs x h) h;have k1:=UM (f:=λ_=>1) xs g λi hi=>(b i hi).2
 rw[ZW] at k1;refine⟨xs,h1,Zav k1 a,λt ht=>?_⟩;obtain⟨i,hi,rfl⟩:=Za3 ht;have:=US ((List.range xs.length).map g) i (by rw[Za2,List.length_range];exact hi);simp only[ZcD,Zdf] at this;exact Zav (b i hi).1 (Zav this a)
def UU {x:DataW H×List MemPlace} (h:Trd bd prog W held w 24 Z=some x):∃y:cG,LR (lx W) [.list 3 y.r,.str y.c] Z:=by
 have g0:=qt 8 24 [.sl 56,.str] Z w x (by kernel_rfl) h;obtain⟨v,r,w0,d,rfl,s0,g0,f⟩:=g0.bD;obtain⟨a0,b⟩:=ZY s0;obtain⟨v,r,j,e,rfl,⟨a,rfl,q1,i⟩,g0,g⟩:=g0.bD;obtain rfl:=g0.kW;exact⟨⟨a0,a.data.toList⟩,.cons b (.cons (.str (As q1)) .nil)⟩
end
end sx
set_option maxRecDepth 100000
set_option maxHeartbeats 4000000
namespace sx
noncomputable section
open Go Go.RowKit cls syn
def nP (t:aK):List Int:=[t.c0,t.c1,t.c2,t.c3,t.c4,t.c5,t.c6,t.c7,t.c8,t.c9]
def fp (t:aK) (m:Int):Bool:=(nP t).all λx=>decide (-1<=x)&&decide (x<=m)
def UW:br D:=bL 132 (aK×Int) (λa _=>match a with
 | [c,m]=>az (asAgg c) λcs=>match cs with
  | [a0,b,a2,a3,a4,a5,d,e,f,a9]=>aL (cA a0) λ_ a0=>aL (cA b) λ_ b=>aL (cA a2) λ_ a2=>aL (cA a3) λ_ a3=>aL (cA a4) λ_ a4=>aL (cA a5) λ_ a5=>aL (cA d) λ_ d=>aL (cA e) λ_ e=>aL (cA f) λ_ f=>aL (cA a9) λ_ a9=>aL (cA m) λ_ m=>.ret (⟨0,a0,b,a2,a3,a4,a5,d,e,f,a9⟩,m)
  | _=>.fail
 | _=>.fail) (λ_=>True) (λy=>[.agg [QsE y.1.c0,QsE y.1.c1,QsE y.1.c2,QsE y.1.c3,QsE y.1.c4,QsE y.1.c5,QsE y.1.c6,QsE y.1.c7,QsE y.1.c8,QsE y.1.c9],QsE y.2]) λy=>.bool (fp y.1 y.2)
def UX (ab:List aS) (a:List Bool):Nat->(Int->Bool)->Int->Bool
 | 0,F=>F
 | n+1,F=>if a.getD n false/\(ab.getD n ⟨0,0,0,[]⟩).op=1 then λk=>if k=(n:Int)+1 then true else UX ab a n F k else UX ab a n F
def Wc (m:Int):List aK->(Int->Bool)->Bool
 | [],_=>true
 | t::l,F=>F t.pc&&fp t m&&Wc m l λk=>if k=t.pc then false else F k
structure B5 where
 p:eu
 r:Int
 l:dh
 m:Int
def ZZ (y:B5):Int:=y.p.aj.getD y.r.toNat 0
def uE (y:B5):Bool:=Wc y.m y.l.aB (UX y.p.ab (kR y.p.ab (ZZ y)) y.p.ab.length λk=>if k=ZZ y then true else false)
def wtP (y:B5):Prop:=Ma (y.p.ab,ZZ y)/\0<=y.r/\y.r<y.p.aj.length/\y.l.aB.length<=1000000
def QiK:br D:=bL 133 B5 (λa s=>match a with
 | [p,r,l,m]=>az (sS p s) λp=>aL (cA r) λ_ r=>az (asAgg l) λcs=>az (qi D 2 cs) λl=>aL (cA m) λ_ m=>.ret ⟨p,r,(l:dh),m⟩
 | _=>.fail) wtP (λy=>[yc y.p,QsE y.r,.agg (D.bd 2 y.l),QsE y.m]) λy=>.bool (uE y)
def KE (y:aK×Int):Prop:=ak (ay y.1.c0 (-1)) (false=fp y.1 y.2/\True) (ak (ay y.2 y.1.c0) (false=fp y.1 y.2/\True) (ak (ay y.1.c1 (-1)) (false=fp y.1 y.2/\True) (ak (ay y.2 y.1.c1) (false=fp y.1 y.2/\True) (ak (ay y.1.c2 (-1)) (false=fp y.1 y.2/\True) (ak (ay y.2 y.1.c2) (false=fp y.1 y.2/\True) (ak (ay y.1.c3 (-1)) (false=fp y.1 y.2/\True) (ak (ay y.2 y.1.c3) (false=fp y.1 y.2/\True) (ak (ay y.1.c4 (-1)) (false=fp y.1 y.2/\True) (ak (ay y.2 y.1.c4) (false=fp y.1 y.2/\True) (ak (ay y.1.c5 (-1)) (false=fp y.1 y.2/\True) (ak (ay y.2 y.1.c5) (false=fp y.1 y.2/\True) (ak (ay y.1.c6 (-1)) (false=fp y.1 y.2/\True) (ak (ay y.2 y.1.c6) (false=fp y.1 y.2/\True) (ak (ay y.1.c7 (-1)) (false=fp y.1 y.2/\True) (ak (ay y.2 y.1.c7) (false=fp y.1 y.2/\True) (ak (ay y.1.c8 (-1)) (false=fp y.1 y.2/\True) (ak (ay y.2 y.1.c8) (false=fp y.1 y.2/\True) (ak (ay y.1.c9 (-1)) (false=fp y.1 y.2/\True) (ak (ay y.2 y.1.c9) (false=fp y.1 y.2/\True) (true=fp y.1 y.2/\True))))))))))))))))))))
def UY (t:aK) (m:Int):Prop:=(-1<=t.c0/\t.c0<=m)/\(-1<=t.c1/\t.c1<=m)/\(-1<=t.c2/\t.c2<=m)/\(-1<=t.c3/\t.c3<=m)/\(-1<=t.c4/\t.c4<=m)/\(-1<=t.c5/\t.c5<=m)/\(-1<=t.c6/\t.c6<=m)/\(-1<=t.c7/\t.c7<=m)/\(-1<=t.c8/\t.c8<=m)/\(-1<=t.c9/\t.c9<=m)
def EG (t:aK) (m:Int):fp t m↔UY t m:=by simp[fp,UY,nP]
def QiL (y:aK×Int):KE y:=by
 unfold KE;simp only[lF,Zai,gk,oG];have a:¬UY y.1 y.2->false=fp y.1 y.2:=λh=>(Bool.eq_false_iff.2 λe=>h ((EG _ _).1 e)).symm
 have ht:UY y.1 y.2->true=fp y.1 y.2:=λh=>((EG _ _).2 h).symm
 unfold UY at a ht
 repeat' first | apply And.intro | intro _
 all_goals first | exact a ω | exact ht ω
def Qa4:Ok UW:=okZ (V:=KE) [] f132 (λ_=>⟨[],[],[],[],11,[]⟩) trivial λy _=>QiL y
end
end sx
namespace sl
open Go.RowKit
variable {α:Type} {bd:α->List Value} {k:Nat}
theorem B6 {w:World} {k:Nat} {o:Obj} (h:w.heap[k]?=some o):k<w.heap.size:=by
 grind
def flat (bd:α->List Value) (l:List α):List Value:=l.flatMap bd
theorem mD (hk:∀x,(bd x).length=k) (l:List α):(flat bd l).length=l.length*k:=by
 induction l with
 | nil=>simp[flat]
 | cons x t a=>
  grind [flat]
theorem jv (l m:List α):flat bd (l++m)=flat bd l++flat bd m:=by simp[flat]
theorem xL (hk:∀x,(bd x).length=k) (l:List α) (i t:Nat) (x:α) (a:l[i]?=some x) (ht:t<k):(flat bd l)[i*k+t]?=(bd x)[t]?:=by
 induction l generalizing i with
 | nil=>simp at a
 | cons y m b=>
  have e:flat bd (y::m)=bd y++flat bd m:=rfl;rcases i with _ | i
  ·grind
  ·grind
structure Rd (bd:α->List Value) (w:World) (a:Option Addr) (l:List α) (cap:Nat):Prop where
 none_:a=none->l=[]/\cap=0
 le:l.length<=cap
 max:cap<=maxLen
 at_:∀ad,a=some ad->0<cap->ad.spot=none/\ad.block<w.heap.size/\∀j u,(flat bd l)[j]?=some u->w.cell? ⟨ad.block,ad.off+j,none⟩=some u
variable {l:List α} {B:Nat} {w:World} {a:Option Addr}
theorem Rd.nil (bd:α->List Value) (w:World):Rd bd w none [] 0:=⟨λ_=>⟨rfl,rfl⟩,Zah _,ω,λ_ h _=>by cases h⟩
theorem Rd.cells {cap:Nat} (h:Rd bd w a l cap) (hk:∀x,(bd x).length=k) {i:Nat} {x:α} (j:l[i]?=some x):
  ∃b off,a=some ⟨b,off,none⟩/\b<w.heap.size/\∀t u,t<k->(bd x)[t]?=some u->w.cell? ⟨b,off+(i*k+t),none⟩=some u:=by
 obtain⟨h1,f,g,c⟩:=h;rcases a with _ | ⟨b,off,sp⟩
 ·grind
 ·have hi:i<l.length:=by
   grind
  obtain⟨hs,d,e⟩:=c _ rfl ω;obtain rfl:sp=none:=hs;exact⟨b,off,rfl,d,λt u ht hu=>e _ _ (by grind [xL])⟩
def Rd.below {f:World} (h:Rd bd w a l B) {cap:Nat} (c:Below cap w f) (k:∀b,a=some b->0<B->b.block<cap):Rd bd f a l B:=
 ⟨h.none_,h.le,h.max,λb e d=>by
  obtain⟨h1,g,i⟩:=h.at_ b e d;exact⟨h1,ZbB g c.size,λj u hu=>(c.cell (p:=⟨b.block,b.off+j,none⟩) (k b e d)).trans (i j u hu)⟩⟩
def Rd.kept {b:World} (h:Rd bd w a l B) (d:Below w.heap.size w b):Rd bd b a l B:=
 h.below d λc e f=>(h.at_ c e f).2.1
def jK (bd:α->List Value) (k:Nat) (E:TypeId) (B:Nat) (w:World) (v:Value) (l:List α):Prop:=w.ownsRow B E k v l.length (flat bd l)
theorem jK.rd {E:TypeId} {v:Value} (h:jK bd k E B w v l):∃a cap,v=.slice a l.length cap/\Rd bd w a l cap/\∀b,a=some b->B<=b.block:=by
 rcases h.2 with⟨rfl,c⟩ | ⟨g,cap,aX,rfl,f,i,c,d,hs,ht⟩
 ·grind [Rd.nil]
 ·refine⟨some ⟨g,0,none⟩,cap,rfl,⟨λh=>(nomatch h),c,d,λb e _=>?_⟩,λb e=>(by grind)⟩;grind [World.cell?]
theorem getD_eq (h:B<l.length) (d:α):l[B]?=some (l.getD B d):=by
 grind
structure lI (P:Program) (T E:TypeId) (k bytes:Nat):Prop where
 ud:P.underlying T=some (.slice E)
 ex:∃i z,P.info? E=some i/\i.zero=some z/\i.size=k/\i.bytes=bytes/\z.cells.size=k
 pos:0<k
variable {B a m X:Nat} {E c:TypeId} {w d:World} {v:Value} {l:List α} {Z:Program} {Y:Array Value} {W:Type} {V:Array Oper} {U:List Oper} {O:Exit->Act->World->Prop} {s x:Operand}
variable {N:List W}
def lI.mk' {z:Value} (h1:Z.underlying E=some (.slice c)) (bytes:(Z.info? c).map (λi=>(i.zero,i.size,i.bytes))=some (some z,B,a)) (b:z.cells.size=B) (T:0<B):lI Z E c B a:=by
 obtain⟨i,hi,hz,hs,d⟩:=info_parts bytes;exact⟨h1,⟨i,z,hi,hz,hs,d,b⟩,T⟩
theorem jK.nil (bd:α->List Value) (k:Nat) (E:TypeId) (B:Nat) (w:World):jK bd k E B w (.slice none 0 0) []:=World.ownsRow_nil _ _ _ _
theorem jK.alloc (h:jK bd k E B w v l) (o:Obj):jK bd k E B (w.alloc o) v l:=World.ownsRow.alloc h o
def jK.drewN (h:jK bd k E B w v l) (n:Nat):jK bd k E B (w.drewN n) v l:=h
theorem jK.below (h:jK bd k E B w v l) (i:Below a w d) (f:w.heap.size<=a):jK bd k E B d v l:=by
 refine⟨h.1,?_⟩;rcases h.2 with b | ⟨g,cap,aX,h1,b,c,e⟩
 ·grind
 ·exact .inr ⟨g,cap,aX,h1,b,(i.block g (ZbB (B6 c) f)).trans c,e⟩
def jK.lt (h:jK bd k E B w v l):∀k,v.ownBlock=some k->B<=k/\k<w.heap.size:=World.ownsRow.lt h
theorem jK.mono (h:jK bd k E B w v l) (d:a<=B):jK bd k E a w v l:=by
 refine⟨h.1,?_⟩;rcases h.2 with b | ⟨g,cap,aX,h1,b,c⟩
 ·grind
 ·exact .inr ⟨g,cap,aX,h1,Zav d b,c⟩
def Below.grow {b:World} (w0:Below a w d) (h:jK bd k E B d v l) (e:d.grownBy b v.ownBlock) (c:a<=B) (hs:a<=d.heap.size):Below a w b:=
 w0.grown e hs λk hk=>Zav c (h.lt k hk).1
theorem Rd.built {cs:Array Value} (l:List α) (n:Nat) (d:l.length=n) (a:cs.toList=flat bd l) (c:n<=4096):Rd bd (w.alloc (.cells cs E)) (some ⟨w.heap.size,0,none⟩) l n:=
 ⟨λh=>(nomatch h),ω,by grind [maxLen],λb e _=>by
  cases e;refine⟨rfl,by simp,λj u hu=>?_⟩;rw[<-a] at hu;simp;simpa using hu⟩
theorem xM {o:Oper} {bytes:Act} {p:Option Addr} {f:List α}
  (G:lI Z E c k B) (g:o.guard=none) (C:o.op=.call { callee:=.builtin .append,args:=#[s,x],argTypes:=#[E,E] })
  (hs:bytes.eval s=v) (D:bytes.eval x=.slice p m X) (e:jK bd k c a w v l) (d:Rd bd w p f X) (A:m=f.length) (hk:∀x,(bd x).length=k) (h1:∀x,∀u∈bd x,u.oneCell')
  (n:l.length+f.length<=1000000000) (N':B<=65536) (H:a<=w.heap.size)
  (h:∀F t,jK bd k c a t F (l++f)->w.grownBy t v.ownBlock->wpList Z V O U (bytes.put o.dst F) t):wpList Z V O (o::U) bytes w:=by
 obtain⟨hu,⟨i,z,hi,hz,da,q,Ϲ⟩,J⟩:=G;rcases p with _ | ⟨b,off,sp⟩
 ·obtain⟨rfl,rfl⟩:=d.none_ rfl;subst A;refine wpList_append_own_none g s x E C a c i k hu hi v l.length _ hs e D ?_;grind [World.grownBy.refl]
 ·have r:∀j u,(flat bd f)[j]?=some u->w.cell? ((⟨b,off,sp⟩:Addr).add j)=some u:=λj u M=>by
   have hle:=d.le;have I:0<f.length:=by
    grind [flat]
   obtain⟨K,_,L⟩:=d.at_ _ rfl ω;grind [Addr.add_lit]
  have hmul:(l.length+f.length)*B<=1000000000*65536:=Zci n N';refine wpList_append_own w g s x E C a c i z k B hu hi hz da q Ϲ J v l.length _ hs e ⟨b,off,sp⟩ m X (flat bd f) D (by rw[mD hk,A]) r (λu hu=>?_) (by grind [maxLen]) (by grind) H ?_
  ·obtain⟨y,_,N⟩:=ZbG.1 hu;grind
  ·grind [jK,jv]
theorem o6 {o:Oper} {bytes:Act} {e:TypeId}
  (i:lI Z E c k B) (T:o.guard=none) (n:o.op=.call { callee:=.builtin .append,args:=#[s,x],argTypes:=#[E,E] })
  (hs:bytes.eval s=v) (p:bytes.eval x=.slice (some ⟨m,0,none⟩) 1 1) (j:m=w.heap.size) (b:jK bd k c a w v l) (y:α) (r:Y.toList=bd y) (hk:∀x,(bd x).length=k) (h1:∀x,∀u∈bd x,u.oneCell')
  (f:l.length<1000000000) (N':B<=65536) (q:a<=w.heap.size)
  (h:∀g d,jK bd k c a d g (l++[y])->(w.alloc (.cells Y e)).grownBy d v.ownBlock->wpList Z V O U (bytes.put o.dst g) d):wpList Z V O (o::U) bytes (w.alloc (.cells Y e)):=by
 subst j;exact xM i T n hs p (b.alloc _) (Rd.built [y] 1 rfl (by grind [flat]) ω) rfl hk h1 (by simp;omega) N' (by simp;omega) h
def nA {b:World} (e:Below a w d) (h:jK bd k E B d v l) (f:(d.alloc (.cells Y c)).grownBy b v.ownBlock) (w0:a<=B) (hs:a<=d.heap.size):Below a w b:=
 Below.grow (e.alloc hs _) (h.alloc _) f w0 (by simp;omega)
theorem wy {x:W} (h:N[B]?=some x):B<N.length:=by
 grind
theorem UZ (hk:∀x,(bd x).length=k) (l:List α) (i t:Nat) (x y:α) (u:Value) (a:l[i]?=some x) (ht:t<k) (c:(bd x).set t u=bd y):(flat bd l).set (i*k+t) u=flat bd (l.set i y):=by
 induction l generalizing i with
 | nil=>simp at a
 | cons z m b=>
  have e:∀z,flat bd (z::m)=bd z++flat bd m:=λ_=>rfl
  rcases i with _ | i
  ·grind
  ·simp only[Zcm] at a;rw[Zdd,e,ZbY _ _ (by grind),hk,show(i+1)*k+t-k=i*k+t by grind,b i a];rfl
theorem jK.store (h:jK bd k E B w (.slice (some ⟨a,0,none⟩) m X) l) (g:m=l.length) (hk:∀x,(bd x).length=k) {i t:Nat} {x y:α} {u:Value} (c:l[i]?=some x) (ht:t<k) (b:(bd x).set t u=bd y):
  jK bd k E B (w.setCell ⟨a,i*k+t,none⟩ u) (.slice (some ⟨a,0,none⟩) m X) (l.set i y):=by
 subst g;have:=(World.ownsRow.stored h (i*k+t) u).1;grind [UZ,jK]
theorem jK.form (h:jK bd k E B w v l) (b:l≠[]):∃g cap,v=.slice (some ⟨g,0,none⟩) l.length cap/\B<=g/\g<w.heap.size/\l.length<=cap/\cap<=maxLen:=by
 rcases h.2 with⟨rfl,a⟩ | ⟨g,cap,aX,rfl,c,d,a,e,hs,ht⟩
 ·grind
 ·grind
theorem jK.cellAt (h:jK bd k E B w (.slice (some ⟨a,0,none⟩) m X) l) (b:m=l.length) (hk:∀x,(bd x).length=k) {i t:Nat} {x:α} (c:l[i]?=some x) (ht:t<k) (hu:(bd x)[t]?=some v):
  w.cell? ⟨a,i*k+t,none⟩=some v/\w.frozen? ⟨a,i*k+t,none⟩=false:=by
 subst b;have hi:=wy c;have g:i*k+t<l.length*k:=by
  have:(i+1)*k<=l.length*k:=Zbc k hi;grind
 refine⟨?_,World.ownsRow.frozenAt h _⟩;rw[World.ownsRow.cellAt h (i*k+t) g,<-hu];grind [xL]
def o7 (h:Below B w d) (n:Nat):Below B w (d.drewN n):=⟨h.os,h.tape,h.output,h.size,h.block⟩
theorem tk {β:Type} (f:W->List β) {p:W} (h:N[B]?=some p):(N.take (B+1)).flatMap f=(N.take B).flatMap f++f p:=by
 grind [List.take_add_one]
theorem fg {β:Type} (f:W->List β) (n:Nat) (h:∀x,(f x).length<=n) (l:List W):(l.flatMap f).length<=l.length*n:=by
 induction l with
 | nil=>simp
 | cons x t a=>simp only[Zbt,Zab,Zae];have:=h x;rw[ZaV];omega
variable {α:Type} {bd:α->List Value} {k:Nat}
variable {E Y g:TypeId} {B:Nat} {v:Value} {l:List α} {w:World}
def bT (w:World) (v a:Value):Prop:=a.ownBlock=v.ownBlock\/a.ownBlock=none\/∃k,a.ownBlock=some k/\w.heap.size<=k
theorem Z1 {P:Program} (w:World) {ty:TypeId} {bytes:Nat} {b off m c:Nat} (news:List Value)
  (I:lI P E Y k B) (d:jK bd k Y bytes w v l) (hl:news.length=m*k) (C:∀j u,news[j]?=some u->w.cell? ⟨b,off+j,none⟩=some u) (h1:∀u∈news,u.oneCell')
  (t:l.length+m<=maxLen) (f:(l.length+m)*B<=140737488355328) (L:bytes<=w.heap.size):
  ∃q r,(Builtin.append_ #[E,E] ty #[v,.slice (some ⟨b,off,none⟩) m c]).run P w=.ok q r/\r.ownsRow bytes Y k q (l.length+m) (flat bd l++news)/\w.grownBy r v.ownBlock/\bT w v q:=by
 obtain⟨hu,⟨i,z,hi,hz,da,o,Ϲ⟩,H⟩:=I;have n:∀j u,news[j]?=some u->w.cell? ((⟨b,off,none⟩:Addr).add j)=some u:=λj u h=>by grind [Addr.add_lit]
 obtain⟨q,r,s,J,K,_⟩:=run_append_own (P:=P) w bytes E ty Y i z k B hu hi hz da o Ϲ H v l.length _ d ⟨b,off,none⟩ m c news hl n h1 t f L;refine⟨q,r,s,J,K,?_⟩;rcases d.2 with⟨rfl,Q⟩ | ⟨g,cap,aX,rfl,M,O,R,N,x,D⟩
 ·have A:l=[]:=Zap Q;subst A;obtain⟨U,V,a,k2,_,_⟩:=run_append_own (P:=P) w w.heap.size E ty Y i z k B hu hi hz da o Ϲ H (.slice none 0 0) 0 [] (World.ownsRow_nil _ _ _ _) ⟨b,off,none⟩ m c news hl n h1 (by assumption) (by assumption) (Zah _);rw[s] at a;cases a;rcases k2.2 with⟨rfl,_⟩ | ⟨g2,F,G,rfl,y,_⟩
  ·exact .inr (.inl rfl)
  ·exact .inr (.inr ⟨g2,rfl,y⟩)
 ·by_cases e:l.length+m<=cap
  ·have p:l.length*i.size+news.length<=aX.size:=by rw[hl,x,da,<-ZbL];exact Zbc _ e
   have a:=run_append_room (P:=P) w E ty Y i hu hi g l.length cap aX O ⟨b,off,none⟩ m c news (by grind) n h1 e p;rw[s] at a;cases a;exact .inl rfl
  ·have holds:∀j u,(flat bd l)[j]?=some u->w.cell? ((⟨g,0,none⟩:Addr).add j)=some u:=World.ownsRow.cells d (g:=g) rfl;have S:l.length+m<=9223372036854775807:=by assumption
   have a:=run_append_grow (P:=P) w E ty Y i z hu hi hz ⟨g,0,none⟩ l.length cap (flat bd l) (by rw[da];exact d.1) holds ⟨b,off,none⟩ m c news (by grind) n ω ω (growslice_fits ω (by grind));rw[s] at a;cases a;exact .inr (.inr ⟨_,rfl,Zah _⟩)
theorem B7 {P:Program} {ops:Array Oper} {rest:List Oper} {o:Oper} {a:Act} {Q:Exit->Act->World->Prop} {T E:TypeId} {bytes:Nat} {s x:Operand} {cs:Array Value} {n:Nat}
  (r:lI P T E k B) (i:o.guard=none) (F:o.op=.call { callee:=.builtin .append,args:=#[s,x],argTypes:=#[T,T] })
  (hs:a.eval s=v) (H:a.eval x=.slice (some ⟨n,0,none⟩) 1 1) (D:n=w.heap.size) (d:jK bd k E bytes w v l) (y:α) (I:cs.toList=bd y) (hk:∀x,(bd x).length=k) (h1:∀x,∀u∈bd x,u.oneCell')
  (q:l.length<1000000000) (N':B<=65536) (M:bytes<=w.heap.size)
  (h:∀e f,jK bd k E bytes f e (l++[y])->(w.alloc (.cells cs g)).grownBy f v.ownBlock->bT w v e->wpList P ops Q rest (a.put o.dst e) f):wpList P ops Q (o::rest) a (w.alloc (.cells cs g)):=by
 subst D;have hmul:(l.length+1)*B<=1000000000*65536:=Zci ω N';have p:=Rd.built (w:=w) (E:=g) (cs:=cs) (bd:=bd) [y] 1 rfl (by simp[I,flat]) ω;obtain⟨_,_,C⟩:=p.at_ _ rfl ω;obtain⟨e,f,G,J,t,b⟩:=Z1 (P:=P) (ty:=o.type) (m:=1) (c:=1) (w.alloc (.cells cs g)) (flat bd [y]) r (d.alloc _) (by rw[mD hk];rfl) C (λu hu=>by
  obtain⟨z,_,hz⟩:=ZbG.1 hu;exact h1 z u hz) (by grind [maxLen]) ω (by grind)
 refine wpList_plain i λK A=>?_
 unfold Oper.wp execOp;simp only[F,resolve,invoke,builtin,Zzd,Zzc,Zzb,List.map_toArray,Zbl,Zcj,hs,H,G];refine A _ _ (h e f ?_ t ?_)
 ·grind [jK,jv]
 ·rcases b with b | b | ⟨j,b,L⟩
  ·exact .inl b
  ·exact .inr (.inl b)
  ·exact .inr (.inr ⟨j,b,by grind⟩)
def gV (v u:Value):Prop:=∀k,v.ownBlock=some k->u.ownBlock≠some k
theorem jK.aN {a:World} {u:Value} (h:jK bd k E B w v l) (c:w.grownBy a u.ownBlock) (b:gV v u):jK bd k E B a v l:=by
 refine World.ownsRow.kept h c ?_;rcases d:v.ownBlock with _ | j
 ·grind
 ·refine .inr λe=>b j d e.symm
theorem gV.fresh {u c:Value} (d:gV v u) (h:jK bd k E B w v l) (a:bT w u c):gV v c:=by
 intro j b e;rcases a with a | a | ⟨k2,a,f⟩
 ·exact d j b (a▸e)
 ·grind
 ·have:=(h.lt j b).2;grind
end sl
end Go.Proofs.YtklaonhcplaofaaGreat
