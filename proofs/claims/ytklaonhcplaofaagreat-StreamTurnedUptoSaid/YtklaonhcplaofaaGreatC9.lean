/- StreamTurned: a part of the proof. -/
import Derived.Test.YtklaonhcplaofaaGreatC8
import Derived.Test.YtklaonhcplaofaaGreatC5
import Derived.Test.YtklaonhcplaofaaGreatC6
set_option linter.all false
namespace Go.Proofs.YtklaonhcplaofaaGreat
open Go.Proofs.Tryz
set_option maxRecDepth 100000
set_option maxHeartbeats 4000000
namespace sx
noncomputable section
open Go Go.RowKit cls syn
variable {a:Nat} {Z:ah} {m:ed}
theorem AtK.num (h:AtK m a Z):a<=480/\Z.af.length<=480:=by
 have⟨r,h1⟩:=h.nd;have b:=pI h1;have c:=h.len;have key:∀l:List ah,l.length<=(aA l).length:=λl=>by
  induction l with
  | nil=>simp
  | cons x l d=>simp only[aA,Zab,Zae];rw[bQ];simp;omega
 grind [bQ]
def Kf (h:AtK m a Z) (k:Nat):uw (m,(a:Int)) k=(fu Z a k:Nat):=by
 unfold uw fu;rw[aI,h.t];omega
theorem j5 (t:ah) (a:Nat):fu t a 0=a+1:=by rfl
def TL (h:a<Z.af.length):2*dc (Z.af.getD a bA)+1<2*dc Z:=by have:=im h;omega
def AtK.go (h:AtK m a Z) {x:Nat} (b:x<Z.af.length) (c:List aS) (e:c.length+bp (Z.af.getD x bA)<=400):
  kD (⟨c,m.bt,m.cy,m.aQ⟩,(fu Z a x:Nat))/\ed.t (⟨c,m.bt,m.cy,m.aQ⟩,(fu Z a x:Nat))=Z.af.getD x bA/\gU (⟨c,m.bt,m.cy,m.aQ⟩,(fu Z a x:Nat))=c++bP (Z.af.getD x bA) c.length/\(bP (Z.af.getD x bA) c.length).length=bp (Z.af.getD x bA)/\(fu Z a x:Nat)<m.aQ.length/\m.aQ.getD (fu Z a x) 0=(fu Z a (x+1):Nat):=by
 have hk:=h.TK b c e;have⟨d,e2⟩:=hk.enx;exact⟨hk.nda,hk.t,hk.cod,ir _ _ hk.wf,d,by rw[e2,Ak b]⟩
theorem Qo1 (y:uu) (l:Ht.pre y):TG y:=by
 have⟨m,i⟩:=y;obtain⟨a,rfl,h⟩:=kD.out l;have d:kD (m,(a:Int)):=l;have C:lk (ck (List.drop a m.bt)).1=ed.t (m,(a:Int)):=rfl;have z:=h.cod;have A:∀k,Eg (m,(a:Int)) k=m.ab++bq ((ed.t (m,(a:Int))).af.take k) m.ab.length:=λk=>by grind [Eg,aI]
 have B:∀k,uw (m,(a:Int)) k=(fu (ed.t (m,(a:Int))) a k:Nat):=Kf h;unfold TG Qdo Qdp;simp only[Zad,C,A,B,z];generalize ed.t (m,(a:Int))=t at*
 have⟨g1,g2⟩:=h.ndx;have⟨b1,I⟩:=h.num;rw[g2];have wf:=(iq _).mp h.wf;have j:=h.fit;have f:=kE t m.ab.length;have da:=size_eq t;unfold oW at da;have J:t.r.length<=1000000:=by
  have⟨r,h1⟩:=h.nd;have:(⟨t.op,t.r,t.mn,t.mx,t.lz,t.cap,t.af.length⟩:Nd)∈m.bt:=Zc5 (i:=a) (by grind [bQ]);exact h.nds _ this
 simp only[bI,bH,av,cS,bm,Zad];refine⟨ω,ω,λE=>⟨ω,ω,?_⟩,λE=>⟨λG=>⟨ω,?_⟩,λG=>⟨λH=>⟨ω,?_⟩,λH=>⟨λF=>⟨⟨0,by grind [j5],rfl,by simp[bq],by simp[bq],Zaj _⟩,λx K=>⟨λe=>?_,λe=>?_⟩⟩,λF=>⟨λn=>⟨⟨d,n⟩,ω⟩,λn=>⟨λo=>⟨⟨d,o⟩,ω⟩,λo=>⟨λp=>?_,λp=>?_⟩⟩⟩⟩⟩⟩⟩
 ·grind
 ·grind
 ·grind
 ·have c:x<t.af.length:=ω;have g:=Aj t.af x c;have hl:=mz (t.af.take x) m.ab.length (wf.2.2.take x);have⟨c1,c2,c3,c4,c5,c6⟩:=h.go c (m.ab++bq (t.af.take x) m.ab.length) (by grind);have b:lk (ck (List.drop (fu t a x) m.bt)).1=t.af.getD x bA:=c2;have ht:=cg bA c;rw[b,c3];have hs:m.ab++bq (t.af.take x) m.ab.length++bP (t.af.getD x bA) (m.ab++bq (t.af.take x) m.ab.length).length=m.ab++bq (t.af.take (x+1)) m.ab.length:=by
   grind [Hu]
  exact⟨⟨c1,by have:=TL c;omega⟩,ω,ω,x+1,c6,bK ω,by rw[hs],hs,ω,ω⟩
 ·grind
 ·have⟨q,s,u⟩:=wf.1.uk p;have q:(t.af.length:Int)=1:=q;have s:1<=t.cap:=s;have u:t.cap<=4:=u;have c:0<t.af.length:=ω;have D:t.af=[t.af.getD 0 bA]:=by
   match hk:t.af,(show t.af.length=1 by omega) with
   | [k],_=>rfl
  have qo:aP t.af=bp (t.af.getD 0 bA):=by grind [aP]
  have e8:iB .i64 2 t.cap=2*t.cap:=Bm ω ω;have w:aw .i64 (2*t.cap) 1=2*t.cap+1:=ba ω ω;have v:aw .i64 (a:Int) 1=(fu t a 0:Nat):=by grind [j5]
  simp only[e8,w,v,Zad];have⟨c1,c2,c3,c4,c5,c6⟩:=h.go c (m.ab++[aS.mk 4 (2*t.cap) 0 []]) (by grind);have b:lk (ck (List.drop (fu t a 0) m.bt)).1=t.af.getD 0 bA:=c2;rw[b,c3];have hs:m.ab++[aS.mk 4 (2*t.cap) 0 []]++bP (t.af.getD 0 bA) (m.ab++[aS.mk 4 (2*t.cap) 0 []]).length++[aS.mk 4 (2*t.cap+1) 0 []]=m.ab++bP t m.ab.length:=by
   grind [bq]
  refine⟨ω,⟨c1,by have:=TL c;omega⟩,?_,by rw[hs],hs⟩;grind
 ·grind
theorem Qo2 (y:uu) (hy:MU.pre y):TH y:=by
 have⟨m,i⟩:=y;obtain⟨B,F⟩:kD (m,i)/\(ed.t (m,i)).op=4:=hy;obtain⟨a,rfl,h⟩:=kD.out B;have T:lk (ck (List.drop a m.bt)).1=ed.t (m,(a:Int)):=rfl;have O:=h.cod;have Q:∀k,Eh (m,(a:Int)) k=m.ab++fo ((ed.t (m,(a:Int))).af.take k) m.ab.length 0:=λk=>by grind [Eh,aI]
 have P:∀k,Ei (m,(a:Int)) k=jy ((ed.t (m,(a:Int))).af.take k) m.ab.length:=λk=>by grind [Ei,aI]
 have S:BH (m,(a:Int))=m.ab++jR (ed.t (m,(a:Int))).af m.ab.length 0:=by unfold BH;rw[aI]
 have N:BI (m,(a:Int))=jy (ed.t (m,(a:Int))).af.dropLast m.ab.length:=by unfold BI;rw[aI]
 have U:∀j,Ej (m,(a:Int)) j=((BI (m,(a:Int))).take j).foldl (kC (gU (m,(a:Int))).length) (BH (m,(a:Int))):=λj=>by unfold Ej;rw[aI]
 have R:∀k,uw (m,(a:Int)) k=(fu (ed.t (m,(a:Int))) a k:Nat):=Kf h;unfold TH;simp only[Zad,T,Q,P,U,R,O,S,N];generalize ed.t (m,(a:Int))=t at*
 have⟨g1,g2⟩:=h.ndx;have⟨b1,b2⟩:=h.num;rw[g2];have wf:=(iq _).mp h.wf;have J:=h.fit;have o:=kE t m.ab.length;rw[Zaa ω,Zaa ω,Zaa ω,Zaa ω,Zac F] at o;have da:=size_eq t;unfold oW at da;rw[Zaa ω,Zac F] at da;have X:2<=t.af.length:=by have h:=wf.1.aG F;simp only at h;omega
 have g:t.af=t.af.dropLast++[t.af.getD (t.af.length-1) bA]:=by
  conv=>lhs;rw[<-ZaM (l:=t.af),show t.af.length=(t.af.length-1)+1 by omega]
  grind [cg]
 have r:t.af.take (t.af.length-1)=t.af.dropLast:=by grind
 have D:my t.af.dropLast:=by rw[<-r];exact wf.2.2.take _
 simp only[bI,bH,av,cS,bm,Zad,a7,ZaX,ZaY,ZaZ];have A:aw .i64 (a:Int) 1=(fu t a 0:Nat):=by rw[ba ω ω,j5];rfl
 have K:cF .i64 (t.af.length:Int) 1=((t.af.length-1:Nat):Int):=zO ω ω;refine⟨⟨ω,ω,⟨0,by rfl,A,rfl,by simp[fo],by simp[fo],ω⟩,λx hx=>⟨λe=>?_,λe=>ω⟩⟩,⟨0,rfl,by simp,rfl,Zaj _⟩,λj hj=>⟨λe=>?_,λe=>?_⟩⟩
 ·have d:x<t.af.length:=ω;have H:=Aj t.af x d;have hl:=Y' (wf.2.2.take x) m.ab.length 0;have s:(t.af.take x).length=x:=by grind
  have c:(m.ab++fo (t.af.take x) m.ab.length 0).length=m.ab.length+(aP (t.af.take x)+2*x):=by grind
  refine⟨ω,ω,λel=>?_,λel=>?_⟩
  ·have E:x=t.af.length-1:=ω;have⟨c1,c2,c3,c4,c5,c6⟩:=h.go d (m.ab++fo (t.af.take x) m.ab.length 0) ω;have f:lk (ck (List.drop (fu t a x) m.bt)).1=t.af.getD x bA:=c2;rw[f,c3];have hs:m.ab++fo (t.af.take x) m.ab.length 0++bP (t.af.getD x bA) (m.ab++fo (t.af.take x) m.ab.length 0).length=m.ab++jR t.af m.ab.length 0:=by
    conv=>rhs;rw[g,pJ]
    rw[c,E,r,ZaD,show t.af.dropLast.length=t.af.length-1 by simp]
   exact⟨⟨c1,by have:=TL d;omega⟩,by grind,by rw[hs],hs⟩
  ·have⟨c1,c2,c3,c4,c5,c6⟩:=h.go d (m.ab++fo (t.af.take x) m.ab.length 0++[aS.mk 2 0 0 []]) (by grind);have f:lk (ck (List.drop (fu t a x) m.bt)).1=t.af.getD x bA:=c2;rw[f,c3];have hs:fe (((m.ab++fo (t.af.take x) m.ab.length 0++[aS.mk 2 0 0 []]++bP (t.af.getD x bA) (m.ab++fo (t.af.take x) m.ab.length 0++[aS.mk 2 0 0 []]).length++[aS.mk 3 0 0 []]).length:Nat):Int) false (m.ab++fo (t.af.take x) m.ab.length 0++[aS.mk 2 0 0 []]++bP (t.af.getD x bA) (m.ab++fo (t.af.take x) m.ab.length 0++[aS.mk 2 0 0 []]).length++[aS.mk 3 0 0 []]) ((m.ab++fo (t.af.take x) m.ab.length 0).length:Nat)=m.ab++fo (t.af.take (x+1)) m.ab.length 0:=by
    rw[cg bA d,MX,s];have M:∀(p:List aS) (u v:aS) (q:List aS),p++[u]++q++[v]=p++u::(q++[v]):=λp u v q=>by simp
    rw[M,r6 rfl,ZaD,c];have z:(m.ab++fo (t.af.take x) m.ab.length 0++[(aS.mk 2 0 0 []:aS)]).length=m.ab.length+(aP (t.af.take x)+2*x)+1:=by grind
    rw[z];have n2:(m.ab++(fo (t.af.take x) m.ab.length 0++(aS.mk 2 0 0 []:aS)::(bP (t.af.getD x bA) (m.ab.length+(aP (t.af.take x)+2*x)+1)++[aS.mk 3 0 0 []]))).length=m.ab.length+(aP (t.af.take x)+2*x)+2+bp (t.af.getD x bA):=by
     grind
    simp only[ZaD,n2];rfl
   have n3:(m.ab++fo (t.af.take x) m.ab.length 0++[aS.mk 2 0 0 []]++bP (t.af.getD x bA) (m.ab++fo (t.af.take x) m.ab.length 0++[aS.mk 2 0 0 []]).length).length=m.ab.length+(aP (t.af.take x)+2*x)+1+bp (t.af.getD x bA):=by
    grind
   refine⟨ω,⟨c1,TL d⟩,ω,?_,⟨?_,ω,?_⟩,ω,ω,x+1,?_,c6,bK ω,by rw[hs],hs,ω,ω⟩
   ·grind [En]
   ·grind
   ·grind
   ·rw[cg bA d,MY,s,n3]
 ·have d:j<(jy t.af.dropLast m.ab.length).length:=ω;have L:(List.foldl (kC ((m.ab++bP t m.ab.length).length:Nat)) (m.ab++jR t.af m.ab.length 0) ((jy t.af.dropLast m.ab.length).take j)).length=(m.ab++bP t m.ab.length).length:=by
   grind [Ah,kF]
  have Y:∀(l:List ah) (b:Nat) (v:Int),v∈jy l b->0<=v/\v<(b+aP l+2*l.length:Nat):=λl=>by
   induction l with
   | nil=>intro b v w;cases w
   | cons u l ih=>
    intro b v w;rw[aP,Zae];rcases List.mem_cons.mp w with w | w
    ·omega
    ·grind
  have V:(jy t.af.dropLast m.ab.length).getD j 0∈jy t.af.dropLast m.ab.length:=by grind
  have⟨v1,v2⟩:=Y _ _ _ V;have Z:aP t.af.dropLast<=aP t.af:=by
   grind [s_]
  have z:(m.ab++bP t m.ab.length).length=m.ab.length+(aP t.af+2*(t.af.length-1)):=by grind [kF]
  have I:t.af.dropLast.length=t.af.length-1:=by simp
  have C:∀(n:List Int) (l:List aS) (e:Int),n.take (j+1)=n.take j++[n.getD j 0]->List.foldl (kC e) l (n.take (j+1))=kC e (List.foldl (kC e) l (n.take j)) (n.getD j 0):=λn l e h=>by grind
  have G:=C _ (m.ab++jR t.af m.ab.length 0) ((m.ab++bP t m.ab.length).length:Nat) (cg 0 d);have W:=En t.af.dropLast m.ab.length;rw[L];refine⟨ω,e,v1,ω,j+1,bK ω,?_,?_,ω,ω⟩
  ·rw[G,iu,L]
  ·rw[G];rfl
 ·have d:j=(jy t.af.dropLast m.ab.length).length:=ω;have hs:List.foldl (kC ((m.ab++bP t m.ab.length).length:Nat)) (m.ab++jR t.af m.ab.length 0) (jy t.af.dropLast m.ab.length)=m.ab++bP t m.ab.length:=by
   have z:(m.ab++bP t m.ab.length).length=m.ab.length+aP t.af+2*(t.af.length-1):=by grind [kF]
   rw[z];have:=BJ (e:=m.ab.length+aP t.af+2*(t.af.length-1)) t.af.dropLast m.ab (bP (t.af.getD (t.af.length-1) bA) (m.ab.length+(aP t.af.dropLast+2*t.af.dropLast.length))) m.ab.length D rfl;grind [pJ]
  grind
theorem AtK.Qo3 (h:AtK m a Z) {x:Nat} (g:x<Z.af.length):fu Z a x<m.cy.length/\m.cy.getD (fu Z a x) 0=ey (bp (Z.af.getD x bA)):=by
 have⟨i,c⟩:=h.sz;have f:Z.af=Z.af.take x++(Z.af.getD x bA::Z.af.drop (x+1)):=by
  simp_all
 have d:jr Z=(ey (bp Z)::fC (Z.af.take x))++(jr (Z.af.getD x bA)++fC (Z.af.drop (x+1))):=by
  grind [qI,r4,fC]
 rw[d] at c;have e:=xw (b:=fu Z a x) c (by grind [fu,kz]);grind [qI,Ke]
theorem Qo4 (y:uu) (hy:MV.pre y):TI y:=by
 have⟨m,i⟩:=y;obtain⟨K,R⟩:kD (m,i)/\(ed.t (m,i)).op=5:=hy;obtain⟨a,rfl,h⟩:=kD.out K;have eT:lk (ck (List.drop a m.bt)).1=ed.t (m,(a:Int)):=rfl;have Z:=h.cod;have eK:∀k,r5 (m,(a:Int)) k=m.ab++gT (bq (ed.t (m,(a:Int))).af) (aP (ed.t (m,(a:Int))).af) k m.ab.length:=λk=>by grind [r5,aI]
 have Y:MW (m,(a:Int))=(r5 (m,(a:Int)) (ed.t (m,(a:Int))).mn.toNat).length:=by grind [MW,aI]
 have eS:∀k,yC (m,(a:Int)) k=r5 (m,(a:Int)) (ed.t (m,(a:Int))).mn.toNat++e_ (λ_=>aS.mk 2 0 0 []) (bq (ed.t (m,(a:Int))).af) (aP (ed.t (m,(a:Int))).af) k (MW (m,(a:Int))):=λk=>by unfold yC;rw[aI]
 have eJ:∀k,uy (m,(a:Int)) k=js (aP (ed.t (m,(a:Int))).af) k (MW (m,(a:Int))):=λk=>by unfold uy;rw[aI]
 have eM:kT (m,(a:Int))=kB (ed.t (m,(a:Int))).mn (ed.t (m,(a:Int))).mx:=by unfold kT;rw[aI]
 have eX:∀j,Ek (m,(a:Int)) j=((uy (m,(a:Int)) (kT (m,(a:Int)))).take j).foldl (fe (gU (m,(a:Int))).length (ed.t (m,(a:Int))).lz) (yC (m,(a:Int)) (kT (m,(a:Int)))):=λj=>by unfold Ek;rw[aI]
 unfold TI;simp only[Zad,eT,eX,Z,eJ,eS,Y,eM,eK];generalize ed.t (m,(a:Int))=t at*
 have⟨g1,g2⟩:=h.ndx;have⟨b1,b2⟩:=h.num;rw[g2];have wf:=(iq _).mp h.wf;have T:=h.fit;have d:=kE t m.ab.length;rw[Zaa ω,Zaa ω,Zaa ω,Zaa ω,Zaa ω,Zac R] at d;unfold Hs at d;have da:=size_eq t;unfold oW at da;rw[Zaa ω,Zaa ω,Zaa ω,Zac R] at da;have⟨V,W,X,w4⟩:=wf.1.rep R;have V:(t.af.length:Int)=1:=V;have W:0<=t.mn:=W;have X:t.mn<=30:=X;have w4:t.mx= -1\/(t.mn<=t.mx/\t.mx<=30):=w4;have B:0<t.af.length:=ω;have hks:t.af=[t.af.getD 0 bA]:=by
  match hk:t.af,(show t.af.length=1 by omega) with
  | [k],_=>rfl
 have qo:aP t.af=bp (t.af.getD 0 bA):=by grind [aP]
 have hcl:∀b,bq t.af b=bP (t.af.getD 0 bA) b:=λb=>by grind [bq]
 have f:∀b,(bq t.af b).length=aP t.af:=λb=>mz _ b wf.2.2
 have hrl:=λn=>oY f n m.ab.length
 have I:aw .i64 (a:Int) 1=(fu t a 0:Nat):=by grind [j5]
 have⟨s1,U⟩:=h.Qo3 B;rw[<-qo] at U;have L:(t.af.length:Int)=t.nk:=wf.2.1.symm;have hk1:=j5 t a;have s:=TL B;have hN:t.mn=(t.mn.toNat:Int):=ω
 
 have go:∀c:List aS,c.length+aP t.af<=400->kD (⟨c,m.bt,m.cy,m.aQ⟩,(fu t a 0:Nat))/\gU (⟨c,m.bt,m.cy,m.aQ⟩,(fu t a 0:Nat))=c++bq t.af c.length:=λc r=>by
  rw[qo] at r;have⟨c1,c2,c3,c4,c5,c6⟩:=h.go B c r;grind
 have c2:∀c:List aS,c.length+aP t.af<=400->lk (ck (List.drop (fu t a 0) m.bt)).1=t.af.getD 0 bA:=λc r=>by
  rw[qo] at r;exact(h.go B c r).2.1
 simp only[bI,bH,I,av,cS,bm,Zad,a7,ZaX,ZaY,ZaZ,L,U];generalize aP t.af=sz at*
 generalize hNn:t.mn.toNat=N at*
 refine⟨ω,ω,⟨ω,ω,λe=>⟨⟨0,rfl,by simp[gT],by simp[gT],Zaj _⟩,λx hx=>⟨λE=>?_,λE=>?_⟩⟩,λe=>?_⟩,λem=>?_,λem=>?_⟩
 ·have o:x+1<=N:=ω;have hle:x*sz+sz<=N*sz:=by rw[<-ZaV];exact Zbc _ o
  have H:m.ab.length+N*sz<=400:=by grind
  have C:(m.ab++gT (bq t.af) sz x m.ab.length).length=m.ab.length+x*sz:=by grind
  have⟨z,A⟩:=go (m.ab++gT (bq t.af) sz x m.ab.length) ω;have hs:m.ab++gT (bq t.af) sz x m.ab.length++bq t.af (m.ab++gT (bq t.af) sz x m.ab.length).length=m.ab++gT (bq t.af) sz (x+1) m.ab.length:=by
   grind [Ae]
  grind [bK]
 ·grind
 ·have hz:sz=0:=by unfold ey at e;omega
  grind
 ·rw[Zac em] at da d;have C:(m.ab++gT (bq t.af) sz N m.ab.length).length=m.ab.length+N*sz:=by grind
  have F:m.ab++bP t m.ab.length=(m.ab++gT (bq t.af) sz N m.ab.length)++gI t.lz (m.ab.length+N*sz) (m.ab.length+N*sz+sz+2)::(bq t.af (m.ab.length+N*sz+1)++[⟨3,(m.ab.length+N*sz:Nat),0,[]⟩]):=by
   grind
  rw[F,<-C];generalize m.ab++gT (bq t.af) sz N m.ab.length=c0 at*
  have⟨z,A⟩:=go (c0++[aS.mk 2 0 0 []]) (by grind);have D:=c2 (c0++[aS.mk 2 0 0 []]) (by grind);have P:(c0++[aS.mk 2 0 0 []]).length=c0.length+1:=by simp
  rw[D,A,P];have Q:(c0++[aS.mk 2 0 0 []]++bq t.af (c0.length+1)++[aS.mk 3 c0.length 0 []]).length=c0.length+sz+2:=by grind
  have hs:fe ((c0++[aS.mk 2 0 0 []]++bq t.af (c0.length+1)++[aS.mk 3 c0.length 0 []]).length:Nat) t.lz (c0++[aS.mk 2 0 0 []]++bq t.af (c0.length+1)++[aS.mk 3 c0.length 0 []]) (c0.length:Nat)=c0++gI t.lz c0.length (c0.length+sz+2)::(bq t.af (c0.length+1)++[aS.mk 3 c0.length 0 []]):=by
   rw[Q];have E:∀(p:List aS) (u v:aS) (q:List aS),p++[u]++q++[v]=p++u::(q++[v]):=λp u v q=>by simp
   rw[E,r6 rfl];unfold gI;cases t.lz<;>simp
  have n4:(c0++[aS.mk 2 0 0 []]++bq t.af (c0.length+1)).length=c0.length+sz+1:=by grind
  exact⟨ω,⟨z,s⟩,ω,⟨ω,ω,ω⟩,by rw[hs],hs⟩
 ·rw[Zaa em] at da d;have C:(m.ab++gT (bq t.af) sz N m.ab.length).length=m.ab.length+N*sz:=by grind
  have F:m.ab++bP t m.ab.length=(m.ab++gT (bq t.af) sz N m.ab.length)++e_ (λi=>gI t.lz i (m.ab.length+N*sz+kB t.mn t.mx*(sz+1))) (bq t.af) sz (kB t.mn t.mx) (m.ab.length+N*sz):=by
   grind
  have hM:cF .i64 t.mx t.mn=((kB t.mn t.mx:Nat):Int):=by
   grind [kB]
  have G:t.mx.toNat-N=kB t.mn t.mx:=by unfold kB;omega
  have hMb:kB t.mn t.mx<=30:=ω;rw[G] at da;rw[F,hM,<-C];generalize kB t.mn t.mx=M at*
  generalize m.ab++gT (bq t.af) sz N m.ab.length=c0 at*
  have O:∀(g:Nat->aS) (k:Nat),(e_ g (bq t.af) sz k c0.length).length=k*(sz+1):=λg k=>oZ f k _
  have J:∀k,(js sz k c0.length).length=k:=λk=>Em k _
  refine⟨⟨0,by rfl,rfl,by simp[e_],by simp[e_],Zaj _⟩,λx hx=>⟨λe=>?_,λe=>⟨⟨0,?_,rfl,?_,?_,Zaj _⟩,λj hj=>⟨λe2=>?_,λe2=>?_⟩⟩⟩⟩
  ·have o:x+1<=M:=ω;have hle:x*(sz+1)+(sz+1)<=M*(sz+1):=by rw[<-ZaV];exact Zbc _ o
   have P:(c0++e_ (λ_=>aS.mk 2 0 0 []) (bq t.af) sz x c0.length).length=c0.length+x*(sz+1):=by grind
   have Q:(c0++e_ (λ_=>aS.mk 2 0 0 []) (bq t.af) sz x c0.length++[aS.mk 2 0 0 []]).length=c0.length+x*(sz+1)+1:=by grind
   have⟨z,A⟩:=go (c0++e_ (λ_=>aS.mk 2 0 0 []) (bq t.af) sz x c0.length++[aS.mk 2 0 0 []]) ω;have D:=c2 (c0++e_ (λ_=>aS.mk 2 0 0 []) (bq t.af) sz x c0.length++[aS.mk 2 0 0 []]) ω;have hs:c0++e_ (λ_=>aS.mk 2 0 0 []) (bq t.af) sz x c0.length++[aS.mk 2 0 0 []]++bq t.af (c0++e_ (λ_=>aS.mk 2 0 0 []) (bq t.af) sz x c0.length++[aS.mk 2 0 0 []]).length=c0++e_ (λ_=>aS.mk 2 0 0 []) (bq t.af) sz (x+1) c0.length:=by
    rw[Af,Q];simp
   rw[D,A];refine⟨ω,?_,⟨z,s⟩,x+1,?_,bK ω,by rw[hs],hs,ω,ω⟩
   ·grind
   ·rw[Ag,P]
  ·grind
  ·grind
  ·grind
  ·have w:x=M:=ω;subst w;rw[J] at e2;have e3:j<(js sz x c0.length).length:=by grind
   have n0:(List.foldl (fe ((c0++e_ (λi=>gI t.lz i (c0.length+x*(sz+1))) (bq t.af) sz x c0.length).length:Nat) t.lz) (c0++e_ (λ_=>aS.mk 2 0 0 []) (bq t.af) sz x c0.length) ((js sz x c0.length).take j)).length=c0.length+x*(sz+1):=by grind [Ai]
   have n5:(c0++e_ (λi=>gI t.lz i (c0.length+x*(sz+1))) (bq t.af) sz x c0.length).length=c0.length+x*(sz+1):=by grind
   have hp:∀(k b:Nat) (v:Int),v∈js sz k b->0<=v/\v<(b+k*(sz+1):Nat):=λk=>by
    induction k with
    | zero=>intro b v hv;cases hv
    | succ k ih=>
     grind [js]
   have⟨v1,v2⟩:=hp _ _ _ (show(js sz x c0.length).getD j 0∈js sz x c0.length by grind);have S:∀(l:List aS) (e:Int),List.foldl (fe e t.lz) l ((js sz x c0.length).take (j+1))=fe e t.lz (List.foldl (fe e t.lz) l ((js sz x c0.length).take j)) ((js sz x c0.length).getD j 0):=λl e=>by grind [cg]
   rw[n0];rw[n5] at*
   refine⟨ω,ω,⟨ω,v1,v2⟩,j+1,bK ω,?_,?_,ω,ω⟩
   ·rw[S,dX]
   ·rw[S]
  ·have w:x=M:=ω;have hs:List.foldl (fe ((c0++e_ (λi=>gI t.lz i (c0.length+j*(sz+1))) (bq t.af) sz j c0.length).length:Nat) t.lz) (c0++e_ (λ_=>aS.mk 2 0 0 []) (bq t.af) sz j c0.length) ((js sz j c0.length).take j)=c0++e_ (λi=>gI t.lz i (c0.length+j*(sz+1))) (bq t.af) sz j c0.length:=by
    rw[ZaA (by grind),Zab,O];exact BK f j c0 c0.length rfl
   grind
def qJ (l:List Nd):ah:=lk (ck l).1
def pT (t:ah) (r b:Nat):List aS:=⟨4,0,0,[]⟩::(bP t (b+1)++[⟨4,1,0,[]⟩,⟨7,r,0,[]⟩])
def mA:List (List Nd)->Nat->List aS->List Int->(List aS×List Int)×Int×Int
 | [],_,c,s=>((c,s),0,0)
 | l::ls,r,c,s=>if dE l=false then(([],[]),1,r) else if 400<c.length+bp (qJ l)+3 then(([],[]),12,r) else mA ls (r+1) (c++pT (qJ l) r c.length) (s++[(c.length:Int)])
def Hv (y:List (List Nd)):(List aS×List Int)×Int×Int:=if 8<y.length then(([],[]),13,8) else mA y 0 [] []
def bW (y:List (List Nd)):(List aS×List Int)×Int×Int:=lk (Hv y)
def QhD (args:List (AV D.E)) (s:St D.E):C (List (List Nd)):=match args with
 | [a]=>az (aU D s 9 a) λl=>.ret (l:List (List Nd))
 | _=>.fail
def o3 (y:List (List Nd)):Prop:=y.length<=1000000/\∀l∈y,∀x∈l,ik x
def Hw:br D:=bL 37 (List (List Nd)) QhD o3 (λy=>[.list 9 y]) λy=>.tuple [.agg [.list 8 (bW y).1.1,.list 5 (bW y).1.2],QsE (bW y).2.1,QsE (bW y).2.2]
structure CmX where
 c:List aS
 s:List Int
 n:List Nd
 z:List Int
 e:List Int
 r:Nat
def Y_ (y:List (List Nd)) (x:CmX):Prop:=x.r<=y.length/\y.length<=8/\x.c.length<=400/\x.s.length=x.r/\mA (y.drop x.r) x.r x.c x.s=bW y
def Qo5 (y:Hw.Y):cO D:=⟨[],[],[(250,⟨CmX,[15,16],λx=>[(2,.ptr 0 0),(3,.num .i64 0),(4,.num .i64 0),(5,.ptr 1 0),(6,.grow 5 x.s 3),(17,QsE x.r)],[],λx=>[(0,.cells [.dd,.dd] 72 false),(1,.cells [.own 2 4 (ag x.c),.list 7 x.n,.list 5 x.z,.list 5 x.e] 143 false),(2,.arr 8 x.c 149 false),(3,.tok 5 3)],4,Y_ y,λx=>y.length-x.r⟩)],[],1,[]⟩
def TM (y:List (List Nd)):Prop:=let k:=(bW y).2.2;let q1:=(bW y).2.1;ak (ay 8 (ag y)) ([]=(bW y).1.1/\[]=(bW y).1.2/\13=q1/\8=k/\True) ((∃z:CmX,aa [y] (aa [ag y] ([]=z.s/\0=((z.r:Nat):Int)/\0=ag z.c/\[]=z.n/\[]=z.z/\[]=z.e/\[]=z.c/\(Iv (Y_ y z)))))/\(∀x:CmX,let f:=((x.r:Nat):Int);let d:=gt [] y f.toNat;let g:=ag d;let o:=bC x.s [(x.c.length:Int)];let i:=kO g 0;let b:=mM.mk d i 0;let t:=ag (x.c++[aS.mk 4 0 0 []]);let q:=gt 0 (E7 b) 0;let l:=ay 400 (aw .i64 (aw .i64 (ag x.c) q) 3);let h:=(ed.mk (x.c++[aS.mk 4 0 0 []]) d (E7 b) (Hn b),(0:Int));let a:=gU h;let m:=ag (a++[aS.mk 4 1 0 []]);let j:=λp:Prop=>aa [d] (aa ([ag i,0]:List Int) (aa [i] p));(Iv (Y_ y x))->ak (ay f (ag y)) (aH 0 f/\ay f (ag y)/\Iv (cx d)/\aa [d] (ak (!(dE d)) ([]=(bW y).1.1/\[]=(bW y).1.2/\1=q1/\f=k/\True) (aH 0 g/\aH g g/\bx g 8/\aH 0 g/\aH g g/\bx g 8/\Iv (MT b)/\j (Iv (MT b)/\j (Tt 1 (ay 0 (ag i)/\aa [ag x.c,ag i,q] (ak l ([]=(bW y).1.1/\[]=(bW y).1.2/\12=q1/\f=k/\True) (Iv (x.c.length<=1000)/\aa ([4,0,0]:List Int) (aa ([[]]:List (List (Int×Int))) (aa [ag x.c] (aa [d] (aa [E7 b,Hn b] (aa [x.c] (bx (ag o) 8/\Iv (kD h)/\aa ([0,t]:List Int) (aa [d] (aa [E7 b,Hn b] (aa [x.c++[aS.mk 4 0 0 []]] (Iv (a.length<=1000)/\aa ([4,1,0]:List Int) (aa ([[]]:List (List (Int×Int))) (aa [ag a] (aa [d] (aa [E7 b,Hn b] (aa [a] (Iv ((a++[aS.mk 4 1 0 []]).length<=1000)/\aa ([7,f,0]:List Int) (aa ([[]]:List (List (Int×Int))) (aa [m] (aa [d] (aa [E7 b,Hn b] (aa [a++[aS.mk 4 1 0 []]] (∃z:CmX,aa [y] (aa [ag y] (o=z.s/\aw .i64 f 1=((z.r:Nat):Int)/\ag ((a++[aS.mk 4 1 0 []])++[aS.mk 7 f 0 []])=ag z.c/\d=z.n/\E7 b=z.z/\Hn b=z.e/\((a++[aS.mk 4 1 0 []])++[aS.mk 7 f 0 []])=z.c/\(Iv (Y_ y z/\(y.length-z.r)<(y.length-x.r))))))))))))))))))))))))))))))))))) (x.c=(bW y).1.1/\x.s=(bW y).1.2/\0=q1/\0=k/\True)))
inductive Fk where
 | n | a | r
noncomputable section
def fkC:Fk->br D
 | .n=>Ht | .a=>MU | .r=>MV
def Qo7:∀i,(fkC i).Y->Nat
 | .n=>λy=>2*dc (ed.t y)+1 | .a=>λy=>2*dc (ed.t y) | .r=>λy=>2*dc (ed.t y)
def fkF:Fk->Func
 | .n=>f65 | .a=>f104 | .r=>f105
def QhF:Fk->tI
 | .n=>[uv] | .a=>[uv,Ef] | .r=>[uv,Ef]
def fkO:∀i,(fkC i).Y->cO D
 | .n=>QhA | .a=>QhB | .r=>QhC
def Qo8:∀i,Ok (fkC i):=
 wJ [.n,.a,.r] fkC Qo7 (fn:=fkF) (tab:=QhF) (iH:=fkO)
  (λi=>match i with
   | .n=>Kd | .a=>⟨Kd,QaS⟩ | .r=>⟨Kd,QaS⟩)
  (λi=>match i with
   | .n=>by kernel_rfl | .a=>by kernel_rfl | .r=>by kernel_rfl)
  (λi=>match i with
   | .n=>by kernel_rfl | .a=>by kernel_rfl | .r=>by kernel_rfl)
  λi=>match i with
   | .n=>λy b=>Eq.mp (Y7 y) (Qo1 y b) | .a=>λy b=>Eq.mp (Y8 y) (Qo2 y b) | .r=>λy b=>Eq.mp (Y9 y) (Qo4 y b)
end
theorem Qo9 (y:List (List Nd)) (J:Hw.pre y):TM y:=by
 obtain⟨h1,v⟩:y.length<=1000000/\∀l∈y,∀x∈l,ik x:=J;have i:bW y=Hv y:=by grind [bW,aI]
 unfold TM;simp only[bI,bH,av,cS,bm,Zad,a7,Zan,Zao,Zah,ZaQ,ZaF];unfold Hv at i;refine⟨λe=>?_,λe=>?_⟩
 ·grind
 ·rw[Zaa ω] at i;refine⟨⟨⟨[],[],[],[],[],0⟩,rfl,rfl,rfl,rfl,rfl,rfl,rfl,Zaj _,ω,Zaj _,rfl,i.symm⟩,λx I=>?_⟩;obtain⟨c,s,n,z,en,r⟩:=x;obtain⟨i1,i2,i3,i4,i5⟩:=I;simp only at i1 i3 i4 i5 ⊢;refine⟨λe2=>?_,λe2=>?_⟩
  ·have M:r<y.length:=ω;have D:y.drop r=y.getD r []::y.drop (r+1):=by simp_all
   have d:cx (y.getD r []):=v _ (by grind);rw[D,mA] at i5;generalize y.getD r []=l at*
   refine⟨e2,d,λq=>?_,λq=>?_⟩
   ·grind
   ·rw[Zaa (by grind)] at i5;obtain⟨t,h,L,u⟩:=iU q;have ht:qJ l=t:=by
     have:=jQ (a:=0) (r:=[]) h (show l.drop 0=aD t++[] by grind);assumption
    have f:(kO (l.length:Int) (0:Int)).length=l.length:=by simp[kO]
    have g:MT ⟨l,kO (l.length:Int) 0,0⟩:=⟨ZaQ _,f,u,t,[],h,by grind⟩;have K:mM.t ⟨l,kO (l.length:Int) 0,0⟩=t:=by assumption
    have H:∀s:List Int,s.length=l.length->j4 (kO (l.length:Int) 0) 0 s=s:=λs hs=>by
     grind [j4]
    have F:(aD t).length=l.length:=by rw[L]
    have da:E7 ⟨l,kO (l.length:Int) 0,0⟩=jr t:=by grind [E7,aI,Ed]
    have j:Hn ⟨l,kO (l.length:Int) 0,0⟩=pS t 0:=by grind [Hn,aI,Ee]
    have p:0<l.length:=by grind [rZ]
    have k:(jr t).getD 0 0=ey (bp t):=by rw[qI];rfl
    rw[ht] at i5;rw[da,j,k,f];have B:=Hr (bp t);rw[ba (a:=(c.length:Int)) (b:=ey (bp t)) ω ω,ba ω ω];have o:ey (bp t)=min (bp t:Int) 401:=rfl;refine⟨ω,ω,g,g,ω,λA=>?_,λA=>?_⟩
    ·grind
    ·rw[Zaa ω] at i5;have m:AtK ⟨c++[aS.mk 4 0 0 []],l,jr t,pS t 0⟩ 0 t:=⟨u,d,h,by grind,⟨[],by grind⟩,⟨[],by simp⟩,⟨[],by simp⟩⟩;have w:gU (⟨c++[aS.mk 4 0 0 []],l,jr t,pS t 0⟩,(0:Int))=c++[aS.mk 4 0 0 []]++bP t (c++[aS.mk 4 0 0 []]).length:=m.cod;have G:kD (⟨c++[aS.mk 4 0 0 []],l,jr t,pS t 0⟩,(0:Int)):=m.nda;have C:=ir t (c++[aS.mk 4 0 0 []]).length h;rw[w];have hs:c++[aS.mk 4 0 0 []]++bP t (c++[aS.mk 4 0 0 []]).length++[aS.mk 4 1 0 []]++[aS.mk 7 r 0 []]=c++pT t r c.length:=by
      unfold pT;simp
     have E:(c++pT t r c.length).length=c.length+bp t+3:=by
      grind
     refine⟨ω,by grind,G,?_,?_,⟨c++pT t r c.length,s++[(c.length:Int)],l,jr t,pS t 0,r+1⟩,rfl,bK ω,by rw[hs],rfl,rfl,rfl,hs,⟨show r+1<=y.length by omega,i2,show(c++pT t r c.length).length<=400 by omega,by simp[i4],i5⟩,show y.length-(r+1)<y.length-r by omega⟩
     ·grind
     ·grind
  ·grind [mA]
def QhG (a:Ok dr):Ok Hw:=okZ [GP,szC,enC,uv,Ht] f37 Qo5 ⟨QaB a,QoN,QoO,Kd,Qo8 .n⟩ Qo9
def nmB (c:UInt8):Bool:=(97<=c.toNat&&c.toNat<=122)||(65<=c.toNat&&c.toNat<=90)||(48<=c.toNat&&c.toNat<=57)||c.toNat==45||c.toNat==95||c.toNat==46
def iD (s:By):Bool:=decide (s≠[])&&decide (s.length<=32)&&s.all nmB
def Hy:br D:=bL 56 By (λa _=>XA a) (λ_=>True) (λy=>[.str y]) λy=>.bool (iD y)
def uz (y:By) (i:Nat):Prop:=i<=y.length/\∀j,j<i->nmB (y.getD j 0)
def Qpa (y:Hy.Y):cO D:=⟨[],[],[(58,⟨Nat,[0,14],λi=>[(15,QsE i)],[],λ_=>[],0,uz y,λi=>y.length-i⟩)],[],1,[]⟩
def MZ:br D:=bL 39 By (λa _=>XA a) (λ_=>True) (λy=>[.str y]) λy=>.bool (iD y)
def Qpc (y:MZ.Y):cO D:=⟨[],[],[(58,⟨Nat,[0],λi=>[(3,QsE i)],[],λ_=>[],0,uz y,λi=>y.length-i⟩)],[],1,[]⟩
def BM (l:List Row):Prop:=l.Pairwise λa b=>a.k<b.k
def Hz:Row:=⟨[],0⟩
def kU (l:List Row) (k:By):Nat:=l.findIdx λr=>!decide (r.k<k)
def jt (l:List Row) (k:By):Bool:=l.any λr=>decide (r.k=k)
def qK (l:List Row) (k:By) (v:Int):List Row:=if jt l k=true then l.set (kU l k) ⟨(l.getD (kU l k) Hz).k,v⟩ else l.take (kU l k)++⟨k,v⟩::l.drop (kU l k)
structure V_ where
 l:List Row
 k:By
 v:Int
def tbO (n:Nat) (l:List Row):List (Nat×AO D.E):=[(0,.cells [.own n 2 (ag l)] 201 false),(n,.arr 16 l 205 false)]
def Qds (v:AV D.E) (s:St D.E):C (List Row):=match v with
 | .ptr b _=>az (cN (s.h.get b)) λo=>match o with
  | .cells cs _ _=>match cs with
   | [c]=>az (aU D s 16 c) λc=>.ret (c:List Row)
   | _=>.fail
  | _=>.fail
 | _=>.fail
def TbP (y:V_):Prop:=BM y.l/\y.l.length<=1000
def M4:br D:=⟨97,V_,λa s=>match a with
 | [p,k]=>az (Qds p s) λl=>az (gz k) λk=>.ret ⟨l,k,0⟩
 | _=>.fail,TbP,λy=>[.ptr 0 0,.str y.k],λy=>tbO 1 y.l,λy=>.tuple [QsE (kU y.l y.k),.bool (jt y.l y.k)],λy=>tbO 1 y.l,2,2⟩
def TN (y:V_) (x:Nat×Nat):Prop:=x.1<=x.2/\x.2<=y.l.length/\(∀j,j<x.1->(y.l.getD j Hz).k<y.k)/\∀j,x.2<=j->j<y.l.length->¬(y.l.getD j Hz).k<y.k
def Qpe (y:M4.Y):cO D:=⟨[],[],[(28,⟨Nat×Nat,[0,1],λx=>[(6,QsE x.1),(7,QsE x.2)],[],λ_=>tbO 1 y.l,2,TN y,λx=>x.2-x.1⟩)],[],1,[]⟩
def HA:br D:=⟨57,V_,λa s=>match a with
 | [p,k,v]=>az (Qds p s) λl=>az (gz k) λk=>aL (cA v) λ_ v=>.ret ⟨l,k,v⟩
 | _=>.fail,TbP,λy=>[.ptr 0 0,.str y.k,QsE y.v],λy=>tbO 1 y.l,λy=>.bool (!jt y.l y.k),λy=>tbO 2 (qK y.l y.k y.v),2,3⟩
def TO:br D:=⟨55,Unit,λ_ _=>.ret (),λ_=>True,λ_=>[],λ_=>[],λ_=>.ptr 0 0,λ_=>[(0,.cells [.own 1 2 0] 201 false),(1,.arr 16 [] 205 false)],0,2⟩
structure cG where
 r:List qd
 c:By
variable {y:By} {x:Nat} {l:List Row}
def QaT (a:List (AV D.E)) (s:St D.E):C cG:=match a with
 | [x]=>az (asAgg x) λcs=>match cs with
  | [r,c]=>az (aU D s 3 r) λr=>az (gz c) λc=>.ret ⟨r,c⟩
  | _=>.fail
 | _=>.fail
def Eo (y:cG):AV D.E:=.agg [.list 3 y.r,.str y.c]
def TP:br D:=bL 35 cG QaT (λy=>y.r.length<=1000) (λy=>[Eo y]) Eo
def TQ (y:List UInt8):Prop:=let c:=y.length;let h:=λp:Prop=>RAM y (dL y) p;ak (seq y []) (false=iD y/\True) (ak (ay 32 (dL y)) (false=iD y/\True) ((∃z:Nat,h (0=(z:Int)/\(Iv (uz y z))))/\(∀x:Nat,let a:=sat y (x:Int);let d:=ay (x:Int) (dL y);let b:Prop:=(∃z:Nat,h (aw .i64 (x:Int) 1=(z:Int)/\(Iv (uz y z/\(c-z)<(c-x)))));let e:Prop:=(ak (aC a 45) (b) (ak (aC a 95) (b) (ak (!(aC a 46)) (false=iD y/\True) (b))));let f:Prop:=(ak (aH 48 a) (ak (aH a 57) (b) (e)) (e));let g:Prop:=(ak (aH 65 a) (ak (aH a 90) (b) (f)) (f));(Iv (uz y x))->ak d (aH 0 (x:Int)/\d/\ak (aH 97 a) (ak (aH a 122) (b) (g)) (g)) (true=iD y/\True))))
def TR (y:List UInt8):Prop:=let c:=y.length;let h:=λp:Prop=>RAL y p;ak (seq y []) (false=iD y/\True) (ak (ay 32 (dL y)) (false=iD y/\True) ((∃z:Nat,h (0=(z:Int)/\(Iv (uz y z))))/\(∀x:Nat,let a:=sat y (x:Int);let d:=ay (x:Int) (dL y);let b:Prop:=(∃z:Nat,h (aw .i64 (x:Int) 1=(z:Int)/\(Iv (uz y z/\(c-z)<(c-x)))));let e:Prop:=(ak (!(aC a 45)) (ak (!(aC a 95)) (ak (!(aC a 46)) (false=iD y/\True) (b)) (b)) (b));let f:Prop:=(ak (ay a 48) (e) (ak (ay 57 a) (e) (b)));let g:Prop:=(ak (ay a 65) (f) (ak (ay 90 a) (f) (b)));(Iv (uz y x))->ak d (aH 0 (x:Int)/\d/\ak (ay a 97) (g) (ak (ay 122 a) (g) (b))) (true=iD y/\True))))
def TS (y:V_):Prop:=let b:=ag y.l;let d:=λp:Prop=>RAM b y.l p;RAL b ((∃z:Nat×Nat,aa [y.k] (0=(z.1:Int)/\b=(z.2:Int)/\d ((Iv (TN y z)))))/\(∀x:Nat×Nat,let a:=(x.1:Int);let e:=(x.2:Int);let c:=Wm .i64 (aw .i64 a e) 2;let f:=slt (gt (Row.mk [] 0) y.l c.toNat).k y.k;(Iv (TN y x))->ak (ay a e) (Tt 1 (aH 0 c/\ay c b/\ak f (∃z:Nat×Nat,aa [y.k] (aw .i64 c 1=(z.1:Int)/\e=(z.2:Int)/\d ((Iv (TN y z/\(z.2-z.1)<(x.2-x.1)))))) (∃z:Nat×Nat,aa [y.k] (a=(z.1:Int)/\c=(z.2:Int)/\d ((Iv (TN y z/\(z.2-z.1)<(x.2-x.1)))))))) (ak (ay a b) (aH 0 a/\ay a b/\aa [b,b] (aa [(gt (Row.mk [] 0) y.l a.toNat).k] (a=((kU y.l y.k:Nat):Int)/\seq (gt (Row.mk [] 0) y.l a.toNat).k y.k=jt y.l y.k/\d (True)))) (aa [b] (a=((kU y.l y.k:Nat):Int)/\false=jt y.l y.k/\d (True))))))
def QaU (y:Unit):Prop:=(0:Int)=(0:Int)/\aa ([[]]:List (List Row)) (True)
def QaV (y:cG):Prop:=bx (ag y.r) 32/\aa [y.r] (aa [y.c] (True))
theorem Kg (c:UInt8):nmB c↔(97<=c.toNat/\c.toNat<=122)\/(65<=c.toNat/\c.toNat<=90)\/(48<=c.toNat/\c.toNat<=57)\/c.toNat=45\/c.toNat=95\/c.toNat=46:=by
 grind [nmB]
theorem Ep (h:uz y x) (b:x<y.length) (h0:y≠[]) (h1:y.length<=32):(nmB (y.getD x 0)->∃z:Nat,aw .i64 (x:Int) 1=(z:Int)/\uz y z/\y.length-z<y.length-x)/\(¬nmB (y.getD x 0)->false=iD y):=by
 refine⟨λh=>⟨x+1,bK ω,⟨b,λj c=>?_⟩,ω⟩,λh=>?_⟩
 ·rename_i a
  rcases Zbm j x with e | e
  ·exact a.2 j e
  ·grind
 ·grind [iD]
theorem Kh (h:uz y y.length) (h0:y≠[]) (h1:y.length<=32):true=iD y:=by
 unfold iD;symm;simp only[ZaW,ZaP,List.all_eq_true];refine⟨⟨h0,h1⟩,λc a=>?_⟩;obtain⟨i,hi,rfl⟩:=Za3 a;have:=h.2 i hi;grind
theorem QhI (y:By) (_:Hy.pre y):TQ y/\TR y:=by
 unfold TQ TR;have hs:∀x:Nat,sat y (x:Int)=((y.getD x 0).toNat:Int):=λ_=>rfl
 simp only[bI,bH,lb,wL,hs,Zan,Zao];have f:∀{s:By},seq s []=false↔s≠[]:=λ{s}=>by grind
 have c:y=[]->false=iD y:=λh=>by subst h;rfl
 have d:32<(y.length:Int)->false=iD y:=λh=>by
  grind [iD]
 have i0:uz y 0:=⟨Zaj _,λj g=>absurd g (Zbo _)⟩;refine⟨⟨c,λh0=>⟨d,λh1=>⟨⟨0,rfl,i0⟩,λx a=>⟨λe=>⟨ω,e,?_⟩,λe=>?_⟩⟩⟩⟩,⟨c,λh0=>⟨d,λh1=>⟨⟨0,rfl,i0⟩,λx a=>⟨λe=>⟨ω,e,?_⟩,λe=>?_⟩⟩⟩⟩⟩
 all_goals have b:=f.mp h0
 ·obtain⟨p,q⟩:=Ep a ω b ω;rw[Kg] at p q
  with_reducible repeat' first | apply And.intro | intro _
  all_goals first | exact p ω | exact q ω
 ·rw[show x=y.length by have:=a.1;omega] at a;grind [Kh]
 ·obtain⟨p,q⟩:=Ep a ω b ω;rw[Kg] at p q
  with_reducible repeat' first | apply And.intro | intro _
  all_goals first | exact p ω | exact q ω
 ·rw[show x=y.length by have:=a.1;omega] at a;grind [Kh]
def QhJ:Ok Hy:=okZ (V:=TQ) [] f56 Qpa trivial λy a=>(QhI y a).1
def QhK:Ok MZ:=okZ (V:=TR) [] f39 Qpc trivial λy a=>(QhI y a).2
theorem BN (h:BM l) {j:Nat} (a:x<j) (b:j<l.length):(l.getD x Hz).k<(l.getD j Hz).k:=by
 rw[eo b,eo ω];exact List.pairwise_iff_getElem.mp h x j ω b a
theorem Qdt (h1:x<=l.length) (a:∀j,j<x->(l.getD j Hz).k<y) (b:x<l.length->¬(l.getD x Hz).k<y):kU l y=x:=by
 grind [kU,List.findIdx_eq]
theorem Qdu (f:BM l) (h1:x<l.length) (c:∀j,j<x->(l.getD j Hz).k<y) (d:¬(l.getD x Hz).k<y):jt l y=seq (l.getD x Hz).k y:=by
 rw[ZaG];unfold jt;simp only[ZcT,ZaP,wL];constructor
 ·rintro⟨r,a,rfl⟩;obtain⟨i,hi,e⟩:=Za3 a;have b:l.getD i Hz=r:=by grind
  grind [BN]
 ·grind
theorem Qpi (y:V_) (q:M4.pre y):TS y:=by
 obtain⟨l,k,v⟩:=y;obtain⟨g,hl⟩:BM l/\l.length<=1000:=q;unfold TS;have m:∀n,gt (Row.mk [] 0) l n=l.getD n Hz:=λ_=>rfl
 have st:∀{a b:By},slt a b↔a<b:=λ{a b}=>by simp[slt]
 have r:∀{a b:By},slt a b=false↔¬a<b:=λ{a b}=>by grind
 simp only[bI,bH,av,m,st,r,Zad];refine⟨⟨(0,l.length),rfl,rfl,Zaj _,Zah _,λj d=>absurd d (Zbo _),λj h1 f=>absurd (show l.length<=j from h1) (Nat.not_le_of_lt f)⟩,λx p=>?_⟩;obtain⟨lo,hi⟩:=x;obtain⟨i1,i2,i3,i4⟩:=p;simp only at i1 i2 i3 i4 ⊢;refine⟨λe=>?_,λe=>?_⟩
 ·have o:Wm .i64 (aw .i64 (lo:Int) (hi:Int)) 2=(((lo+hi) / 2:Nat):Int):=by
   grind [Wm,dw,zD]
  rw[o];simp only[Zad];refine⟨ω,ω,λc=>⟨((lo+hi) / 2+1,hi),bK ω,rfl,⟨show(lo+hi) / 2+1<=hi by omega,i2,λj d=>?_,i4⟩,show hi-((lo+hi) / 2+1)<hi-lo by omega⟩,λc=>⟨(lo,(lo+hi) / 2),rfl,rfl,⟨show lo<=(lo+hi) / 2 by omega,show(lo+hi) / 2<=l.length by omega,i3,λj h1 f=>?_⟩,show(lo+hi) / 2-lo<hi-lo by omega⟩⟩
  ·have d:j<(lo+hi) / 2+1:=d;rcases Zbm j ((lo+hi) / 2) with e2 | e2
   ·exact Zdk (BN g e2 ω) c
   ·grind
  ·have h1:(lo+hi) / 2<=j:=h1;rcases Zbm ((lo+hi) / 2) j with e2 | e2
   ·exact λc2=>c (Zdk (BN g e2 f) c2)
   ·grind
 ·have i:lo=hi:=ω;subst i;have s:kU l k=lo:=Qdt i2 i3 λh=>i4 lo (Zah _) h
  grind [Qdu,jt,List.getElem_of_mem]
def QhL:Ok M4:=okZ [] f97 Qpe trivial Qpi
theorem QhM:Ok TO:=okZ (V:=QaU) [] f55 (λ_=>ew ()) trivial λy _=>by grind [QaU]
theorem QhN:Ok TP:=okZ (V:=QaV) [] f35 (λ_=>ew ()) trivial λy a=>by
 have:y.r.length<=1000:=a;grind [QaV]
structure QhO where
 tab:List Row
 out:List (List Nd)
 aq:Int
 at_:Int
def mB:List qd->Nat->List Row->List (List Nd)->QhO
 | [],_,t,o=>⟨t,o,0,0⟩
 | x::l,i,t,o=>if iD x.name=false then⟨[],[],14,i⟩ else if jt t x.name=true then⟨[],[],8,i⟩ else if (b_ x.text).2.1≠0 then⟨[],[],(b_ x.text).2.1,i⟩ else mB l (i+1) (qK t x.name i) (o++[cJ (b_ x.text).1])
def bn (y:cG):QhO:=lk (mB y.r 0 [] [])
def yD (y:cG):Bool:=decide ((bn y).aq=0)
def BO (k:cG->Bool) (args:List (AV D.E)) (s:St D.E):C (cG×Bool):=az (QaT args s) λp=>.split (k p) (.ret (p,true)) (.ret (p,false))
def TT (y:cG×Bool):Prop:=y.1.r.length<=8/\y.2=yD y.1
def Er:br D:=⟨34,cG×Bool,BO yD,TT,λy=>[Eo y.1],λ_=>[],
 λy=>match y.2 with
  | true=>.tuple [.list 9 (bn y.1).out,.ptr 0 0,QsE 0,QsE 0]
  | false=>.tuple [.dd,.gy,QsE (bn y.1).aq,QsE (bn y.1).at_],
 λy=>match y.2 with
  | true=>tbO 1 (bn y.1).tab
  | false=>[],0,2⟩
structure BP where
 t:List Row
 o:List (List Nd)
 i:Nat
def xx (y:cG) (x:BP):Prop:=x.i<=y.r.length/\BM x.t/\x.t.length<=x.i/\x.o.length=x.i/\mB (y.r.drop x.i) x.i x.t x.o=bn y
def QhP (y:Er.Y):cO D:=⟨[],[],[(122,⟨BP,[15,16],λx=>[(6,.ptr 0 0),(7,.grow 9 x.o 2),(17,QsE x.i)],[],λx=>tbO 1 x.t++[(2,.tok 9 99)],3,xx y.1,λx=>y.1.r.length-x.i⟩)],[],1,[]⟩
structure LdR where
 ab:List aS
 st:List Int
 cc:List aS
 cs:List Int
 aq:Int
 at_:Int
def Ki (e a:Int):LdR:=⟨[],[],[],[],e,a⟩
def iV (y:cG):LdR:=
 if 8<y.r.length then Ki 13 8
 else if (bn y).aq≠0 then Ki (bn y).aq (bn y).at_
 else if y.c≠[]/\(b_ y.c).2.1≠0 then Ki (b_ y.c).2.1 y.r.length
 else if (bW (bn y).out).2.1≠0 then Ki (bW (bn y).out).2.1 (bW (bn y).out).2.2
 else if y.c≠[] then(if (bW [cJ (b_ y.c).1]).2.1≠0 then Ki (bW [cJ (b_ y.c).1]).2.1 y.r.length
  else⟨(bW (bn y).out).1.1,(bW (bn y).out).1.2,(bW [cJ (b_ y.c).1]).1.1,(bW [cJ (b_ y.c).1]).1.2,0,0⟩)
 else⟨(bW (bn y).out).1.1,(bW (bn y).out).1.2,[],[],0,0⟩
def b5 (y:cG):LdR:=lk (iV y)
def nV (y:cG):Bool:=decide ((b5 y).aq=0)
def Qdv (n:Nat) (y:cG) (l:LdR) (t:List Row):List (Nat×AO D.E):=(n,.cells [.list 3 y.r,.str y.c,.list 8 l.ab,.list 5 l.st,.list 8 l.cc,.list 5 l.cs,.ptr (n+1) 0] 98 false)::[(n+1,.cells [.own (n+2) 2 (ag t)] 201 false),(n+2,.arr 16 t 205 false)]
def pU (y:cG×Bool):Prop:=y.1.r.length<=1000/\y.2=nV y.1
def xy:br D:=⟨12,cG×Bool,BO nV,pU,λy=>[Eo y.1],λ_=>[],
 λy=>match y.2 with
  | true=>.tuple [.ptr 0 0,QsE 0,QsE 0]
  | false=>.tuple [.gy,QsE (b5 y.1).aq,QsE (b5 y.1).at_],
 λy=>match y.2 with
  | true=>Qdv 0 y.1 (b5 y.1) (bn y.1).tab
  | false=>[],0,3⟩
def BQ (y:cG):List Nd:=lk (if y.c≠[] then(b_ y.c).1 else[])
def QhT (y:xy.Y):cO D:=⟨[],[],[],[(127,⟨Unit,[5,8],λ_=>[(1,.ptr 0 0),(9,.ptr 1 0),(10,.list 7 (BQ y.1))],[],λ_=>[(0,.cells [.list 3 y.1.r,.str y.1.c] 24 false)]++Qdv 1 y.1 (Ki 0 0) (bn y.1).tab,4,λ_=>y.1.c≠[]->(b_ y.1.c).2.1=0,λ_=>0⟩)],1,[]⟩
def M5:br D:={ Qfj with f:=51 }
def Qpj (y:M5.Y):cO D:=Qln y
structure lG where
 s:cG
 p:eu
 q:eu
 t:List Row
def Wa (y:lG):List (Nat×AO D.E):=Qdv 0 y.s ⟨y.p.ab,y.p.aj,y.q.ab,y.q.aj,0,0⟩ y.t
def QhW (v:AV D.E) (s:St D.E):C lG:=match v with
 | .ptr b _=>az (cN (s.h.get b)) λo=>match o with
  | .cells cs _ _=>match cs with
   | [r,c,p,q,a,b,t]=>az (aU D s 3 r) λr=>az (gz c) λc=>az (aU D s 8 p) λp=>az (aU D s 5 q) λq=>az (aU D s 8 a) λa=>az (aU D s 5 b) λb=>az (Qds t s) λt=>.ret ⟨⟨r,c⟩,⟨p,q⟩,⟨a,b⟩,t⟩
   | _=>.fail
  | _=>.fail
 | _=>.fail
def Qdw (a:List (AV D.E)) (s:St D.E):C lG:=match a with
 | [p]=>QhW p s
 | _=>.fail
def M6 (y:lG):Prop:=lN y.p
def Zg (y:lG):Prop:=lN y.q
def Zh:br D:=⟨27,lG,Qdw,M6,λ_=>[.ptr 0 0],Wa,λy=>yc y.p,Wa,3,3⟩
def Zi:br D:=⟨25,lG,Qdw,Zg,λ_=>[.ptr 0 0],Wa,λy=>.tuple [yc y.q,.bool (!seq y.s.c [])],Wa,3,3⟩
def QhX (a:List (AV D.E)) (s:St D.E):C eu:=match a with
 | [p]=>sS p s
 | _=>.fail
abbrev RA3 (v:cG) (p:Prop):Prop:=aa [v.r] (aa [v.c] p)
def QaW (y:lG):Prop:=Iv (lN y.p)/\RA2 y.p (RA2 y.p (RA3 y.s (RA2 y.p (RA2 y.q (RAM (ag y.t) y.t (True))))))
def QaX (y:lG):Prop:=Iv (lN y.q)/\RA2 y.q (RA2 y.q (RAO y.s.c y.s.c y.s.c (RA2 y.q (aa [!(seq y.s.c [])] (RA3 y.s (RA2 y.p (RA2 y.q (RAM (ag y.t) y.t (True)))))))))
def QaY:Ok M5:=okZ [] f51 Qpj trivial Qlt
def QhY:Ok Zh:=okZ (V:=QaW) [M5] f27 (λ_=>ew ()) QaY λy a=>by
 unfold QaW;simp only[ie,Zai,lf];exact a
def QhZ:Ok Zi:=okZ (V:=QaX) [M5] f25 (λ_=>ew ()) QaY λy a=>by
 unfold QaX;simp only[ie,Zai,lf];exact a
def Ck.pg {p:eu} (h:Ck p):lN p:=⟨by have:=h.1;omega,by have:=h.2.1;omega,h.2.2.2.1⟩
def RwD (d:Rh) (p:Prop):Prop:=aa [d.a,d.b,d.c,d.d,d.n] p
def RwM (v:nZ) (p:Prop):Prop:=aa [v.p.ab] (aa [v.p.aj] (aa [v.aO,ag v.L,ag v.s.pl,ag v.s.us] (aa [v.s.us] (aa [v.s.pl] (aa [v.L] p)))))
def RwU (v:nZ) (p:Prop):Prop:=aa [v.p.ab] (aa [v.p.aj] (aa [v.aO,ag v.L,ag v.s.pl,ag v.s.us] (aa [v.s.pl] (aa [v.s.us] (aa [v.L] p)))))
def RwS (s:E6) (p:Prop):Prop:=RwM s.v (RwD s.d p)
def RwE (s:E6) (p:Prop):Prop:=RwD s.d (RwU s.v p)
def xz (y:lG) (p:Prop):Prop:=aa [y.p.ab] (aa [y.p.aj] (aa [y.q.ab] (aa [y.q.aj] p)))
def qU (y:lG) (p:Prop):Prop:=aa [y.s.r] (aa [y.s.c] (xz y (aa [ag y.t] (aa [y.t] p))))
def RwR (y:lG) (p:Prop):Prop:=qU y (xz y p)
def qg:(∀d p,RwD d p=p)/\(∀v p,RwM v p=p)/\(∀v p,RwU v p=p)/\(∀s p,RwS s p=p)/\(∀s p,RwE s p=p)/\(∀y p,xz y p=p)/\(∀y p,qU y p=p)/\∀y p,RwR y p=p:=by
 refine⟨λ_ _=>?_,λ_ _=>?_,λ_ _=>?_,λ_ _=>?_,λ_ _=>?_,λ_ _=>?_,λ_ _=>?_,λ_ _=>?_⟩<;>simp[RwD,RwM,RwU,RwS,RwE,xz,qU,RwR]
structure Zm where
 ru:lG
 pos:Int
 bu:Int
 aT:Int
 size:Int
 bR:Bool
 aQ:List dh
 aG:E6
 aZ:E6
 aX:E6
inductive SFm where
 | n | p | c | o | a
variable {N:Int} {s:E6}
def sfJ (f:SFm):Bool:=match f with
 | .n=>false | .p=>false | _=>true
def Qdx (e:Int) (l:dh) (i:Nat):oD:=⟨1,e,i,l.c0,l.c1,l.c2,l.c3,l.c4,l.c5,l.c6,l.c7,l.c8,l.c9⟩
def ju (e:Int) (l:List dh):Nat->List oD
 | 0=>[]
 | k+1=>if (l.getD k Bs).done=true then ju e l k++[Qdx e (l.getD k Bs) k] else ju e l k
def kG (e:Int) (l:List dh):List oD:=lk (ju e l l.length)
theorem te (e:Int) (l:List dh):∀k,(ju e l k).length<=k
 | 0=>Zah _
 | k+1=>by
  have:=te e l k;grind [ju]
theorem M7 (e:Int) (l:List dh) (x:Nat) (a:x<l.length) (hl:l.length<=1000):
  (gt Bs l x).done->(bx (ag (bC (ju e l x) [Qdx e (gt Bs l x) x])) 104/\∃z:Nat,bC (ju e l x) [Qdx e (gt Bs l x) x]=ju e l z/\aw .i64 (x:Int) 1=(z:Int)/\z<=l.length/\l.length-z<l.length-x):=λh=>by
 have:=te e l x;refine⟨?_,x+1,?_,ba ω ω,ω,ω⟩
 ·grind
 ·grind [ju]
theorem M8 (e:Int) (l:List dh) (x:Nat) (a:x<l.length) (hl:l.length<=1000) (h:(gt Bs l x).done=false):∃z:Nat,ju e l x=ju e l z/\aw .i64 (x:Int) 1=(z:Int)/\z<=l.length/\l.length-z<l.length-x:=by
 refine⟨x+1,?_,ba ω ω,ω,ω⟩;grind [ju]
def Qpp (f:SFm) (y:Zm):Prop:=Sn y.aG/\(sfJ f->Sn y.aZ/\0<(Qc5 y.aZ).length)/\(f=.o->Sn y.aX/\y.aQ.length<=1000/\0<=y.size/\y.size<=500)
def Qpq (f:SFm) (y:Zm):Prop:=Qpp f y/\0<=y.bu/\y.bu<=y.pos/\y.pos<=100000000/\(y.bR=false->y.pos-y.bu<=200)
theorem TU {v:nZ} {l:List Gt} (h:Xz v N):∀x,x<=l.length->(Gz v (l.take x)).p=v.p
 | 0,_=>by rfl
 | x+1,a=>by
  rw[zL (show x<l.length by omega)];exact((Bt _ (Bu (l:=l) h x ω).1 _).2.1).trans (TU h x ω)
theorem TV (h:Sn s):(Qc5 s).length=s.v.L.length:=by
 have c:=h.1.2.2;have b:=Sp c;have a:=Bu b (l:=bdG (uoF (Gy s.d)).n.toNat) _ (Zah _);have f:=TU b (l:=bdG (uoF (Gy s.d)).n.toNat) _ (Zah _);rw[ZaM] at a f;have e:=(JJ a.1.1 (GZ s).L.length).2;have e2:(Qc5 s).length=(GZ s).L.length:=e;have g:(GZ s).p.aj.length=(GZ s).L.length:=a.2.1;have i:(GZ s).p=s.v.p:=f;rw[e2,<-g,i];exact c.2.1
def Wb (s:E6) (N:Int):Prop:=0<=s.d.n/\s.d.n<=3/\(Gy s.d=[]\/gF (Gy s.d))/\Xz s.v N
def Qh1 (f:SFm) (y:Zm):Prop:=Wb y.aG (16*y.pos)/\(sfJ f->Wb y.aZ (16*y.pos)/\0<y.aZ.v.L.length)/\(f=.o->Wb y.aX (16*y.pos)/\y.aQ.length<=1000/\0<=y.size/\y.size<=500)/\0<=y.bu/\y.bu<=y.pos/\(y.bR=false->y.pos-y.bu<=200)
theorem Al:∀(k lo hi:Nat) (t:By),jm k lo hi t->t.length<k
 | 0,_,_,_,h=>nomatch h
 | _+1,_,_,[],_=>Nat.succ_pos _
 | k+1,lo,hi,b::t,h=>by
  rw[jm] at h;split at h
  ·cases h
  ·exact Nat.succ_lt_succ (Al k 128 191 t h)
def TW {l:By} (h:gF l):l.length<=3:=by
 unfold gF at h;simp only[ZaW,ZaP] at h;have:=Al _ _ _ _ h.2;have a:=(iR (l.getD 0 0).toNat).1;rw[Zbg] at this;change (mo l).1= -1\/(mo l).1=0\/(mo l).1=1\/(mo l).1=2\/(mo l).1=3 at a;omega
def Wb.le {M:Int} (h:Wb s N) (a:N<=M):Wb s M:=⟨h.1,h.2.1,h.2.2.1,h.2.2.2.1,h.2.2.2.2.1,h.2.2.2.2.2.1,Int.le_trans h.2.2.2.2.2.2 a⟩
def Wb.P (h:Wb s N) (a:N<=900000000000):Sn s:=⟨⟨h.1,h.2.1,h.2.2.2.1,h.2.2.2.2.1,h.2.2.2.2.2.1,by have:=h.2.2.2.2.2.2;omega⟩,h.2.2.1⟩
theorem Qh1.Q {f:SFm} {y:Zm} (h:Qh1 f y) (c:y.pos<=100000000):Qpq f y:=by
 have⟨a,a2,a3,a4,a5,b⟩:=h;refine⟨⟨a.P ω,λk=>?_,λk=>?_⟩,a4,a5,c,b⟩
 ·have d:=(a2 k).1.P ω;grind [TV]
 ·exact⟨(a3 k).1.P ω,(a3 k).2⟩
def bc (b:By) (k:Nat):Int:=((b.getD k 0).toNat:Int)
def nN (y:lG):Bool:=!seq y.s.c []
structure HB where
 pos:Int
 bu:Int
 bR:Bool
 ea:Bool
 aT:Int
 size:Int
 aQ:List dh
def Qh2 (y:HB) (aX aG aZ:List (AV D.E)):AV D.E:=.agg ([.int .i64 y.pos,.int .i64 y.bu,.bool y.bR,.bool y.ea,.int .i64 y.aT,.int .i64 y.size,.list 2 y.aQ]++aX++aG++aZ)
def scQ (s:E6):Prop:=dcP s.d/\lsP s.v.L
structure QtA where
 ru:lG
 st:HB
 aX:E6
 aG:E6
 aZ:E6
def HC (y:cG):Prop:=let b:=ag y.r;Iv True/\(∃z:BP,RAM y.r b ([]=z.o/\0=((z.i:Nat):Int)/\0=ag z.t/\[]=z.t/\(Iv (xx y z))))/\(∀x:BP,let q1:=((x.i:Nat):Int);let a:=gt (qd.mk [] []) y.r q1.toNat;let f:=!(!(jt x.t a.name));let c:=(b_ a.text).1;let d:=qK x.t a.name q1;let g:=!(aC (b_ a.text).2.1 0);let e:=bC x.o [lk (cJ c)];(Iv (xx y x))->ak (ay q1 b) (aH 0 q1/\ay q1 b/\Iv True/\RAL a.name (ak (!(iD a.name)) ([]=(bn y).out/\False) (Iv (TbP (V_.mk x.t a.name q1))/\aa [a.name] (aa [q1,ag x.t] (aa [x.t] (ak f ([]=(bn y).out/\False) (Iv True/\aa [a.text] (ak g ([]=(bn y).out/\False) (Iv (nM c)/\aa [c] (bx (ag e) 24/\∃z:BP,aa [y.r] (aa [b] (e=z.o/\aw .i64 q1 1=((z.i:Nat):Int)/\ag d=ag z.t/\d=z.t/\(Iv (xx y z/\(y.r.length-z.i)<(y.r.length-x.i))))))))))))))) (x.o=(bn y).out/\RAB (ag x.t=ag (bn y).tab/\x.t=(bn y).tab/\True)))
def HD (y:cG):Prop:=let b:=ag y.r;Iv True/\(∃z:BP,RAM y.r b ([]=z.o/\0=((z.i:Nat):Int)/\0=ag z.t/\[]=z.t/\(Iv (xx y z))))/\(∀x:BP,let q1:=((x.i:Nat):Int);let a:=gt (qd.mk [] []) y.r q1.toNat;let g:=!(!(jt x.t a.name));let c:=(b_ a.text).1;let d:=qK x.t a.name q1;let e:=(b_ a.text).2.1;let f:=bC x.o [lk (cJ c)];(Iv (xx y x))->ak (ay q1 b) (aH 0 q1/\ay q1 b/\Iv True/\RAL a.name (ak (!(iD a.name)) (14=(bn y).aq/\q1=(bn y).at_/\True) (Iv (TbP (V_.mk x.t a.name q1))/\aa [a.name] (aa [q1,ag x.t] (aa [x.t] (ak g (8=(bn y).aq/\q1=(bn y).at_/\True) (Iv True/\aa [a.text] (ak (!(aC e 0)) (e=(bn y).aq/\q1=(bn y).at_/\True) (Iv (nM c)/\aa [c] (bx (ag f) 24/\∃z:BP,aa [y.r] (aa [b] (f=z.o/\aw .i64 q1 1=((z.i:Nat):Int)/\ag d=ag z.t/\d=z.t/\(Iv (xx y z/\(y.r.length-z.i)<(y.r.length-x.i))))))))))))))) (False))
abbrev RAE (p:Prop):Prop:=aa ([[]]:List (List aS)) p
abbrev RAF (p:Prop):Prop:=aa ([[]]:List (List Int)) p
def HE (y:cG):Prop:=let a:=BQ y;let q1:=bW (bn y).out;let k:=ag (bn y).tab;let o:=!(aC (bn y).aq 0);let b:=([lk (cJ a)]:List (List Nd));let l:=!(aC (b_ y.c).2.1 0);let m:=!(aC (bW b).2.1 0);let i:=λp:Prop=>RAB (RA3 y p);let j:=λp:Prop=>RA3 y p;let n:=λp:Prop=>RAL (bn y).out (RAC p);let d:Prop:=(RAM k (bn y).tab (True));let e:Prop:=([]=(b5 y).cc/\[]=(b5 y).cs/\d);let f:Prop:=(RA3 y (RAE (RAF (RAE (RAF (False))))));let g:Prop:=((bW b).1.1=(b5 y).cc/\(bW b).1.2=(b5 y).cs/\d);let u:=Iv ((Ne (y,true).1.c [])->(b_ y.c).2.1=0);let h:Prop:=(RA3 y (RAE (RAF (RAE (RAF (RAM k (bn y).tab (RA3 y (u))))))));ak (ay 8 (ag y.r)) (False) (ak (yD y) (Iv (TT (y,true))/\j (ak (!(aC 0 0)) (False) (Iv (y.r.length<=1000)/\j ((ak (!(seq y.c [])) (Iv True/\RAL y.c (ak l (aa [y.r] (False)) (∃z:Unit,n ((b_ y.c).1=a/\h)))) (∃z:Unit,n ([]=a/\h)))/\(∀x:Unit,u->Iv (o3 (bn y).out)/\RAL (bn y).out (ak (!(aC q1.2.1 0)) (False) (ak (!(seq y.c [])) (Iv (nM a)/\aa [a] (Iv (o3 b)/\aa [b] (ak m (aa [y.r] (False)) (i (q1.1.1=(b5 y).ab/\q1.1.2=(b5 y).st/\g))))) (i (q1.1.1=(b5 y).ab/\q1.1.2=(b5 y).st/\e))))))))) (Iv (TT (y,false))/\j (ak o (False) (Iv (y.r.length<=1000)/\j ((ak (!(seq y.c [])) (Iv True/\RAL y.c (ak l (aa [y.r] (False)) (∃z:Unit,aa [(bn y).at_] ((b_ y.c).1=a/\f)))) (∃z:Unit,RAL (bn y).at_ ([]=a/\f)))/\(∀x:Unit,u->Iv (o3 [])/\RAL ([]:List (List Nd)) (ak (!(aC (bW []).2.1 0)) (False) (ak (!(seq y.c [])) (Iv (nM a)/\aa [a] (Iv (o3 b)/\aa [b] (ak m (aa [y.r] (False)) (i ((bW []).1.1=(b5 y).ab/\(bW []).1.2=(b5 y).st/\g))))) (i ((bW []).1.1=(b5 y).ab/\(bW []).1.2=(b5 y).st/\e))))))))))
def HF (y:cG):Prop:=let a:=BQ y;let q1:=ag (bn y).tab;let l:=!(aC (bn y).aq 0);let b:=(b_ y.c).2.1;let g:=([lk (cJ a)]:List (List Nd));let i:=(bW (bn y).out).2;let m:=!(aC (bW g).2.1 0);let h:=λp:Prop=>RA3 y p;let k:=λp:Prop=>RAL (bn y).out (RAC p);let j:Prop:=(ag y.r=(b5 y).at_/\True);let d:Prop:=(RA3 y (RAE (RAF (RAE (RAF (False))))));let u:=Iv ((Ne (y,false).1.c [])->b=0);let e:Prop:=(RA3 y (RAE (RAF (RAE (RAF (RAM q1 (bn y).tab (RA3 y (u))))))));let f:Prop:=(ak (!(seq y.c [])) (Iv (nM a)/\RAL a (Iv (o3 g)/\aa [g] (ak m (aa [y.r] ((bW g).2.1=(b5 y).aq/\j)) (False)))) (False));let A:=aa [y.r] (b=(b5 y).aq/\j);ak (ay 8 (ag y.r)) (13=(b5 y).aq/\8=(b5 y).at_/\True) (ak (yD y) (Iv (TT (y,true))/\h (ak (!(aC 0 0)) (0=(b5 y).aq/\0=(b5 y).at_/\True) (Iv (y.r.length<=1000)/\h ((ak (!(seq y.c [])) (Iv True/\RAL y.c (ak (!(aC b 0)) A (∃z:Unit,k ((b_ y.c).1=a/\e)))) (∃z:Unit,k ([]=a/\e)))/\(∀x:Unit,u->Iv (o3 (bn y).out)/\RAL (bn y).out (ak (!(aC i.1 0)) (i.1=(b5 y).aq/\i.2=(b5 y).at_/\True) (f))))))) (Iv (TT (y,false))/\h (ak l ((bn y).aq=(b5 y).aq/\(bn y).at_=(b5 y).at_/\True) (Iv (y.r.length<=1000)/\h ((ak (!(seq y.c [])) (Iv True/\RAL y.c (ak (!(aC b 0)) A (∃z:Unit,aa [(bn y).at_] ((b_ y.c).1=a/\d)))) (∃z:Unit,RAL (bn y).at_ ([]=a/\d)))/\(∀x:Unit,u->Iv (o3 [])/\RAL ([]:List (List Nd)) (ak (!(aC (bW []).2.1 0)) ((bW []).2.1=(b5 y).aq/\(bW []).2.2=(b5 y).at_/\True) (f))))))))
end
end sx
namespace sx
open Go Go.RowKit cls syn
set_option maxRecDepth 100000
set_option maxHeartbeats 4000000
section
variable {G:List Gt} {aG:Ps->Ps×List Nd}
variable {l:List Nd} {c:List (List Nd)}
theorem eA:cx []:=λx a=>nomatch a
theorem Kj {x:Nd} (h:ik x) (hl:cx l):cx (x::l):=λy a=>by
 rcases List.mem_cons.mp a with h1 | h1
 ·grind
 ·exact hl y h1
def xA {op:Int} (hl:cx l) (mn mx:Int) (lz:Bool) (cap af:Int):cx (⟨op,[],mn,mx,lz,cap,af⟩::l):=Kj (Zaj _) hl
def r7 (l:List Rg) (h:l.length<=1000000):cx [wz l]:=Kj h eA
theorem Zn (s:Ps):(dT G s).2.1.length<=1000000:=by
 grind [dT,zq]
def Qdy (s:Ps):cx (rF G s).2:=by
 unfold rF;simp only;split
 ·exact eA
 ·split
  ·exact eA
  ·split
   ·exact eA
   ·refine r7 _ ?_;split<;>exact kx _
def T1 (A:∀s,cx (aG s).2) (s:Ps):cx (gP G aG s).2:=by
  unfold gP;generalize a8 G s.next 63=free;cases free<;>simp only[Zbv,Za0,ZaE]
  all_goals
    split
    · exact eA
    · split
      · exact eA
      · first
          | (split
             · exact eA
             · split
               · exact eA
               · first | exact A _ | exact xA (A _) _ _ _ _ _)
          | (split
             · exact eA
             · first | exact A _ | exact xA (A _) _ _ _ _ _)
theorem Zo (A:∀s,cx (aG s).2) (s:Ps):cx (iJ G aG s).2:=by
 unfold iJ;simp only;split
 ·exact eA
 ·split
  ·exact T1 A s
  ·split
   ·exact Qdy s
   ·split
    ·exact r7 _ (Zn s)
    ·split
     ·exact r7 _ (kx _)
     ·split
      ·exact xA eA _ _ _ _ _
      ·split
       ·exact xA eA _ _ _ _ _
       ·split
        ·exact eA
        ·exact r7 _ (kx _)
theorem Zp (s:Ps) (mn mx:Int) (h:cx l):cx (nc G s mn mx l).2:=by
 unfold nc;split
 ·exact eA
 ·exact xA h _ _ _ _ _
theorem Qdz (A:∀s,cx (aG s).2) (s:Ps):cx (fb G aG s).2:=by
 grind [Zo,fb,eA,Zp]
theorem Kk (op:Int) (h:∀l∈c,cx l):cx (bU op c):=by
 match c,h with
 | [],_=>exact xA eA _ _ _ _ _
 | [x],h=>exact h x (by simp)
 | a::b::c,h=>
  refine xA (λx d=>?_) _ _ _ _ _;have⟨l,hl,d⟩:=List.mem_flatten.mp d;exact h l hl x d
theorem BR (h:∀x∈c,cx x) (b:cx l):∀x∈c++[l],cx x:=λx hl=>by
 grind
theorem Es (A:∀s,cx (aG s).2):∀(n:Nat) (s:Ps) (a:List (List Nd)),(∀l∈a,cx l)->∀l∈(ej G aG n s a).2,cx l
 | 0,s,a,h=>h
 | n+1,s,a,h=>by
  rw[ej];split
  ·exact Es A n _ _ (BR h (Qdz A s))
  ·exact h
def T2 (A:∀s,cx (aG s).2) (s:Ps):cx (l3 G aG s).2:=Kk 3 (Es A _ _ _ λl hl=>nomatch hl)
theorem Et (A:∀s,cx (aG s).2):∀(n:Nat) (s:Ps) (a:List (List Nd)),(∀l∈a,cx l)->∀l∈(fS G aG n s a).2,cx l
 | 0,s,a,h=>h
 | n+1,s,a,h=>by
  rw[fS];split
  ·exact Et A n _ _ (BR h (T2 A s.next))
  ·exact h
theorem HG:∀(n:Nat) (s:Ps),cx (qq G n s).2
 | 0,s=>eA
 | n+1,s=>Kk 4 (Et (HG n) _ _ _ λl hl=>by rw[List.mem_singleton.mp hl];exact T2 (HG n) s)
end
variable {l:List Row} {k:By}
theorem lH (y:By):cx (b_ y).1:=by
 grind [b_,eA,wA,HG]
theorem Kl (v:Int) (h:jt l k=false):qK l k v=l.take (kU l k)++⟨k,v⟩::l.drop (kU l k):=by
 grind [qK]
theorem QdA {j:Nat} (h:j<kU l k) (a:j<l.length):(l[j]).k<k:=by
 have:=ZdK h;grind
theorem T3 (d:BM l) (f:jt l k=false) {j:Nat} (h:kU l k<=j) (c:j<l.length):k<(l[j]).k:=by
 have b:∀i (hi:i<l.length),(l[i]).k≠k:=λi hi e=>by
  grind [jt]
 have a:kU l k<l.length:=Nat.lt_of_le_of_lt h c;have h0:¬(l[kU l k]).k<k:=by
  have:=ZcC (w:=a);simp only[Zan,Zbi] at this;exact this
 have h1:k<(l[kU l k]).k:=Std.lt_of_le_of_ne ω λe=>b _ a e.symm
 rcases Zbm (kU l k) j with e | e
 ·exact Zdk h1 (List.pairwise_iff_getElem.mp d _ _ a c e)
 ·grind
theorem T4 {v:Int} (c:BM l) (g:jt l k=false):BM (qK l k v)/\(qK l k v).length=l.length+1:=by
 rw[Kl v g];constructor
 ·unfold BM;rw[ZbC];refine⟨ZdS (List.take_sublist _ _) c,List.pairwise_cons.mpr ⟨λb f=>?_,ZdS (List.drop_sublist _ _) c⟩,λa d b f=>?_⟩
  ·grind [List.getElem_of_mem,T3]
  ·have⟨i,hi,e⟩:=Za3 d;have h1:a.k<k:=by grind [QdA]
   grind [List.getElem_of_mem,List.lt_trans,T3]
 ·grind
theorem xB {y:cG} {x:BP} (h:xx y x) (b:x.i<y.r.length):
  (iD (y.r.getD x.i ⟨[],[]⟩).name=false->(bn y).aq=14/\(bn y).at_=x.i)/\
  (iD (y.r.getD x.i ⟨[],[]⟩).name->jt x.t (y.r.getD x.i ⟨[],[]⟩).name->(bn y).aq=8/\(bn y).at_=x.i)/\
  (iD (y.r.getD x.i ⟨[],[]⟩).name->jt x.t (y.r.getD x.i ⟨[],[]⟩).name=false->((b_ (y.r.getD x.i ⟨[],[]⟩).text).2.1≠0->(bn y).aq=(b_ (y.r.getD x.i ⟨[],[]⟩).text).2.1/\(bn y).at_=x.i)/\
   ((b_ (y.r.getD x.i ⟨[],[]⟩).text).2.1=0->xx y ⟨qK x.t (y.r.getD x.i ⟨[],[]⟩).name x.i,x.o++[cJ (b_ (y.r.getD x.i ⟨[],[]⟩).text).1],x.i+1⟩)):=by
 have⟨h1,d,j,f,a⟩:=h;rw[Zaq b,mB] at a;rw[eo b];refine⟨λe=>?_,λc e=>?_,λc e2=>⟨λe=>?_,λe=>?_⟩⟩
 ·grind
 ·grind
 ·grind
 ·rw[Zaa (by grind),Zaa (by grind),Zaa ω] at a;have⟨g,k⟩:=T4 (v:=(x.i:Int)) d e2;exact⟨b,g,by grind,by simp[f],a⟩
theorem Qh3 (y:cG) (b:Bool) (l:Er.pre (y,b)):(b->HC y)/\(b=false->HD y):=by
 obtain⟨hl,s⟩:y.r.length<=8/\b=yD y:=l;have m:(yD y↔(bn y).aq=0):=by grind [yD]
 have hz:xx y ⟨[],[],0⟩:=⟨Zaj _,List.Pairwise.nil,Zah _,rfl,by grind [bn,aI]⟩;have k:∀n,gt (qd.mk [] []) y.r n=y.r.getD n ⟨[],[]⟩:=λ_=>rfl
 constructor
 ·intro p;unfold HC;simp only[bI,bH,av,k,bm,Zad,a7,Zan,Zao,aI];refine⟨⟨⟨[],[],0⟩,rfl,rfl,rfl,rfl,hz⟩,λx c=>⟨λe=>?_,λe=>?_⟩⟩
  ·have f:x.i<y.r.length:=ω;have⟨g,j,s3⟩:=xB c f;have⟨i1,i2,i3,i4,i5⟩:=c;refine⟨ω,e,λq=>?_,λq=>⟨⟨i2,by grind⟩,λa=>?_,λa=>⟨λd=>?_,λd=>⟨lH _,?_,_,rfl,bK ω,rfl,rfl,(s3 q a).2 d,by grind⟩⟩⟩⟩
   ·grind
   ·grind
   ·grind
   ·grind
  ·have⟨i1,i2,i3,i4,i5⟩:=c;grind [mB]
 ·intro o;have h0:(bn y).aq≠0:=λh=>by grind
  unfold HD;simp only[bI,bH,av,k,bm,Zad,a7,Zan,Zao,aI];refine⟨⟨⟨[],[],0⟩,rfl,rfl,rfl,rfl,hz⟩,λx c=>⟨λe=>?_,λe=>?_⟩⟩
  ·have f:x.i<y.r.length:=ω;have⟨g,j,s3⟩:=xB c f;have⟨i1,i2,i3,i4,i5⟩:=c;refine⟨ω,e,λq=>⟨(g q).1.symm,(g q).2.symm⟩,λq=>⟨⟨i2,by grind⟩,λa=>⟨(j q a).1.symm,(j q a).2.symm⟩,λa=>⟨λd=>⟨((s3 q a).1 d).1.symm,((s3 q a).1 d).2.symm⟩,λd=>⟨lH _,?_,_,rfl,bK ω,rfl,rfl,(s3 q a).2 d,by grind⟩⟩⟩⟩;simp only[Zab,Zae,Zak];omega
  ·have⟨i1,i2,i3,i4,i5⟩:=c;have:x.i=y.r.length:=ω;rw[this,ZbH,mB] at i5;rw[<-i5] at h0;exact h0 rfl
def Qh4 (hs:Ok HA) (b:Ok dr) (c:Ok w_):Ok Er:=QsR (k:=Er) (T:=HC) (F:=HD) [TO,Hy,HA,yy,D_] f34 QhP id id (λ_=>rfl) ⟨QhM,QhJ,hs,QaA b c,QaQ b⟩ (λy a=>(Qh3 y true a).1 rfl) λy a=>(Qh3 y false a).2 rfl
theorem vd {l:List Nd} (h:cx l):cx (cJ l):=by
 unfold cJ;split
 ·rename_i b
  have⟨t,h1,a,c⟩:=iU b;have e:ck l=(t,[]):=by grind [oV]
  rw[e];exact(pG t (Ec t h1) (by rw[<-a];exact⟨Zah _,h⟩)).2.2
 ·exact eA
theorem ve:∀(l:List qd) (i:Nat) (t:List Row) (o:List (List Nd)),(∀x∈o,cx x)->(∀x∈(mB l i t o).out,cx x)/\(mB l i t o).out.length<=o.length+l.length
 | [],i,t,o,h=>⟨h,Zah _⟩
 | x::l,i,t,o,h=>by
  rw[mB];split
  ·grind
  ·split
   ·grind
   ·split
    ·grind
    ·have⟨h1,a⟩:=ve l (i+1) (qK t x.name i) (o++[cJ (b_ x.text).1]) (BR h (vd (lH _)));grind
section
variable {y:cG} (h1:¬8<y.r.length)
include h1
theorem T5 (a:(bn y).aq≠0):iV y=Ki (bn y).aq (bn y).at_:=by grind [iV]
theorem T6 (a:(bn y).aq=0) (b:y.c≠[]) (d:(b_ y.c).2.1≠0):iV y=Ki (b_ y.c).2.1 y.r.length:=by grind [iV]
variable (h2:(bn y).aq=0) (h3:y.c≠[]->(b_ y.c).2.1=0)
include h2 h3
theorem T7 (a:(bW (bn y).out).2.1≠0):iV y=Ki (bW (bn y).out).2.1 (bW (bn y).out).2.2:=by grind [iV]
variable (h4:(bW (bn y).out).2.1=0)
include h4
theorem T8 (a:y.c≠[]) (b:(bW [cJ (b_ y.c).1]).2.1≠0):iV y=Ki (bW [cJ (b_ y.c).1]).2.1 y.r.length:=by grind [iV]
theorem T9 (a:y.c≠[]) (b:(bW [cJ (b_ y.c).1]).2.1=0):iV y=⟨(bW (bn y).out).1.1,(bW (bn y).out).1.2,(bW [cJ (b_ y.c).1]).1.1,(bW [cJ (b_ y.c).1]).1.2,0,0⟩:=by grind [iV]
theorem T_ (a:y.c=[]):iV y=⟨(bW (bn y).out).1.1,(bW (bn y).out).1.2,[],[],0,0⟩:=by grind [iV]
end
theorem Qh5 (y:cG) (b:Bool) (B:xy.pre (y,b)):(b->HE y)/\(b=false->HF y):=by
 obtain⟨hl,E⟩:y.r.length<=1000/\b=nV y:=B;have z:b5 y=iV y:=by grind [b5,aI]
 have n:y.c≠[]->BQ y=(b_ y.c).1:=λh=>by grind [BQ,aI]
 have j:y.c=[]->BQ y=[]:=λh=>by grind [BQ,aI]
 have p:b↔(iV y).aq=0:=by grind [nV]
 have m:(yD y↔(bn y).aq=0):=by grind [yD]
 have i:(yD y=false↔(bn y).aq≠0):=by grind
 have v:∀{s:By},seq s []=false↔s≠[]:=λ{s}=>by grind
 obtain⟨C,F⟩:(∀x∈(bn y).out,cx x)/\(bn y).out.length<=y.r.length:=by
  grind [ve,bn,aI]
 have w:o3 (bn y).out:=⟨ω,C⟩;have q:cx (BQ y):=by
  by_cases h:y.c=[]
  ·grind [eA]
  ·grind [lH]
 have u:o3 [cJ (BQ y)]:=⟨by simp,λl hl=>by rw[List.mem_singleton.mp hl];exact vd q⟩;have t:8<y.r.length->iV y=Ki 13 8:=λh=>by grind [iV]
 constructor
 ·intro A;have h0:=p.mp A;unfold HE;simp only[bI,bH,av,wL,v,Zan,Zao,aI,ZaY,ZaZ,m,i];refine⟨λo=>?_,λo=>⟨λd=>⟨⟨by grind,(m.mpr d).symm⟩,λh=>absurd rfl h,hl,⟨λa=>⟨λf=>?_,λf=>⟨(n a).symm,λ_=>f⟩⟩,λa=>⟨(j a).symm,λh=>absurd a h⟩⟩,λk=>⟨w,λg=>?_,λg=>⟨λa=>⟨q,u,λe=>?_,λe=>?_⟩,λa=>?_⟩⟩⟩,λd=>absurd ?_ d⟩⟩
  ·rw[t ω] at h0;cases h0
  ·rw[T6 ω d a f] at h0;exact f h0
  ·rw[T7 ω d k g] at h0;exact g h0
  ·rw[n a] at e;rw[T8 ω d k g a e] at h0;exact e h0
  ·grind [T9]
  ·grind [T_]
  ·refine Zch λh=>?_
   rw[T5 ω h] at h0;exact h h0
 ·intro D;unfold HF;rw[z];simp only[bI,bH,av,wL,v,Zan,Zao,aI,ZaY,ZaZ,m,i];refine⟨λo=>?_,λo=>⟨λd=>⟨⟨by grind,(m.mpr d).symm⟩,λh=>absurd rfl h,hl,⟨λa=>⟨λf=>?_,λf=>⟨(n a).symm,λ_=>f⟩⟩,λa=>⟨(j a).symm,λh=>absurd a h⟩⟩,λk=>⟨w,λg=>?_,λg=>⟨λa=>⟨q,u,λe=>?_,λe=>?_⟩,λa=>?_⟩⟩⟩,λd=>⟨⟨by grind,(i.mpr d).symm⟩,λ_=>?_,λh=>absurd h d⟩⟩⟩
  ·rw[t ω];exact⟨rfl,rfl⟩
  ·rw[T6 ω d a f];exact⟨rfl,rfl⟩
  ·rw[T7 ω d k g];exact⟨rfl,rfl⟩
  ·rw[n a] at e ⊢;rw[T8 ω d k g a e];exact⟨rfl,rfl⟩
  ·grind [T9]
  ·grind [T_]
  ·rw[T5 ω d];exact⟨rfl,rfl⟩
def Qh6 (hs:Ok HA) (a:Ok dr) (c:Ok w_):Ok xy:=QsR (k:=xy) (T:=HE) (F:=HF) [Er,TP,yy,Hw,D_] f12 QhT id id (λ_=>rfl) ⟨Qh4 hs a c,QhN,QaA a c,QhG a,QaQ a⟩ (λy b=>(Qh5 y true b).1 rfl) λy b=>(Qh5 y false b).2 rfl
end sx
set_option maxRecDepth 100000
set_option maxHeartbeats 4000000
namespace sx
noncomputable section
open Go Go.RowKit cls syn
def HH:br D:=bL 75 ah (λa _=>uq a) dA (λy=>[.agg (D.bd 15 y)]) λy=>.list 7 (cZ y)
def Qpr (t:ah):ah:=.mk t.op t.r t.mn t.mx t.lz t.cap t.af.length t.af
abbrev tbx (t:ah):Nat×AO D.E:=(0,.cells (D.bd 15 t) 167 false)
def Qpt (y:HH.Y):cO D:=⟨[],[],[(122,⟨Nat,[],λx=>[(1,.ptr 0 0),(3,.grow 7 (oR y x) 1),(4,QsE x)],[],λ_=>[tbx (Qpr y),(1,.tok 7 152)],2,λx=>x<=y.af.length,λx=>y.af.length-x⟩)],[],1,[]⟩
def Qpu (y:HH.Y):Prop:=vc [HH.under dc (dc y)] f75 HH Qpt y
def uA (a b:ah):Bool:=lk (decide (aD a=aD b))
def M9:br D:=bL 189 (ah×ah) (λa _=>Qhe a) (λy=>dA y.1/\dA y.2) (λy=>[.agg (D.bd 15 y.1),.agg (D.bd 15 y.2)]) λy=>.bool (uA y.1 y.2)
def Eu (y:ah×ah) (i:Nat):Prop:=i<=(cZ y.1).length/\(cZ y.1).length=(cZ y.2).length/\∀j,j<i->(cZ y.1).getD j (nd 0)=(cZ y.2).getD j (nd 0)
def M_ (y:ah×ah) (i k:Nat):Prop:=Eu y i/\i<(cZ y.1).length/\({ (cZ y.1).getD i (nd 0) with r:=[] }={ (cZ y.2).getD i (nd 0) with r:=[] }/\((cZ y.1).getD i (nd 0)).r.length=((cZ y.2).getD i (nd 0)).r.length)/\k<=((cZ y.1).getD i (nd 0)).r.length/\∀j,j<k->((cZ y.1).getD i (nd 0)).r.getD j (0,0)=((cZ y.2).getD i (nd 0)).r.getD j (0,0)
def Qpv (y:M9.Y):cO D:=⟨[],[],[(122,⟨Nat,[5,6],λi=>[(7,QsE i)],[],λ_=>[],0,Eu y,λi=>(cZ y.1).length-i⟩)],[],1,
 [(15654,⟨Nat,λi=>⟨Nat,[5,6,7],λx=>[(8,QsE x)],[],λ_=>[],0,M_ y i,λx=>((cZ y.1).getD i (nd 0)).r.length-x⟩,none⟩)]⟩
def HJ:br D:=bL 156 ah (λa _=>uq a) dA (λy=>[.agg (D.bd 15 y)]) λy=>.bool (eZ y)
def Qpx (y:HJ.Y):cO D:=⟨[],[],[(58,{ X:=Nat,aN:=[],sl:=λx=>[(1,.ptr 0 0),(3,QsE x)],kp:=[],pc:=λ_=>[tbx y],nx:=1,inv:=λx=>x<=y.af.length/\∀j,j<x->eZ (y.af.getD j bA)=false,me:=λx=>y.af.length-x })],[],1,[]⟩
def Qpy (y:HJ.Y):Prop:=vc [HJ.under dc (dc y)] f156 HJ Qpx y
abbrev RA7 (v:ah) (p:Prop):Prop:=aa [v.r] (aa [v.mn] (aa [v.mx] (aa [v.lz] (aa [v.cap] p))))
def Ua (y:ah):Prop:=let b:=y.af;let q1:=b.length;let d:=(q1:Int);(∃z:Nat,([Nd.mk y.op y.r y.mn y.mx y.lz y.cap (ag b)]:List Nd)=oR y z/\0=(z:Int)/\RAL y.op (RA7 y (ag b=d/\aa [b] ((Iv (z<=q1))))))/\(∀x:Nat,let e:=ay (x:Int) (ag b);let a:=gt (ah.mk 0 [] 0 0 false 0 0 []) b (x:Int).toNat;let c:=ah.mk a.op a.r a.mn a.mx a.lz a.cap a.nk a.af;let f:=bC (oR y x) (cZ c);(Iv (x<=q1))->ak e (aH 0 (x:Int)=true/\e=true/\Iv (dA c/\dc c<dc y)/\RA0 a (RAL a.af (bx (ag f) 72=true/\∃z:Nat,f=oR y z/\aw .i64 (x:Int) 1=(z:Int)/\aa [y.op] (aa [y.r] (aa [y.mn,y.mx] (aa [y.lz] (aa [y.cap,d] (aa [b] ((Iv (z<=q1/\(q1-z)<(q1-x)))))))))))) (oR y x=cZ y/\True))
def Zq:∀y,Ua y=Qpu y:=λy=>by kernel_rfl
def Ub (y:ah×ah):Prop:=let u:=(cZ y.1).length;let q1:=ah.mk y.2.op y.2.r y.2.mn y.2.mx y.2.lz y.2.cap y.2.nk y.2.af;let v:=ah.mk y.1.op y.1.r y.1.mn y.1.mx y.1.lz y.1.cap y.1.nk y.1.af;let i:=cZ v;let j:=cZ q1;let c:=ag i;let g:=ag j;let A:=Nd.mk 0 [] 0 0 false 0 0;Iv (dA v)/\RA0 y.1 (RAL y.1.af (Iv (dA q1)/\aa [y.2.op] (aa [y.2.r] (aa [y.2.mn,y.2.mx] (aa [y.2.lz] (aa [y.2.cap,y.2.nk] (aa [y.2.af] (aa [y.1.op] (aa [y.1.r] (aa [y.1.mn,y.1.mx] (aa [y.1.lz] (aa [y.1.cap,y.1.nk] (aa [y.1.af] (aa [y.2.op] (aa [y.2.r] (aa [y.2.mn,y.2.mx] (aa [y.2.lz] (aa [y.2.cap,y.2.nk] (aa [y.2.af] (aa [y.2.op] (aa [y.2.r] (aa [y.2.mn,y.2.mx] (aa [y.2.lz] (aa [y.2.cap,y.2.nk] (aa [y.2.af] (ak (!(aC c g)) (false=uA y.1 y.2/\True) ((∃z:Nat,aa [i,j] (0=(z:Int)/\(Iv (Eu y z))))/\(∀x:Nat,let a:=gt A i (x:Int).toNat;let b:=gt A j (x:Int).toNat;let w:=!(aC a.op b.op);let m:=!(pO a.lz b.lz);let n:=!(aC a.af b.af);let o:=!(aC a.cap b.cap);let p:=!(aC a.mx b.mx);let q:=!(aC a.mn b.mn);let s:=!(aC (ag a.r) (ag b.r));(Iv (Eu y x))->ak (ay (x:Int) c) (aH 0 (x:Int)/\ay (x:Int) c/\aH 0 (x:Int)/\ay (x:Int) g/\ak w (aa [a.op,b.op] (false=uA y.1 y.2/\True)) (aH 0 (x:Int)/\ay (x:Int) c/\aH 0 (x:Int)/\ay (x:Int) g/\ak q (aa [a.op,b.op,a.mn,b.mn] (false=uA y.1 y.2/\True)) (aH 0 (x:Int)/\ay (x:Int) c/\aH 0 (x:Int)/\ay (x:Int) g/\ak p (aa [a.op,b.op,a.mn,b.mn,a.mx,b.mx] (false=uA y.1 y.2/\True)) (aH 0 (x:Int)/\ay (x:Int) c/\aH 0 (x:Int)/\ay (x:Int) g/\ak m (aa [a.op,b.op,a.mn,b.mn,a.mx,b.mx] (aa [a.lz,b.lz] (false=uA y.1 y.2/\True))) (aH 0 (x:Int)/\ay (x:Int) c/\aH 0 (x:Int)/\ay (x:Int) g/\ak o (aa [a.op,b.op,a.mn,b.mn,a.mx,b.mx] (aa [a.lz,b.lz] (aa [a.cap,b.cap] (false=uA y.1 y.2/\True)))) (aH 0 (x:Int)/\ay (x:Int) c/\aH 0 (x:Int)/\ay (x:Int) g/\ak n (aa [a.op,b.op,a.mn,b.mn,a.mx,b.mx] (aa [a.lz,b.lz] (aa [a.cap,b.cap,a.af,b.af] (false=uA y.1 y.2/\True)))) (aH 0 (x:Int)/\ay (x:Int) c/\aH 0 (x:Int)/\ay (x:Int) g/\aa [a.op,b.op,a.mn,b.mn,a.mx,b.mx] (aa [a.lz,b.lz] (aa [a.cap,b.cap,a.af,b.af] (aa [a.r,b.r] (ak s (false=uA y.1 y.2/\True) (∃z:Nat,let k:=(List.getD (cZ y.1) z (nd 0)).r.length;(∃d:Nat,aa [i,j] (aa [(x:Int)] (0=(d:Int)/\(Iv (M_ y z d)))))/\(∀h:Nat,let l:=ay (h:Int) (ag a.r);let e:=gt (0,0) a.r (h:Int).toNat;let f:=gt (0,0) b.r (h:Int).toNat;let t:=!((aC e.1 f.1)&&(aC e.2 f.2));(Iv (M_ y z h))->aH 0 (x:Int)/\ay (x:Int) c/\ak l (aH 0 (x:Int)/\ay (x:Int) c/\aH 0 (h:Int)/\l/\aH 0 (x:Int)/\ay (x:Int) g/\aH 0 (h:Int)/\ay (h:Int) (ag b.r)/\aa [a.r] (aa [e.1,e.2] (aa [b.r] (aa [f.1,f.2] (ak t (false=uA y.1 y.2/\True) (∃d:Nat,aa [i,j] (aa [(x:Int)] (aw .i64 (h:Int) 1=(d:Int)/\(Iv (M_ y z d/\(k-d)<(k-h))))))))))) (∃d:Nat,aa [i,j] (aw .i64 (x:Int) 1=(d:Int)/\(Iv (Eu y d/\(u-d)<(u-x)))))))))))))))))) (true=uA y.1 y.2/\True)))))))))))))))))))))))))))))
def Uc (y:ah):Prop:=let b:=y.af;let f:=λp:Prop=>RA0 y (RAL b p);let u:=λz:Nat=>(∀j:Nat,(Nat.le (Nat.succ j) z)->eZ (List.getD b j bA)=false);ak (aC y.op 6) (true=eZ y/\True) ((∃z:Nat,0=(z:Int)/\f ((Iv (z<=b.length/\u z))))/\(∀x:Nat,let c:=b.length;let e:=ay (x:Int) (ag b);let a:=gt (ah.mk 0 [] 0 0 false 0 0 []) b (x:Int).toNat;let d:=ah.mk a.op a.r a.mn a.mx a.lz a.cap a.nk a.af;(Iv (x<=c/\(∀j:Nat,(Nat.le (Nat.succ j) x)->eZ (List.getD b j bA)=false)))->ak e (aH 0 (x:Int)/\e/\Iv (dA d/\dc d<dc y)/\RA0 a (RAL a.af (ak (eZ d) (true=eZ y/\True) (∃z:Nat,aw .i64 (x:Int) 1=(z:Int)/\f ((Iv ((z<=c/\u z)/\(c-z)<(c-x)))))))) (false=eZ y/\True)))
def Zs:∀y,Uc y=Qpy y:=λy=>by kernel_rfl
theorem Ev (l:List ah):l.length<=(aA l).length:=by
 induction l with
 | nil=>simp
 | cons a l b=>simp only[aA,Zab,Zae];rw[bQ];simp;omega
theorem xC {y:ah} (h:dA y) {x:Nat} (c:x<y.af.length):dA (y.af.getD x bA)/\oR y x++cZ (y.af.getD x bA)=oR y (x+1)/\(oR y (x+1)).length<=1000000:=by
 obtain⟨h1,a⟩:=h;have ht:=cg bA c;have d:y.af=y.af.take x++(y.af.getD x bA::y.af.drop (x+1)):=by
  simp_all
 have b:aA y.af=aA (y.af.take x)++(aD (y.af.getD x bA)++aA (y.af.drop (x+1))):=by
  grind [cz,aA]
 have hs:aA (y.af.take (x+1))=aA (y.af.take x)++aD (y.af.getD x bA):=by
  grind [cz,aA]
 have hlen:=ZaR List.length b;simp only[Zab] at hlen;rw[bQ] at h1;simp only[Zae] at h1;unfold oR cZ;rw[aI,aI,aI,hs];refine⟨⟨ω,λz hz=>a z ?_⟩,rfl,by grind⟩;grind [bQ]
theorem dA.few {y:ah} (h:dA y):y.af.length<=1000000:=by
 have:=Ev y.af;have h1:=h.1;grind [bQ]
theorem Qpz (y:ah) (a:HH.pre y):Ua y:=by
 have a:dA y:=a;have hk:=a.few;unfold Ua;have b:∀n,gt (ah.mk 0 [] 0 0 false 0 0 []) y.af n=y.af.getD n bA:=λ_=>rfl
 simp only[bH,km,gk,oG,av,a7,bm,b,bO,Zad];refine⟨⟨0,by unfold oR;rw[aI];rfl,rfl,Zaj _⟩,λx c=>⟨λe=>?_,λe=>?_⟩⟩
 ·obtain⟨k1,k2,k3⟩:=xC a (show x<y.af.length by omega);rw[k2];exact⟨ω,e,⟨k1,im ω⟩,ω,x+1,rfl,bK ω,ω,ω⟩
 ·grind [oR,cZ,bQ]
def QaZ:Ok HH:=Ob dc Zq trivial Qpz
theorem QpA (y:ah×ah) (O:M9.pre y):Ub y:=by
 obtain⟨a,b⟩:=y;obtain⟨o,K⟩:dA a/\dA b:=O;have I:uA a b=decide (aD a=aD b):=by grind [uA,aI]
 have G:∀i,Eu (a,b) i↔(i<=(aD a).length/\(aD a).length=(aD b).length/\∀j,j<i->(aD a).getD j (nd 0)=(aD b).getD j (nd 0)):=λi=>by grind [Eu,cZ,aI]
 have H:∀i k,M_ (a,b) i k↔(Eu (a,b) i/\i<(aD a).length/\({ (aD a).getD i (nd 0) with r:=[] }={ (aD b).getD i (nd 0) with r:=[] }/\((aD a).getD i (nd 0)).r.length=((aD b).getD i (nd 0)).r.length)/\k<=((aD a).getD i (nd 0)).r.length/\∀j,j<k->((aD a).getD i (nd 0)).r.getD j (0,0)=((aD b).getD i (nd 0)).r.getD j (0,0)):=λi k=>by unfold M_ cZ;rw[aI,aI]
 have Q:(aD a).length<=1000000:=o.1;have m:∀i,i<(aD a).length->((aD a).getD i (nd 0)).r.length<=1000000:=λi hi=>o.2 _ (by grind)
 unfold Ub;have L:∀(l:List Nd) n,gt (Nd.mk 0 [] 0 0 false 0 0) l n=l.getD n (nd 0):=λ_ _=>rfl
 have s:∀(l:List Rg) n,gt (0,0) l n=l.getD n (0,0):=λ_ _=>rfl
 have D:∀{p q:Bool},pO p q↔p=q:=λ{p q}=>by simp[pO]
 have E:∀{p q:Bool},pO p q=false↔p≠q:=λ{p q}=>by grind
 have J:∀t:ah,cZ t=aD t:=λt=>by unfold cZ;rw[aI]
 simp only[bI,bH,av,L,s,D,E,bO,Zad,Zan,Zao,ZaW,Zbz,J,G,H,I];generalize aD a=A at*
 generalize aD b=B at*
 have ne:∀i,A.getD i (nd 0)≠B.getD i (nd 0)->false=decide (A=B):=λi h=>by
  grind
 refine⟨o,K,λhl=>?_,λhl=>⟨⟨0,rfl,Zaj _,ω,λj f=>absurd f (Zbo _)⟩,λx N=>⟨λe=>?_,λe=>?_⟩⟩⟩
 ·grind
 ·obtain⟨c1,c2,c3⟩:=N;have g:x<A.length:=ω;have d:(x:Int)<(B.length:Int):=ω;have c:(0:Int)<=(x:Int):=ω;have R:=m x g;have ne:=ne x;generalize hu:A.getD x (nd 0)=u at*
  generalize C:B.getD x (nd 0)=v at*
  refine⟨c,e,c,d,λq=>ne λh=>q (by rw[h]),λq1=>⟨c,e,c,d,λq=>ne λh=>q (by rw[h]),λS=>⟨c,e,c,d,λq=>ne λh=>q (by rw[h]),λT=>⟨c,e,c,d,λq=>ne λh=>q (by rw[h]),λU=>⟨c,e,c,d,λq=>ne λh=>q (by rw[h]),λV=>⟨c,e,c,d,λq=>ne λh=>q (by rw[h]),λW=>⟨c,e,c,d,λq=>ne λh=>q (by rw[h]),λX=>?_⟩⟩⟩⟩⟩⟩⟩;have hw:({ u with r:=[] }:Nd)={ v with r:=[] }:=by grind
  have w:u.r.length=v.r.length:=ω;refine⟨x,⟨0,rfl,⟨c1,c2,c3⟩,g,⟨by grind,by grind⟩,Zaj _,λj f=>absurd f (Zbo _)⟩,λk hk=>?_⟩;obtain⟨_,_,_,F,z⟩:=hk;rw[hu] at F z;rw[C] at z;refine⟨c,e,λek=>⟨c,e,ω,ek,c,d,ω,ω,λq=>ne λh=>?_,λq=>⟨k+1,bK ω,⟨⟨c1,c2,c3⟩,g,⟨by grind,ω⟩,by grind,λj f=>?_⟩,by grind⟩⟩,λek=>⟨x+1,bK ω,⟨ω,c2,λj f=>?_⟩,ω⟩⟩
  ·grind
  ·grind
  ·rcases Zbm j x with h | h
   ·exact c3 j h
   ·rw[show j=x by omega,hu,C];have M:u.r=v.r:=Zdx w λj h1 P=>by
     grind
    obtain⟨Y,Z,u3,u4,u5,u6,u7⟩:=u;obtain⟨v1,v2,v3,v4,v5,v6,v7⟩:=v;grind
 ·grind [List.ext_getElem]
def Qh7:Ok M9:=okZ [HH] f189 Qpv QaZ QpA
theorem QpB (y:ah) (a:HJ.pre y):Uc y:=by
 have a:dA y:=a;have hk:=a.few;have ge:=S5 y;unfold Uc;have d:∀n,gt (ah.mk 0 [] 0 0 false 0 0 []) y.af n=y.af.getD n bA:=λ_=>rfl
 simp only[bI,bH,av,d,bO,Zad];refine⟨λh=>by grind,λh=>⟨⟨0,rfl,Zaj _,λj c=>absurd c (Zbo _)⟩,λx f=>⟨λe=>?_,λe=>?_⟩⟩⟩
 ·have b:x<y.af.length:=ω;obtain⟨k1,_,_⟩:=xC a b;refine⟨ω,e,⟨k1,im b⟩,λq=>?_,λq=>⟨x+1,bK ω,⟨b,λj c=>?_⟩,ω⟩⟩
  ·grind
  ·grind
 ·grind [List.getElem_of_mem]
def Qh8:Ok HJ:=Ob dc Zs trivial QpB
abbrev uB (n:Nat) (t:ah):Nat×AO D.E:=(n,.cells (D.bd 15 t) 167 false)
abbrev tkO (n:Nat):Nat×AO D.E:=(n,.tok 15 167)
variable {l:List ah}
def Qia (a:List (AV D.E)) (s:St D.E):C (List ah):=match a with
 | [l]=>az (aU D s 15 l) λl=>.ret (l:List ah)
 | _=>.fail
def fa (l:List ah):List ah:=l.flatMap λk=>if k.op=1 then[] else if k.op=3 then k.af else[k]
def iv (t:ah) (a:List ah):ah:=.mk t.op t.r t.mn t.mx t.lz t.cap t.nk a
def HN (t:ah):ah:=match fa t.af with
 | []=>.mk 1 [] 0 0 false 0 0 []
 | [k]=>k
 | a=>iv t a
def HO:br D:=bL 113 ah (λa _=>uq a) (λy=>y.af.length<=1000000/\(fa y.af).length<=1000000) (λy=>[.agg (D.bd 15 y)]) λy=>.agg (D.bd 15 (lk (HN y)))
def QpC (y:HO.Y):cO D:=⟨[],[],[(58,⟨Nat,[],λx=>[(1,.ptr 0 0),(2,.ptr 1 0),(3,.grow 15 (fa (y.af.take x)) 2),(4,QsE x)],[],λ_=>[uB 0 y,uB 1 bA,tkO 2],3,λx=>x<=y.af.length,λx=>y.af.length-x⟩)],[],1,[]⟩
def eG:List ah->List ah->List ah
 | _,[]=>[]
 | s,k::l=>if s.any (λx=>uA x k)=true then eG (s++[k]) l else k::eG (s++[k]) l
def Na:br D:=bL 155 (List ah) Qia dF (λy=>[.list 15 y]) λy=>.list 15 (lk (eG [] y))
def yE (y:List ah) (x:List ah×Nat):Prop:=x.2<=y.length/\x.1.length<=x.2/\x.1++eG (y.take x.2) (y.drop x.2)=eG [] y
def HQ (y:List ah) (i k:Nat):Bool:=lk ((y.take k).any λx=>uA x (y.getD i bA))
def QpE (y:Na.Y):cO D:=⟨[],[],[(58,⟨List ah×Nat,[0],λx=>[(3,.grow 15 x.1 0),(4,QsE x.2)],[],λ_=>[tkO 0],1,yE y,λx=>y.length-x.2⟩)],[],1,
 [(14922,⟨List ah×Nat,λx=>⟨Nat,[0,4],λk=>[(3,.grow 15 x.1 0),(5,.bool (HQ y x.2 k)),(6,QsE k)],[],λ_=>[tkO 0],1,λk=>k<=x.2/\x.2<y.length/\yE y x,λk=>x.2-k⟩,none⟩)]⟩
def Nb:br D:=bL 154 (List ah) Qia (λy=>y.length<=1000000/\s7 y) (λy=>[.list 15 y]) λy=>.list 15 (bJ [] y)
def QpG (y:Nb.Y):cO D:=⟨[],[8],[(58,⟨List ah×Nat,[0],λx=>[(3,.own 0 8 (ag x.1)),(4,QsE x.2)],[],λx=>[(0,.arr 15 x.1 167 false)],1,rX y,λx=>y.length-x.2⟩)],[],1,[]⟩
def vg (l:List ah):List ah:=bJ [] (eG [] l)
def iw:Nat->List ah->List ah
 | 0,l=>vg l
 | n+1,l=>if (vg l).length<l.length then iw n (vg l) else vg l
def HR (t:ah):ah:=match iw (aF 4 t.af).length (aF 4 t.af) with
 | [k]=>k
 | a=>iv t a
def HS:br D:=bL 114 ah (λa _=>uq a) (λy=>y.af.length<=1000000/\dF (aF 4 y.af)) (λy=>[.agg (D.bd 15 y)]) λy=>.agg (D.bd 15 (lk (HR y)))
def QpI (y:HS.Y):cO D:=⟨[],[],[(58,⟨Nat,[],λx=>[(1,.ptr 0 0),(2,.ptr 1 0),(3,.grow 15 (aF 4 (y.af.take x)) 2),(5,QsE x)],[],λ_=>[uB 0 y,uB 1 bA,tkO 2],3,λx=>x<=y.af.length/\(aF 4 (y.af.take x)).length<=1000000,λx=>y.af.length-x⟩),
 (124,⟨List ah,[],λx=>[(1,.ptr 0 0),(2,.ptr 1 0),(3,.list 15 x),(4,.list 15 (lk (vg x)))],[],λ_=>[uB 0 y,uB 1 bA],2,λx=>dF x/\x.length<=(aF 4 y.af).length/\iw x.length x=iw (aF 4 y.af).length (aF 4 y.af),λx=>x.length⟩)],[],1,[]⟩
def QpK (y:ah):Prop:=YS y/\y.op=5
def HU:br D:=bL 115 ah (λa _=>uq a) QpK (λy=>[.agg (D.bd 15 y)]) λy=>.agg (D.bd 15 (lk (cQ y)))
def QpL (y:HU.Y):cO D:=⟨[],[],[],[(7,⟨Unit,[],λ_=>[(1,.ptr 0 0),(2,.ptr 1 0),(3,.ptr 2 0)],[],λ_=>[uB 0 (ur y),uB 1 bA,uB 2 (bF y)],3,λ_=>True,λ_=>0⟩)],1,[]⟩
def Ud (y:ah):Prop:=let a:=lk (HN y);let q1:=y.af;let c:=q1.length;let g:=λp:Prop=>RAC (RAD (RAB p));let h:=λp:Prop=>RAB (RAH (RA0 y (RAL q1 p)));let u:=ah.mk 0 [] 0 0 false 0 0 [];(∃z:Nat,[]=fa (List.take z q1)/\0=(z:Int)/\g (false=false/\h ((Iv (z<=c)))))/\(∀x:Nat,let d:=fa (List.take x q1);let f:=ay (x:Int) (ag q1);let e:=gt u d 0;let b:=gt u q1 (x:Int).toNat;let i:=bC d [ah.mk b.op b.r b.mn b.mx b.lz b.cap b.nk b.af];(Iv (x<=c))->ak f (aH 0 (x:Int)/\f/\ak (aC b.op 1) (∃z:Nat,d=fa (List.take z q1)/\aw .i64 (x:Int) 1=(z:Int)/\g (false=false/\h ((Iv (z<=c/\(c-z)<(c-x)))))) (ak (aC b.op 3) (aH 0 (x:Int)/\f/\bx (ag (bC d b.af)) 96/\∃z:Nat,bC d b.af=fa (List.take z q1)/\aw .i64 (x:Int) 1=(z:Int)/\g (false=false/\h ((Iv (z<=c/\(c-z)<(c-x)))))) (aH 0 (x:Int)/\f/\bx (ag i) 96/\∃z:Nat,i=fa (List.take z q1)/\aw .i64 (x:Int) 1=(z:Int)/\g (false=false/\h ((Iv (z<=c/\(c-z)<(c-x)))))))) (ak (aC (ag d) 0) (1=a.op/\[]=a.r/\0=a.mn/\0=a.mx/\false=a.lz/\0=a.cap/\0=a.nk/\[]=a.af/\True) (ak (aC (ag d) 1) (Tt 1 (ay 0 (ag d)/\e.op=a.op/\e.r=a.r/\e.mn=a.mn/\e.mx=a.mx/\e.lz=a.lz/\e.cap=a.cap/\e.nk=a.nk/\e.af=a.af/\True)) (y.op=a.op/\y.r=a.r/\y.mn=a.mn/\y.mx=a.mx/\y.lz=a.lz/\y.cap=a.cap/\y.nk=a.nk/\d=a.af/\True))))
def Ue (y:List ah):Prop:=let e:=y.length;let u:=ah.mk 0 [] 0 0 false 0 0 [];(∃z:(List ah)×Nat,RAL y ([]=z.1/\0=(z.2:Int)/\(Iv (yE y z))))/\(∀x:(List ah)×Nat,let q1:=(x.2:Int);let a:=gt u y q1.toNat;let f:=ah.mk a.op a.r a.mn a.mx a.lz a.cap a.nk a.af;let g:=([f]:List ah);(Iv (yE y x))->ak (ay q1 (ag y)) (∃z:(List ah)×Nat,(∃c:Nat,RAM y q1 (x.1=z.1/\false=HQ y z.2 c/\0=(c:Int)/\(Iv (c<=z.2/\z.2<e/\yE y z))))/\(∀d:Nat,let h:=HQ y z.2 d;let j:=ay (d:Int) q1;let b:=gt u y (d:Int).toNat;let i:=ah.mk b.op b.r b.mn b.mx b.lz b.cap b.nk b.af;(Iv (d<=z.2/\z.2<e/\yE y z))->ak j (ak h (∃c:Nat,RAO y q1 z.1 (true=HQ y z.2 c/\aw .i64 (d:Int) 1=(c:Int)/\(Iv ((c<=z.2/\z.2<e/\yE y z)/\(z.2-c)<(z.2-d))))) (aH 0 (d:Int)/\ay (d:Int) (ag y)/\aH 0 q1/\ay q1 (ag y)/\Iv (dA i/\dA f)/\RA0 b (RAL b.af (RA0 a (RAL a.af (RA0 b (RAL b.af (RA0 a (RAL a.af (∃c:Nat,aa [y] (aa [q1] (aa [z.1] (uA i f=HQ y z.2 c/\aw .i64 (d:Int) 1=(c:Int)/\(Iv ((c<=z.2/\z.2<e/\yE y z)/\(z.2-c)<(z.2-d)))))))))))))))) (ak (!h) (aH 0 q1/\ay q1 (ag y)/\bx (ag (bC z.1 g)) 96/\∃c:(List ah)×Nat,RAL y (bC z.1 g=c.1/\aw .i64 q1 1=(c.2:Int)/\(Iv (yE y c/\(e-c.2)<(e-x.2))))) (∃c:(List ah)×Nat,RAL y (z.1=c.1/\aw .i64 q1 1=(c.2:Int)/\(Iv (yE y c/\(e-c.2)<(e-x.2)))))))) (x.1=lk (eG [] y)/\True))
def Uf (y:List ah):Prop:=let e:=y.length;let j:=λp:Prop=>RAL y p;let u:=ah.mk 0 [] 0 0 false 0 0 [];(∃z:(List ah)×Nat,j (0=ag z.1/\0=(z.2:Int)/\[]=z.1/\(Iv (rX y z))))/\(∀x:(List ah)×Nat,let d:=ag x.1;let b:=(x.2:Int);let c:=cF .i64 d 1;let a:=gt u y b.toNat;let f:=gt u x.1 c.toNat;let g:=bC (bC [] f.r) a.r;let h:=bC x.1 [ah.mk a.op a.r a.mn a.mx a.lz a.cap a.nk a.af];let i:Prop:=(aH 0 b/\ay b (ag y)/\bx (ag h) 96/\∃z:(List ah)×Nat,j (ag h=ag z.1/\aw .i64 b 1=(z.2:Int)/\h=z.1/\(Iv (rX y z/\(e-z.2)<(e-x.2)))));(Iv (rX y x))->ak (ay b (ag y)) (ak (ay 0 d) (aH 0 c/\ay c d/\ak (aC f.op 2) (aH 0 b/\ay b (ag y)/\ak (aC a.op 2) (aH 0 c/\ay c d/\bx (ag (bC [] f.r)) 8/\aH 0 b/\ay b (ag y)/\bx (ag g) 8/\Iv (g.length<=2000000)/\RAL g (aH 0 c/\ay c d/\aa [f.r,a.r,a.r] (∃z:(List ah)×Nat,j (d=ag z.1/\aw .i64 b 1=(z.2:Int)/\cC x.1 c.toNat (ah.mk 2 (aV g) 0 0 false 0 0 [])=z.1/\(Iv (rX y z/\(e-z.2)<(e-x.2))))))) (i)) (i)) (i)) (x.1=bJ [] y/\True))
def Ug (y:ah):Prop:=let d:=lk (HR y);let q1:=y.af;let m:=(aF 4 q1).length;let n:=λp:Prop=>RAB (RAH (RA0 y (RAL q1 p)));let o:=λp:Prop=>RAC (RAD (RAB p));let A:=ah.mk 0 [] 0 0 false 0 0 [];(∃z:Nat,let u:=aF 4 (List.take z q1);[]=u/\0=(z:Int)/\o (false=false/\n ((Iv (z<=q1.length/\u.length<=1000000)))))/\(∀x:Nat,let g:=q1.length;let q:=ay (x:Int) (ag q1);let f:=aF 4 (List.take x q1);let s:=lk (eG [] f);let a:=gt A q1 (x:Int).toNat;let i:=bC f [ah.mk a.op a.r a.mn a.mx a.lz a.cap a.nk a.af];(Iv (x<=g/\f.length<=1000000))->ak q (aH 0 (x:Int)/\q/\ak (aC a.op 4) (aH 0 (x:Int)/\q/\bx (ag (bC f a.af)) 96/\∃z:Nat,let j:=aF 4 (List.take z q1);bC f a.af=j/\aw .i64 (x:Int) 1=(z:Int)/\o (false=false/\n ((Iv ((z<=g/\j.length<=1000000)/\(g-z)<(g-x)))))) (aH 0 (x:Int)/\q/\bx (ag i) 96/\∃z:Nat,let k:=aF 4 (List.take z q1);i=k/\aw .i64 (x:Int) 1=(z:Int)/\o (false=false/\n ((Iv ((z<=g/\k.length<=1000000)/\(g-z)<(g-x))))))) (Iv (dF f)/\RAL f (Iv (s.length<=1000000/\s7 s)/\aa [s] ((∃z:List ah,f=z/\bJ [] s=lk (vg z)/\o (false=false/\n ((Iv (dF z/\z.length<=m/\iw z.length z=iw m (aF 4 q1))))))/\(∀h:List ah,let b:=lk (vg h);let e:=lk (eG [] b);let t:=ay (ag b) (ag h);let c:=gt A b 0;let l:=iw m (aF 4 q1);(Iv (dF h/\h.length<=m/\iw h.length h=l))->ak t (Iv (dF b)/\aa [b] (Iv (e.length<=1000000/\s7 e)/\aa [e] (∃z:List ah,b=z/\bJ [] e=lk (vg z)/\o (false=false/\n ((Iv ((dF z/\z.length<=m/\iw z.length z=l)/\z.length<h.length))))))) (ak (aC (ag b) 1) (Tt 1 (ay 0 (ag b)/\c.op=d.op/\c.r=d.r/\c.mn=d.mn/\c.mx=d.mx/\c.lz=d.lz/\c.cap=d.cap/\c.nk=d.nk/\c.af=d.af/\True)) (y.op=d.op/\y.r=d.r/\y.mn=d.mn/\y.mx=d.mx/\y.lz=d.lz/\y.cap=d.cap/\y.nk=d.nk/\b=d.af/\True)))))))
def Uh (y:ah):Prop:=let a:=bF y;let q1:=lk (cQ y);let d:=a.af;let u:=ah.mk 0 [] 0 0 false 0 0 [];let c:=gt u y.af 0;let n:=aC (gt u d 0).op 2;let i:=y.lz&&(decide (Ne y.mn y.mx));let j:=ah.mk a.op a.r a.mn a.mx a.lz a.cap a.nk d;let l:=λp:Prop=>RAC (RAD (RAB p));let m:=λp:Prop=>RAB (RAH (RAP y.op y.r y.mn y.mx p));let k:Prop:=(RAO y.cap y.nk y.af ((Iv True)));let e:Prop:=(a.mx=q1.mx/\a.lz=q1.lz/\a.cap=q1.cap/\a.nk=q1.nk/\d=q1.af/\True);let f:Prop:=(a.op=q1.op/\a.r=q1.r/\a.mn=q1.mn/\e);let b:Prop:=(y.op=q1.op/\y.r=q1.r/\y.mn=q1.mn/\y.mx=q1.mx/\i=q1.lz/\y.cap=q1.cap/\y.nk=q1.nk/\y.af=q1.af/\True);let g:Prop:=(ak (aC a.op 5) (Tt 1 (ay 0 (ag d)/\ak n (ak (!i) (ak (!a.lz) (ak (aC y.mx (-1)) (ak (aC a.mx (-1)) (ak (aH y.mn 1) (ak (aH a.mn 1) (a.op=q1.op/\a.r=q1.r/\iB .i64 a.mn y.mn=q1.mn/\e) (b)) (b)) (b)) (b)) (b)) (b)) (b))) (b));let h:Prop:=(ak (aC y.mx 0) (Iv (dA j)/\RA0 a (RAL d (ak (!(eZ j)) (1=q1.op/\[]=q1.r/\0=q1.mn/\0=q1.mx/\false=q1.lz/\0=q1.cap/\0=q1.nk/\[]=q1.af/\True) (g)))) (g));Tt 1 (ay 0 (ag y.af)/\(ak (aC y.mn y.mx) (∃z:Unit,c.op=a.op/\c.r=a.r/\c.mn=a.mn/\c.mx=a.mx/\c.lz=a.lz/\c.cap=a.cap/\c.nk=a.nk/\c.af=d/\l (false=false/\m (false=i/\k))) (∃z:Unit,c.op=a.op/\c.r=a.r/\c.mn=a.mn/\c.mx=a.mx/\c.lz=a.lz/\c.cap=a.cap/\c.nk=a.nk/\c.af=d/\l (false=false/\m (y.lz=i/\k))))/\(∀x:Unit,(Iv True)->ak (aC a.op 1) (f) (ak (aC y.mn 1) (ak (aC y.mx 1) (f) (h)) (h))))
theorem fields {a b:ah} (h:b=a):a.op=b.op/\a.r=b.r/\a.mn=b.mn/\a.mx=b.mx/\a.lz=b.lz/\a.cap=b.cap/\a.nk=b.nk/\a.af=b.af:=by
 grind
def xD (t:ah) (a:List ah):t.op=(iv t a).op/\t.r=(iv t a).r/\t.mn=(iv t a).mn/\t.mx=(iv t a).mx/\t.lz=(iv t a).lz/\t.cap=(iv t a).cap/\t.nk=(iv t a).nk/\a=(iv t a).af:=⟨rfl,rfl,rfl,rfl,rfl,rfl,rfl,rfl⟩
theorem Nc (a b:List ah):fa (a++b)=fa a++fa b:=by grind [fa]
theorem HV {x:Nat} (a:x<l.length):fa (l.take (x+1))=fa (l.take x)++(if (l.getD x bA).op=1 then[] else if (l.getD x bA).op=3 then(l.getD x bA).af else[l.getD x bA])/\(fa (l.take (x+1))).length<=(fa l).length:=by
 constructor
 ·grind [cg,fa]
 ·grind [List.take_append_drop,Nc]
theorem QpN (y:ah) (f:HO.pre y):Ud y:=by
 obtain⟨h1,g⟩:y.af.length<=1000000/\(fa y.af).length<=1000000:=f;unfold Ud;have d:∀(l:List ah) n,gt (ah.mk 0 [] 0 0 false 0 0 []) l n=l.getD n bA:=λ_ _=>rfl
 simp only[bI,bH,av,a7,bm,d,bO,Zad,aI];refine⟨⟨0,by rfl,rfl,Zaj _⟩,λx i=>⟨λe=>?_,λe=>?_⟩⟩
 ·have c:x<y.af.length:=ω;have⟨j,m⟩:=HV c;grind
 ·rw[show x=y.af.length by omega,ZaM];unfold HN
  match fa y.af with
  | []=>exact⟨λ_=>⟨rfl,rfl,rfl,rfl,rfl,rfl,rfl,rfl⟩,λh=>absurd rfl h⟩
  | [k]=>exact⟨λh=>by simp at h,λ_=>⟨λ_=>⟨by simp,rfl,rfl,rfl,rfl,rfl,rfl,rfl,rfl⟩,λh=>by simp at h⟩⟩
  | a::b::l=>exact⟨λh=>by grind,λ_=>⟨λh=>by grind,λ_=>xD _ _⟩⟩
def Qib:Ok HO:=okZ [] f113 QpC trivial QpN
theorem nv:∀(l s:List ah),(eG s l).Sublist l
 | [],s=>List.Sublist.refl _
 | k::l,s=>by
  rw[eG];split
  ·exact(nv l _).cons _
  ·exact(nv l _).cons₂ _
theorem HW:∀{l m:List ah},l.Sublist m->∀{n:Nat},NL n (aA m)->NL n (aA l)
 | _,_,.slnil,_,h=>h
 | _,_,.cons a hs,_,h=>by
  have⟨p1,p2,p3⟩:=nt h;have:=HW hs p2;exact this.to ω
 | _,_,.cons₂ a hs,_,h=>by
  have⟨p1,p2,p3⟩:=nt h;have:=HW hs p2;exact(p1.app this).to p3
def HY (h:dF l):dF (eG [] l)/\(eG [] l).length<=l.length:=⟨HW (nv l []) h,(nv l []).length_le⟩
theorem QpO (y:List ah) (b:Na.pre y):Ue y:=by
 have hl:=b.len;have c:∀i k,HQ y i k=(y.take k).any λx=>uA x (y.getD i bA):=λi k=>by grind [HQ,aI]
 unfold Ue;have h:∀(l:List ah) n,gt (ah.mk 0 [] 0 0 false 0 0 []) l n=l.getD n bA:=λ_ _=>rfl
 simp only[bI,bH,av,a7,bm,h,bO,Zad,aI,Zan,Zao,c];refine⟨⟨([],0),rfl,rfl,Zaj _,Zah _,rfl⟩,λx a=>⟨λe=>⟨x,⟨0,rfl,rfl,rfl,Zaj _,ω,a⟩,λk hk=>⟨λek=>?_,λek=>?_⟩⟩,λe=>?_⟩⟩
 ·have⟨k1,k2,_⟩:=hk;have j:k<y.length:=ω;have ht:∀f:ah->Bool,(y.take (k+1)).any f=((y.take k).any f||f (y.getD k bA)):=λf=>by grind [cg]
  refine⟨λq=>⟨k+1,by grind,bK ω,⟨ω,k2,a⟩,ω⟩,λq=>⟨ω,ω,ω,e,⟨b.get j,b.get k2⟩,k+1,by grind,bK ω,⟨ω,k2,a⟩,ω⟩⟩
 ·have⟨k1,k2,_⟩:=hk;have:k=x.2:=ω;subst this;have⟨i1,i2,i3⟩:=a;have g:y.drop x.2=y.getD x.2 bA::y.drop (x.2+1):=by simp_all
  rw[g,eG] at i3;have d:y.take x.2++[y.getD x.2 bA]=y.take (x.2+1):=(cg bA k2).symm;rw[d] at i3;refine⟨λq=>?_,λq=>?_⟩
  ·exact⟨ω,e,by grind,(x.1++[y.getD x.2 bA],x.2+1),rfl,bK ω,⟨k2,by grind,by grind⟩,show y.length-(x.2+1)<y.length-x.2 by omega⟩
  ·rw[Zac q] at i3;exact⟨(x.1,x.2+1),rfl,bK ω,⟨k2,by grind,i3⟩,show y.length-(x.2+1)<y.length-x.2 by omega⟩
 ·have⟨i1,i2,i3⟩:=a;grind [eG]
def Qic:Ok Na:=okZ [M9] f155 QpE Qh7 QpO
theorem QpP (y:List ah) (p:Nb.pre y):Uf y:=by
 obtain⟨hl,j⟩:y.length<=1000000/\s7 y:=p;unfold Uf;have f:∀(l:List ah) n,gt (ah.mk 0 [] 0 0 false 0 0 []) l n=l.getD n bA:=λ_ _=>rfl
 simp only[bI,bH,av,a7,bm,f,bO,Zad,Zcb];refine⟨⟨([],0),rfl,rfl,rfl,Zaj _,rfl,Zah _,λt ht=>nomatch ht⟩,λx m=>?_⟩;have⟨o,i⟩:=x;obtain⟨c1,c2,c3,c4⟩:i<=y.length/\bJ o (y.drop i)=bJ [] y/\o.length<=i/\s7 o:=m;simp only;refine⟨λe=>?_,λe=>?_⟩
 ·have d:y.drop i=y.getD i bA::y.drop (i+1):=by simp_all
  have hk:(y.getD i bA).r.length<=1000000:=j _ (by grind);rw[d,bJ] at c2;have s:=iT o (y.getD i bA);have q:=D5 c4 hk;have step:∀z,z=dv o (y.getD i bA)->rX y (z,i+1)/\y.length-(i+1)<y.length-i:=λz hz=>by
   subst hz;exact⟨⟨show i+1<=y.length by omega,c2,show(dv o (y.getD i bA)).length<=i+1 by omega,q⟩,ω⟩
  generalize y.getD i bA=k at*
  have b:¬(o.length≠0/\k.op=2/\(nL o).op=2)->(0:Int)<=(i:Int)/\(i:Int)<(y.length:Int)/\(((o++[k]).length:Nat):Int)*(96:Nat)<=140737488355328/\∃z:List ah×Nat,(((o++[k]).length:Nat):Int)=((z.1.length:Nat):Int)/\aw .i64 (i:Int) 1=(z.2:Int)/\o++[k]=z.1/\rX y z/\y.length-z.2<y.length-i:=λh=>by
   grind [dv]
  refine⟨λh0=>?_,λh0=>b λh=>h.1 ω⟩;rw[zO ω ω];have c:o.getD (((o.length-1:Nat):Int).toNat) bA=nL o:=rfl;have g:(nL o).r.length<=1000000:=c4 _ (by grind);simp only[c];refine⟨ω,ω,λh1=>⟨ω,e,λa=>⟨ω,ω,ω,ω,e,by grind,by grind,ω,ω,(dv o k,i+1),?_,bK ω,?_,step _ rfl⟩,λa=>b λh=>a h.2.1⟩,λh1=>b λh=>h1 h.2.2⟩
  ·grind [dv]
  ·unfold dv;rw[Zac ⟨ω,a,h1⟩];rfl
 ·grind [bJ]
def Qid:Ok Nb:=okZ [lg] f154 QpG (Gq sT) QpP
def Qie (h:dF l):dF (vg l)/\(vg l).length<=l.length:=by
 have⟨c,d⟩:=HY h;have⟨a,b⟩:=J6 c;exact⟨a,Zav b d⟩
theorem Ew:∀(n m:Nat) (l:List ah),l.length<=n->l.length<=m->iw n l=iw m l
 | 0,0,l,_,_=>rfl
 | 0,m+1,l,h,_=>by grind [iw]
 | n+1,0,l,_,h=>by grind [iw]
 | n+1,m+1,l,h1,a=>by
  rw[iw,iw];split
  ·exact Ew n m _ ω ω
  ·rfl
theorem Ui (h:(vg l).length<l.length):iw (vg l).length (vg l)=iw l.length l:=by
 obtain⟨k,hk⟩:∃k,l.length=k+1:=⟨l.length-1,ω⟩;grind [iw,Ew]
theorem Zy (h:¬(vg l).length<l.length):iw l.length l=vg l:=by
 cases hl:l.length with
 | zero=>rfl
 | succ k=>rw[iw,Zaa h]
theorem Ey (op:Int) {x:Nat} (a:x<l.length):aF op (l.take (x+1))=aF op (l.take x)++(if (l.getD x bA).op=op then(l.getD x bA).af else[l.getD x bA]):=by
 grind [cg,aF]
theorem QpQ (y:ah) (t:HS.pre y):Ug y:=by
 obtain⟨h1,f⟩:y.af.length<=1000000/\dF (aF 4 y.af):=t;unfold Ug;have s:∀(l:List ah) n,gt (ah.mk 0 [] 0 0 false 0 0 []) l n=l.getD n bA:=λ_ _=>rfl
 simp only[bI,bH,av,a7,bm,s,bO,Zad,aI];refine⟨⟨0,by rfl,rfl,ω,by simp[aF]⟩,λx w=>⟨λe=>?_,λe=>?_⟩⟩
 ·have r:x<y.af.length:=ω;have B:=Ey 4 r;have C:=ku 4 y.af (x+1);have s3:=f.len;grind
 ·have i:x=y.af.length:=ω;subst i;rw[ZaM];have⟨q,A⟩:=HY f;refine⟨f,⟨q.len,q.rt⟩,⟨_,rfl,rfl,f,Zah _,rfl⟩,λl hl=>⟨λc=>?_,λc=>?_⟩⟩
  ·have⟨p,u,g⟩:=hl;have⟨j,z⟩:=Qie p;have⟨o,v⟩:=HY j;have d:(vg l).length<l.length:=ω;exact⟨j,⟨o.len,o.rt⟩,_,rfl,rfl,⟨j,ω,by rw[Ui d,g]⟩,d⟩
  ·have⟨p,u,g⟩:=hl;have d:¬(vg l).length<l.length:=ω;rw[Zy d] at g;unfold HR;rw[<-g]
   match vg l with
   | []=>exact⟨λh=>by simp at h,λ_=>xD _ _⟩
   | [k]=>exact⟨λ_=>⟨by simp,rfl,rfl,rfl,rfl,rfl,rfl,rfl,rfl⟩,λh=>by simp at h⟩
   | a::b::m=>exact⟨λh=>by grind,λ_=>xD _ _⟩
def Qif:Ok HS:=okZ [Na,Nb] f114 QpI ⟨Qic,Qid⟩ QpQ
theorem QpR (y:ah) (v:HU.pre y):Uh y:=by
 obtain⟨⟨h1,p,F,s⟩,t⟩:YS y/\y.op=5:=v;unfold Uh;have u:∀(l:List ah) n,gt (ah.mk 0 [] 0 0 false 0 0 []) l n=l.getD n bA:=λ_ _=>rfl
 have hk:y.af.getD 0 bA=bF y:=rfl;have j:(bF y).af.getD 0 bA=bF (bF y):=rfl;simp only[bI,bH,av,u,hk,j,bO,aI,Zan,Zao,ZaY,ZaZ];have R:¬(bF y).op=1->¬(y.mn=1/\y.mx=1)->¬(y.mx=0/\eZ (bF y)=false)->cQ y=if (y.lz&&decide (y.mn≠y.mx))=false/\y.mx= -1/\y.mn<=1/\(bF y).op=5/\(bF y).lz=false/\(bF y).mx= -1/\(bF y).mn<=1/\(bF (bF y)).op=2 then D3 (bF y) y.mn else ur y:=λa b c=>by
  unfold cQ;have c:(ep (J3 (ur y))/\ep (J3 (bF y))/\(bF (bF y)).op=2)↔((y.lz&&decide (y.mn≠y.mx))=false/\y.mx= -1/\y.mn<=1/\(bF y).op=5/\(bF y).lz=false/\(bF y).mx= -1/\(bF y).mn<=1/\(bF (bF y)).op=2):=by
   have E:ep (J3 (ur y))=(!(y.lz&&decide (y.mn≠y.mx))&&y.mx==-1&&decide (y.mn<=1)):=by
    show(y.op==5&&_&&_&&_)=_
    rw[t];rfl
   grind [ep,J3]
  grind
 have q:(bF y).op=1->cQ y=bF y:=λh=>by grind [cQ]
 have r:¬(bF y).op=1->y.mn=1->y.mx=1->cQ y=bF y:=λh a b=>by grind [cQ]
 have o:¬(bF y).op=1->¬(y.mn=1/\y.mx=1)->y.mx=0->eZ (bF y)=false->cQ y=.mk 1 [] 0 0 false 0 0 []:=λh a b c=>by grind [cQ]
 have M:(bF y).op=5->y.mn<=1->(bF y).mn<=1->iB .i64 (bF y).mn y.mn=(bF y).mn*y.mn:=λa b c=>by
  grind
 refine⟨ω,⟨λe=>?_,λe=>?_⟩,λd=>fields (q d),λd=>⟨λm1=>⟨λm2=>fields (r d m1 m2),λm2=>⟨λi=>⟨p,λg=>fields (o d ω i g),λg=>?_⟩,λi=>?_⟩⟩,λm1=>⟨λi=>⟨p,λg=>fields (o d ω i g),λg=>?_⟩,λi=>?_⟩⟩⟩
 ·grind
 ·simp[e]
 all_goals
  have e:=R d ω (by first | (intro h;omega) | (intro h;rw[g] at h;exact absurd h.2 (by simp)));refine⟨λk5=>⟨by have:=(s k5).2;omega,λk2=>⟨λz=>⟨λk=>⟨λmx=>⟨λf=>⟨λa=>⟨λb=>?_,λb=>?_⟩,λa=>?_⟩,λf=>?_⟩,λmx=>?_⟩,λk=>?_⟩,λz=>?_⟩,λk2=>?_⟩,λk5=>?_⟩
  ·rw[Zac ⟨z,mx,a,k5,k,f,b,k2⟩] at e;rw[e,M k5 a b];exact⟨rfl,rfl,rfl,rfl,rfl,rfl,rfl,rfl⟩
  all_goals
   rw[Zaa (by rintro⟨B,G,C,x,m,A,D,w⟩;first | omega | exact absurd (B.symm.trans z) ZaS | exact absurd (m.symm.trans k) ZaS)] at e;rw[e];exact⟨rfl,rfl,rfl,rfl,rfl,rfl,rfl,rfl⟩
def Qig:Ok HU:=okZ [HJ] f115 QpL Qh8 QpR
mutual
def BS:ah->Bool
 | .mk op _ mn mx _ _ _ ks=>if op=1 then true else if op=3 then pV ks else if op=5 then(if mx=0 then true else decide (mn=mx)&&BU ks) else false
def pV:List ah->Bool
 | []=>true
 | t::l=>BS t&&pV l
def BU:List ah->Bool
 | []=>false
 | t::_=>BS t
end
def jz (t:ah):Bool:=lk (BS t)
def E9 (y:ah):Prop:=dA y/\j3 y
def Ez:br D:=bL 157 ah (λa _=>uq a) E9 (λy=>[.agg (D.bd 15 y)]) λy=>.bool (jz y)
def QpS (y:Ez.Y):cO D:=⟨[],[],[(3442,⟨Nat,[],λx=>[(1,.ptr 0 0),(3,QsE x)],[],λ_=>[tbx y],1,λx=>x<=y.af.length/\pV (y.af.drop x)=pV y.af,λx=>y.af.length-x⟩)],[],1,[]⟩
def QpT (y:Ez.Y):Prop:=vc [Ez.under dc (dc y)] f157 Ez QpS y
structure df where
 ab:List aS
 bS:Bool
def bG (y:df) (i:aS):df×Int:=if 400<=y.ab.length then(⟨y.ab,true⟩,0) else(⟨y.ab++[i],y.bS⟩,y.ab.length)
def kH (y:df) (lz:Bool) (j:Int):df:=if y.bS=true then y else⟨fe y.ab.length lz y.ab j,false⟩
def dK (g:List aS->Int->List aS) (y:df) (a:List Int):df:=if y.bS=true then y else⟨a.foldl g y.ab,false⟩
def nw (f:df->df) (q:Bool):Nat->df->df
 | 0,s=>s
 | n+1,s=>if s.bS\/q=true then s else nw f q n (f s)
def jA (f:df->df):Nat->df->List Int->df×List Int
 | 0,s,j=>(s,j)
 | n+1,s,j=>if s.bS=true then(s,j) else jA f n (f (bG s ⟨2,0,0,[]⟩).1) (j++[(bG s ⟨2,0,0,[]⟩).2])
def Am (f:df->df) (lz:Bool) (s:df):df:=kH (bG (f (bG s ⟨2,0,0,[]⟩).1) ⟨3,(bG s ⟨2,0,0,[]⟩).2,0,[]⟩).1 lz (bG s ⟨2,0,0,[]⟩).2
def xE (f:df->df) (q:Bool) (mn mx:Int) (lz:Bool) (s:df):df:=
 if mx= -1 then Am f lz (nw f q mn.toNat s)
 else dK (fe (jA f (kB mn mx) (nw f q mn.toNat s) []).1.ab.length lz) (jA f (kB mn mx) (nw f q mn.toNat s) []).1 (jA f (kB mn mx) (nw f q mn.toNat s) []).2
def uC (f:df->df) (s:df):df×Int:=(kH (bG (f (bG s ⟨2,0,0,[]⟩).1) ⟨3,0,0,[]⟩).1 false (bG s ⟨2,0,0,[]⟩).2,(bG (f (bG s ⟨2,0,0,[]⟩).1) ⟨3,0,0,[]⟩).2)
mutual
def iE:ah->df->df
 | .mk op r mn mx lz cap _ ks,s=>if s.bS=true then s
  else if op=2 then(bG s ⟨1,0,0,r⟩).1
  else if op=3 then kI ks s
  else if op=4 then dK (kC (fD ks s []).1.ab.length) (fD ks s []).1 (fD ks s []).2
  else if op=5 then xE (λs=>Og ks s) (BU ks) mn mx lz s
  else if op=6 then(bG (Og ks (bG s ⟨4,2*cap,0,[]⟩).1) ⟨4,2*cap+1,0,[]⟩).1
  else if op=7 then(bG s ⟨5,0,0,[]⟩).1
  else if op=8 then(bG s ⟨6,0,0,[]⟩).1 else s
def kI:List ah->df->df
 | [],s=>s
 | t::l,s=>if s.bS=true then s else kI l (iE t s)
def Og:List ah->df->df
 | [],s=>s
 | t::_,s=>iE t s
def fD:List ah->df->List Int->df×List Int
 | [],s,j=>(s,j)
 | t::l,s,j=>if s.bS=true then(s,j) else if l.isEmpty=true then(iE t s,j) else fD l (uC (λs=>iE t s) s).1 (j++[(uC (λs=>iE t s) s).2])
end
def HZ (n:Nat) (y:df):List (Nat×AO D.E):=[(0,.cells [.own n 4 (ag y.ab),.bool y.bS] 174 false),(n,.arr 8 y.ab 149 false)]
def Uj (v:AV D.E) (s:St D.E):C df:=match v with
 | .ptr b _=>az (cN (s.h.get b)) λo=>match o with
  | .cells cs _ _=>match cs with
   | [c,b]=>az (aU D s 8 c) λc=>aL (x_ b) λb _=>.ret ⟨c,b⟩
   | _=>.fail
  | _=>.fail
 | _=>.fail
def yF:br D:=⟨77,df×aS,λa s=>match a with
 | [p,i]=>az (Uj p s) λy=>az (QaR i) λi=>.ret (y,i)
 | _=>.fail,λy=>y.1.ab.length<=400,λy=>[.ptr 0 0,.agg (D.bd 8 y.2)],λy=>HZ 1 y.1,λy=>QsE (bG y.1 y.2).2,λy=>HZ 2 (bG y.1 y.2).1,2,3⟩
def Uk:br D:=⟨158,df×Int×Int×Bool,λa s=>match a with
 | [p,i,o,b]=>az (Uj p s) λy=>aL (cA i) λ_ i=>aL (cA o) λ_ o=>aL (x_ b) λb _=>.ret (y,i,o,b)
 | _=>.fail,λy=>y.1.ab.length<=1000/\0<=y.2.1/\y.2.1<y.1.ab.length,λy=>[.ptr 0 0,QsE y.2.1,QsE y.2.2.1,.bool y.2.2.2],λy=>HZ 1 y.1,λ_=>.tuple [],λy=>HZ 1 ⟨fe y.2.2.1 y.2.2.2 y.1.ab y.2.1,y.1.bS⟩,2,2⟩
def Ul (y:ah):Prop:=let b:=y.af;let u:=ah.mk 0 [] 0 0 false 0 0 [];let q1:=gt u b 0;let d:=ah.mk q1.op q1.r q1.mn q1.mx q1.lz q1.cap q1.nk q1.af;let g:=λp:Prop=>RA0 y (RAL b p);ak (aC y.op 1) (true=jz y/\True) (ak (aC y.op 3) ((∃z:Nat,0=(z:Int)/\g ((Iv (z<=b.length/\pV (List.drop z b)=pV b))))/\(∀x:Nat,let c:=b.length;let f:=ay (x:Int) (ag b);let a:=gt u b (x:Int).toNat;let e:=ah.mk a.op a.r a.mn a.mx a.lz a.cap a.nk a.af;(Iv (x<=c/\pV (List.drop x b)=pV b))->ak f (aH 0 (x:Int)/\f/\Iv (E9 e/\dc e<dc y)/\RA0 a (RAL a.af (ak (!(jz e)) (false=jz y/\True) (∃z:Nat,aw .i64 (x:Int) 1=(z:Int)/\g ((Iv ((z<=c/\pV (List.drop z b)=pV b)/\(c-z)<(c-x)))))))) (true=jz y/\True))) (ak (aC y.op 5) (ak (aC y.mx 0) (true=jz y/\True) (ak (aC y.mn y.mx) (Tt 1 (ay 0 (ag b)/\Iv (E9 d/\dc d<dc y)/\RA0 q1 (RAL q1.af (jz d=jz y/\True)))) (false=jz y/\True))) (false=jz y/\True)))
def Zz:∀y,Ul y=QpT y:=λy=>by kernel_rfl
def Qa0 (y:df×aS):Prop:=let b:=ag y.1.ab;let q1:=ag (bG y.1 y.2).1.ab;let a:=bC y.1.ab [y.2];ak (aH 400 b) (0=(bG y.1 y.2).2/\b=q1/\true=(bG y.1 y.2).1.bS/\y.1.ab=(bG y.1 y.2).1.ab/\True) (bx (ag a) 48/\RAQ b y.2.op y.2.x y.2.y y.2.bg (cF .i64 (ag a) 1=(bG y.1 y.2).2/\ag a=q1/\y.1.bS=(bG y.1 y.2).1.bS/\a=(bG y.1 y.2).1.ab/\True))
def Qa1 (y:df×Int×Int×Bool):Prop:=let a:=ag y.1.ab;let q1:=y.2.1.toNat;let h:=aw .i64 y.2.1 1;let d:=gt (aS.mk 0 0 0 []) y.1.ab q1;let c:=fe y.2.2.1 y.2.2.2 y.1.ab y.2.1;let i:=cC y.1.ab q1 (aS.mk d.op h d.y d.bg);let e:=gt (aS.mk 0 0 0 []) i q1;let f:=cC i q1 (aS.mk e.op e.x y.2.2.1 e.bg);let g:=gt (aS.mk 0 0 0 []) f q1;let j:=cC f q1 (aS.mk g.op y.2.2.1 g.y g.bg);let b:=gt (aS.mk 0 0 0 []) j q1;aH 0 y.2.1/\ay y.2.1 a/\aH 0 y.2.1/\ay y.2.1 a/\RAM a a (ak y.2.2.2 (aH 0 y.2.1/\ay y.2.1 a/\aH 0 y.2.1/\ay y.2.1 a/\aa [a,a] (a=ag c/\aa [y.1.bS] (cC j q1 (aS.mk b.op b.x h b.bg)=c/\True))) (a=ag c/\aa [y.1.bS] (f=c/\True)))
def E9.TK {y:ah} (h:E9 y) {x:Nat} (a:x<y.af.length):E9 (y.af.getD x bA):=⟨(xC h.1 a).1,((iq y).mp h.2).2.2.mem a⟩
def QdB (t:ah):BS t=if t.op=1 then true else if t.op=3 then pV t.af else if t.op=5 then(if t.mx=0 then true else decide (t.mn=t.mx)&&BU t.af) else false:=by cases t;rw[BS];rfl
theorem Km {l:List ah} (h:0<l.length):BU l=BS (l.getD 0 bA):=by
 cases l with
 | nil=>cases h
 | cons t l=>rw[BU];rfl
theorem Qih (y:ah) (b:Ez.pre y):Ul y:=by
 have b:E9 y:=b;have hk:=b.1.few;have i:∀t,jz t=BS t:=λt=>by grind [jz,aI]
 unfold Ul;have o:∀(l:List ah) n,gt (ah.mk 0 [] 0 0 false 0 0 []) l n=l.getD n bA:=λ_ _=>rfl
 simp only[bI,bH,av,o,bO,Zad,Zan,Zao,i];have q:=QdB y;refine⟨λd=>by grind,λd=>⟨λf=>⟨⟨0,rfl,Zaj _,rfl⟩,λx p=>⟨λe=>?_,λe=>?_⟩⟩,λf=>⟨λh=>⟨λm=>?_,λm=>⟨λm2=>?_,λm2=>?_⟩⟩,λh=>?_⟩⟩⟩
 ·rw[Zaa d,Zac f] at q;have c:x<y.af.length:=ω;have k:y.af.drop x=y.af.getD x bA::y.af.drop (x+1):=by simp_all
  have j:=p.2;rw[k,pV] at j;refine⟨ω,e,⟨b.TK c,im c⟩,λg=>?_,λg=>⟨x+1,bK ω,⟨c,?_⟩,ω⟩⟩
  ·grind
  ·grind
 ·grind [pV]
 ·grind
 ·have a:0<y.af.length:=by
   have:=(((iq y).mp b.2).1.rep h).1;grind
  rw[q,Zaa d,Zaa f,Zac h,Zaa m,Km a];exact⟨ω,⟨b.TK a,im a⟩,by simp[m2]⟩
 ·grind
 ·grind
def Qii:Ok Ez:=Ob dc Zz trivial Qih
theorem Kn:Ok yF:=okZ (V:=Qa0) [] f77 (λ_=>ew ()) trivial λy a=>by
 grind [Qa0,bG]
def Qij:Ok Uk:=okZ (V:=Qa1) [] f158 (λ_=>ew ()) trivial λy f=>by
 obtain⟨m,a,o,lz⟩:=y;obtain⟨h1,b,c⟩:m.ab.length<=1000/\0<=a/\a<m.ab.length:=f;have hi:a.toNat<m.ab.length:=ω;unfold Qa1;simp only[bH,km,gk,av,dX,BL hi,tc];have e:aw .i64 a 1=a+1:=ba ω ω;have d:gt (aS.mk 0 0 0 []) m.ab a.toNat=m.ab.getD a.toNat in0:=rfl;refine⟨b,c,b,c,λh=>⟨b,c,b,c,?_⟩,λh=>?_⟩
 ·simp only[e,d,h,fe,Zbv];rfl
 ·simp only[e,d,h,fe,ZaE,Za0];rfl
structure Gw (s t:df):Prop where
 len:s.ab.length<=t.ab.length
 max:s.ab.length<=400->t.ab.length<=400
 bS:s.bS=true->t.bS=true
variable {Z:df->df} {s Y:df}
theorem Gw.refl (s:df):Gw s s:=⟨Zah _,id,id⟩
def Gw.trans {u:df} (h:Gw s Y) (k:Gw Y u):Gw s u:=⟨Zav h.len k.len,λe=>k.max (h.max e),λe=>k.bS (h.bS e)⟩
theorem Gw.low (h:Gw s Y) (e:Y.bS=false):s.bS=false:=by
 cases a:s.bS with
 | false=>rfl
 | true=>rw[h.bS a] at e;cases e
theorem eB (s:df) (i:aS):Gw s (bG s i).1/\((bG s i).1.bS=false->s.ab.length<400/\(bG s i).2=s.ab.length/\(bG s i).1=⟨s.ab++[i],false⟩):=by
 unfold bG;split
 ·exact⟨⟨Zah _,id,λ_=>rfl⟩,λh=>by cases h⟩
 ·refine⟨⟨by simp,λh=>by grind,id⟩,λh=>⟨ω,rfl,?_⟩⟩;grind
theorem BV (s:df) (lz:Bool) (j:Int):Gw s (kH s lz j)/\(kH s lz j).ab.length=s.ab.length/\(kH s lz j).bS=s.bS:=by
 unfold kH;split
 ·grind [Gw.refl]
 ·rename_i h
  have h:s.bS=false:=by grind
  exact⟨⟨by grind [dX],by grind [dX],λe=>by grind⟩,dX _ _ _ _,h.symm⟩
theorem fv (g:List aS->Int->List aS) (b:∀l j,(g l j).length=l.length) (s:df) (a:List Int):Gw s (dK g s a)/\(dK g s a).ab.length=s.ab.length/\(dK g s a).bS=s.bS:=by
 have:∀(a:List Int) (l:List aS),(a.foldl g l).length=l.length:=λa=>by
  induction a with
  | nil=>intro l;rfl
  | cons j a c=>intro l;rw[Zb2,c,b]
 unfold dK;split
 ·grind [Gw.refl]
 ·rename_i h
  have h:s.bS=false:=by grind
  exact⟨⟨by grind,by grind,λe=>by grind⟩,this _ _,h.symm⟩
theorem vj (q:Bool) (a:∀s,Gw s (Z s)):∀(n:Nat) (s:df),Gw s (nw Z q n s)
 | 0,s=>Gw.refl s
 | n+1,s=>by
  rw[nw];split
  ·exact Gw.refl s
  ·exact(a s).trans (vj q a n _)
def InJ (s:df) (j:List Int):Prop:=s.bS=false->∀v∈j,0<=v/\v<s.ab.length
theorem InJ.more {j:List Int} (h:InJ s j) (g:Gw s Y) {v:Int} (b:Y.bS=false->0<=v/\v<Y.ab.length):InJ Y (j++[v]):=λe x a=>by
 rcases List.mem_append.mp a with h1 | h1
 ·have:=h (g.low e) x h1;have:=g.len;omega
 ·grind
theorem tg (a:∀s,Gw s (Z s)):∀(n:Nat) (s:df) (j:List Int),InJ s j->Gw s (jA Z n s j).1/\InJ (jA Z n s j).1 (jA Z n s j).2/\(jA Z n s j).2.length<=j.length+n
 | 0,s,j,h=>⟨Gw.refl s,h,Zah _⟩
 | n+1,s,j,h=>by
  rw[jA];split
  ·grind [Gw.refl]
  ·obtain⟨p1,p2⟩:=eB s ⟨2,0,0,[]⟩;have g1:=p1.trans (a (bG s ⟨2,0,0,[]⟩).1);obtain⟨b,c,i⟩:=tg a n (Z (bG s ⟨2,0,0,[]⟩).1) (j++[(bG s ⟨2,0,0,[]⟩).2]) (h.more g1 λe=>by
    obtain⟨q1,d,k⟩:=p2 ((a _).low e);have:=(a (bG s ⟨2,0,0,[]⟩).1).len;have g:(bG s ⟨2,0,0,[]⟩).1.ab.length=s.ab.length+1:=by grind
    rw[d];omega)
   exact⟨g1.trans b,c,by grind⟩
def Ko (a:∀s,Gw s (Z s)) (lz:Bool) (s:df):Gw s (Am Z lz s):=by
 unfold Am;exact(((eB s _).1.trans (a _)).trans (eB _ _).1).trans (BV _ _ _).1
def ZC (a:∀s,Gw s (Z s)) (q:Bool) (mn mx:Int) (lz:Bool) (s:df):Gw s (xE Z q mn mx lz s):=by
 unfold xE;have h1:=vj q a mn.toNat s;split
 ·exact h1.trans (Ko a lz _)
 ·have b:=tg a (kB mn mx) (nw Z q mn.toNat s) [] (λ_ v c=>nomatch c);exact(h1.trans b.1).trans (fv _ (λl j=>dX _ _ _ _) _ _).1
theorem Kp (a:∀s,Gw s (Z s)) (s:df):Gw s (uC Z s).1/\((uC Z s).1.bS=false->0<=(uC Z s).2/\(uC Z s).2<(uC Z s).1.ab.length):=by
 unfold uC;obtain⟨p1,p2⟩:=eB s ⟨2,0,0,[]⟩;obtain⟨b,c⟩:=eB (Z (bG s ⟨2,0,0,[]⟩).1) ⟨3,0,0,[]⟩;obtain⟨k1,k2,k3⟩:=BV (bG (Z (bG s ⟨2,0,0,[]⟩).1) ⟨3,0,0,[]⟩).1 false (bG s ⟨2,0,0,[]⟩).2;refine⟨((p1.trans (a _)).trans b).trans k1,λe=>?_⟩;grind
def r8 (t:ah) (s:df):iE t s=if s.bS=true then s
  else if t.op=2 then(bG s ⟨1,0,0,t.r⟩).1
  else if t.op=3 then kI t.af s
  else if t.op=4 then dK (kC (fD t.af s []).1.ab.length) (fD t.af s []).1 (fD t.af s []).2
  else if t.op=5 then xE (λs=>Og t.af s) (BU t.af) t.mn t.mx t.lz s
  else if t.op=6 then(bG (Og t.af (bG s ⟨4,2*t.cap,0,[]⟩).1) ⟨4,2*t.cap+1,0,[]⟩).1
  else if t.op=7 then(bG s ⟨5,0,0,[]⟩).1
  else if t.op=8 then(bG s ⟨6,0,0,[]⟩).1 else s:=by cases t;rw[iE];rfl
mutual
theorem lq:∀(t:ah) (s:df),Gw s (iE t s)
 | .mk op r mn mx lz cap nk ks,s=>by
  have hL:=BW ks
  have hH:=Qik ks
  have hA:=xF ks s [] (λ_ v hv=>nomatch hv)
  rw[iE]
  split
  ·exact Gw.refl s
  ·split
   ·exact(eB _ _).1
   ·split
    ·exact hL s
    ·split
     ·exact hA.1.trans (fv _ (λl j=>iu _ _ _) _ _).1
     ·split
      ·exact ZC hH _ _ _ _ s
      ·split
       ·exact((eB _ _).1.trans (hH _)).trans (eB _ _).1
       ·split
        ·exact(eB _ _).1
        ·split
         ·exact(eB _ _).1
         ·exact Gw.refl s
theorem BW:∀(l:List ah) (s:df),Gw s (kI l s)
 | [],s=>by rw[kI];exact Gw.refl s
 | t::l,s=>by
  rw[kI]
  split
  ·exact Gw.refl s
  ·exact(lq t s).trans (BW l _)
theorem Qik:∀(l:List ah) (s:df),Gw s (Og l s)
 | [],s=>by rw[Og];exact Gw.refl s
 | t::_,s=>by rw[Og];exact lq t s
theorem xF:∀(l:List ah) (s:df) (j:List Int),InJ s j->Gw s (fD l s j).1/\InJ (fD l s j).1 (fD l s j).2/\(fD l s j).2.length<=j.length+l.length
 | [],s,j,h=>by rw[fD];exact⟨Gw.refl s,h,Zah _⟩
 | t::l,s,j,h=>by
  have hf:=lq t
  rw[fD]
  split
  ·exact⟨Gw.refl s,h,by simp only;omega⟩
  ·split
   ·exact⟨hf s,λe v hv=>by have:=h ((hf s).low e) v hv;have:=(hf s).len;simp only;omega,by simp only;omega⟩
   ·obtain⟨u1,u2⟩:=Kp hf s
    obtain⟨a1,a2,a3⟩:=xF l (uC (λs=>iE t s) s).1 (j++[(uC (λs=>iE t s) s).2]) (h.more u1 u2)
    exact⟨u1.trans a1,a2,by simp only[Zab,Zae,Zak] at a3 ⊢;omega⟩
end
def QdD (f:FuncId) (Y:Type) (c:Y->df) (ya:List (AV D.E)->St D.E->C Y) (pre:Y->Prop) (args:Y->List (AV D.E)) (a:Y->df):br D:=⟨f,Y,ya,pre,λy=>.ptr 0 0::args y,λy=>HZ 1 (c y),λ_=>.tuple [],λy=>HZ 2 (a y),2,3⟩
def ee (y:df×ah):df:=lk (iE y.2 y.1)
def BX (y:df×ah):Prop:=y.1.ab.length<=400/\E9 y.2
def H_:br D:=QdD 78 (df×ah) (·.1) (λa s=>match a with
 | [p,t]=>az (Uj p s) λc=>az (Hh t) λt=>.ret (c,t)
 | _=>.fail) BX (λy=>[.agg (D.bd 15 y.2)]) ee
def jS (y:df×List ah):df×List Int:=lk (fD y.2 y.1 [])
def ny (y:df×List ah) (j:Nat):df:=lk (dK (kC (jS y).1.ab.length) (jS y).1 ((jS y).2.take j))
def xG (y:df×List ah):df:=lk (ny y (jS y).2.length)
def Qil (y:df×List ah):Prop:=y.1.ab.length<=400/\y.1.bS=false/\y.2.length<=1000000/\∀t∈y.2,E9 t
def Nf:br D:=QdD 116 (df×List ah) (·.1) (λa s=>match a with
 | [p,l]=>az (Uj p s) λc=>az (aU D s 15 l) λl=>.ret (c,(l:List ah))
 | _=>.fail) Qil (λy=>[.list 15 y.2]) xG
structure Kq where
 c:df
 n:Nd
 k:ah
def jT (y:Kq):df:=lk (nw (iE y.k) (jz y.k) y.n.mn.toNat y.c)
def qL (y:Kq):Nat:=lk (kB y.n.mn y.n.mx)
def g_ (y:Kq):df×List Int:=lk (jA (iE y.k) (qL y) (jT y) [])
def nW (y:Kq) (j:Nat):df:=lk (dK (fe (g_ y).1.ab.length y.n.lz) (g_ y).1 ((g_ y).2.take j))
def o4 (y:Kq):df:=lk (xE (iE y.k) (jz y.k) y.n.mn y.n.mx y.n.lz y.c)
def Qim (y:Kq):Prop:=y.c.ab.length<=400/\y.c.bS=false/\E9 y.k/\0<=y.n.mn/\y.n.mn<=30/\(y.n.mx= -1\/(y.n.mn<=y.n.mx/\y.n.mx<=30))
def Ng:br D:=QdD 117 Kq (·.c) (λa s=>match a with
 | [p,n,t]=>az (Uj p s) λc=>az (QcY n) λn=>az (Hh t) λt=>.ret ⟨c,n,t⟩
 | _=>.fail) Qim (λy=>[.agg (D.bd 7 y.n),.agg (D.bd 15 y.k)]) o4
def fnO (n:Nat):tI:=[H_.under (λy=>2*dc y.2) n,Nf.under (λy=>2*tS y.2+1) n,Ng.under (λy=>2*dc y.k+1) n]
def Qin (y:H_.Y):cO D:=⟨[],[],[(1978,⟨df×Nat,[0],λx=>[(3,.ptr 2 0),(4,QsE x.2)],[],λx=>HZ 3 x.1++[uB 2 y.2],4,λx=>x.2<=y.2.af.length/\Gw y.1 x.1/\kI (y.2.af.drop x.2) x.1=kI y.2.af y.1,λx=>y.2.af.length-x.2⟩)],[],1,[]⟩
def QpX (y:H_.Y):Prop:=vc (fnO (2*dc y.2)++[yF]) f78 H_ Qin y
structure Um where
 s:df
 j:List Int
 i:Nat
def Un (y:df×List ah) (x:Um):Prop:=x.i<=y.2.length/\Gw y.1 x.s/\x.j.length<=x.i/\fD (y.2.drop x.i) x.s x.j=fD y.2 y.1 []
def Qio (y:Nf.Y):cO D:=⟨[],[],[
 (26,⟨Um,[0,1],λx=>[(4,.grow 5 x.j 3),(5,QsE x.i)],[],λx=>HZ 2 x.s++[ux 3],4,Un y,λx=>y.2.length-x.i⟩),
 (30,⟨Nat,[0],λj=>[(4,.grow 5 (jS y).2 3),(7,QsE j)],[],λj=>HZ 2 (ny y j)++[ux 3],4,λj=>j<=(jS y).2.length,λj=>(jS y).2.length-j⟩)],
 [(3,⟨Unit,[0],λ_=>[(4,.grow 5 (jS y).2 3)],[],λ_=>HZ 2 (jS y).1++[ux 3],4,λ_=>True,λ_=>0⟩)],1,[]⟩
def QpY (y:Nf.Y):Prop:=vc (fnO (2*tS y.2+1)++[yF]) f116 Nf Qio y
def crN (y:Kq):Nat×AO D.E:=(2,.cells (D.bd 7 y.n) 152 false)
def crB (y:Kq):List (Nat×AO D.E):=[crN y,uB 3 y.k]
def crI (y:Kq) (x:df×Nat):Prop:=x.2<=y.n.mn.toNat/\Gw y.c x.1/\nw (iE y.k) (jz y.k) (y.n.mn.toNat-x.2) x.1=jT y
def crJ (y:Kq) (x:Um):Prop:=x.i<=qL y/\Gw (jT y) x.s/\x.j.length<=x.i/\jA (iE y.k) (qL y-x.i) x.s x.j=g_ y
def Qiq (y:Ng.Y):cO D:=⟨[],[],[
  (58,⟨df×Nat,[0,6],λx=>[(4,.ptr 2 0),(5,.ptr 3 0),(7,QsE x.2)],[],λx=>HZ 4 x.1++crB y,5,crI y,λx=>y.n.mn.toNat-x.2⟩),
  (506,⟨Um,[0],λx=>[(4,.ptr 2 0),(5,.ptr 3 0),(9,.grow 5 x.j 5),(10,QsE (y.n.mn+(x.i:Nat)))],[],λx=>HZ 4 x.s++crB y++[ux 5],6,crJ y,λx=>qL y-x.i⟩),
  (510,⟨Nat,[0],λj=>[(4,.ptr 2 0),(9,.grow 5 (g_ y).2 5),(11,QsE j)],[],λj=>HZ 4 (nW y j)++[crN y,ux 5],6,λj=>j<=(g_ y).2.length,λj=>(g_ y).2.length-j⟩)],
  [(7,⟨Unit,[0],λ_=>[(4,.ptr 2 0),(5,.ptr 3 0)],[],λ_=>HZ 4 (jT y)++crB y,5,λ_=>True,λ_=>0⟩),
   (63,⟨Unit,[0],λ_=>[(4,.ptr 2 0),(9,.grow 5 (g_ y).2 5)],[],λ_=>HZ 4 (g_ y).1++[crN y,ux 5],6,λ_=>True,λ_=>0⟩)],1,[]⟩
def Qp1 (y:Ng.Y):Prop:=vc (fnO (2*dc y.k+1)++[yF,Uk,Ez]) f117 Ng Qiq y
end
end sx
end Go.Proofs.YtklaonhcplaofaaGreat
