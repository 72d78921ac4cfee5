/- StreamWell: a part of the proof. -/
import Derived.Test.YtiiiphndmbabcaaGreatC7
import Derived.Deep.RegionHeld3
import Derived.Maps.OwnOps
import Derived.Maps.Views
import Derived.Maps.OwnSet
set_option linter.all false
namespace Go.Proofs.YtiiiphndmbabcaaGreat
open Go.Proofs.Tryz
set_option maxRecDepth 100000
set_option maxHeartbeats 4000000
namespace sx
noncomputable section
open Go Go.RowKit cls syn
variable {s:dk} {l:List ai} {a:List Int} {Z:dk->dk}
theorem ZZ (h:s.bV):ln l s=s:=by
 cases l with
 | nil=>rw[ln]
 | cons t l=>rw[ln,Zac h]
theorem co3 {b:dk} (h:s=b):(s.ae.length:Int)=(b.ae.length:Int)/\s.bV=b.bV/\s.ae=b.ae:=by grind
theorem KS (h:0<l.length) (s:dk):Oe l s=i_ (l.getD 0 bD) s:=by
 cases l with
 | nil=>cases h
 | cons t l=>rw[Oe];rfl
theorem Qri (y:dk×ai) (I:Im.pre y):UG y:=by
 have⟨s,t⟩:=y;obtain⟨h1,c⟩:s.ae.length<=400/\Fc t:=I;have hk:=c.1.few;have wf:=(iP t).mp c.2;have C:∀s t,eo (s,t)=i_ t s:=λs t=>by grind [eo,aJ]
 have A:x5 (s,t.af)=dR (lb (fU t.af s []).1.ae.length) (fU t.af s []).1 (fU t.af s []).2:=by
  grind [x5,nX,aJ,ko]
 have B:∀n k,px ⟨s,n,k⟩=x3 (i_ k) (jX k) n.mn n.mx n.lz s:=λn k=>by grind [px,aJ]
 have E:=sw t s;unfold UG;have G:∀(l:List ai) n,gt (ai.mk 0 [] 0 0 false 0 0 []) l n=l.getD n bD:=λ_ _=>rfl
 simp only[bN,bh,aw,G,bS,Zad,C,Zan,Zao];have TE:∀x,x<t.af.length->2*dg (t.af.getD x bD)<2*dg t:=λx h=>by have:=iO h;omega
 refine⟨λb=>by grind,λb=>?_⟩;rw[Zaa (by grind)] at E;refine⟨λo=>⟨h1,by grind⟩,λo=>?_⟩;rw[Zaa o] at E;refine⟨λr=>?_,λr=>?_⟩
 ·refine⟨⟨(s,0),rfl,rfl,rfl,rfl,Zaj _,Gw.refl s,rfl⟩,λx h=>?_⟩;have⟨u,i⟩:=x;have⟨i1,i2,i3⟩:=h;have bV:u.bV->(u.ae.length:Int)=((i_ t s).ae.length:Int)/\u.bV=(i_ t s).bV/\u.ae=(i_ t s).ae:=λJ=>by
   grind [ZZ]
  refine⟨λe=>⟨λv=>?_,λv=>bV v⟩,λe=>?_⟩
  ·have f:i<t.af.length:=ω;have D:t.af.drop i=t.af.getD i bD::t.af.drop (i+1):=by simp_all
   rw[D,ln,Zaa (by grind)] at i3;exact⟨ω,e,⟨⟨i2.max h1,c.TE f⟩,TE i f⟩,(i_ (t.af.getD i bD) u,i+1),bL ω,rfl,rfl,rfl,⟨f,i2.trans (lZ _ _),i3⟩,show t.af.length-(i+1)<t.af.length-i by omega⟩
  ·grind [ln]
 ·rw[Zaa r] at E;refine⟨λj=>?_,λj=>?_⟩
  ·rw[Zac j] at E;rw[A,<-E];refine⟨⟨⟨h1,b,hk,λk g=>?_⟩,by grind [xI]⟩,rfl,rfl,rfl⟩;obtain⟨i,hi,rfl⟩:=Za3 g;have:=c.TE hi;grind
  ·rw[Zaa j] at E;refine⟨λd=>?_,λd=>?_⟩
   ·rw[Zac d] at E;have⟨w,p,q,w4⟩:=wf.1.rep d;have a:0<t.af.length:=by grind
    have H:jX (t.af.getD 0 bD)=Cd t.af:=by grind [jX,aJ,KM]
    have F:(λs=>Oe t.af s)=i_ (t.af.getD 0 bD):=funext λs=>KS a s
    rw[F] at E;rw[B,H,<-E];exact⟨ω,⟨⟨h1,b,c.TE a,p,q,w4⟩,by grind⟩,rfl,rfl,rfl⟩
   ·rw[Zaa d] at E;refine⟨λm=>?_,λm=>?_⟩
    ·rw[Zac m] at E;have⟨w,p,q⟩:=wf.1.uE m;simp only at w p q;have a:0<t.af.length:=ω;rw[KS a] at E;have e8:iY .i64 2 t.cap=2*t.cap:=BE ω ω;have z:aD .i64 (2*t.cap) 1=2*t.cap+1:=bG ω ω;rw[e8,z,<-E];have p1:=(eQ s ⟨4,2*t.cap,0,[]⟩).1;exact⟨h1,ω,⟨⟨p1.max h1,c.TE a⟩,TE 0 a⟩,(lZ _ _).max (p1.max h1),rfl,rfl,rfl⟩
    ·grind
theorem x6 {g:List aV->Int->List aV} {k:Nat} (hk:k<a.length) (b:(dR g s (a.take k)).bV=false) (c:∀l j,(g l j).length=l.length):g (dR g s (a.take k)).ae (a.getD k 0)=(dR g s (a.take (k+1))).ae/\s.bV=false/\(dR g s (a.take (k+1))).bV=false:=by
 grind [dR,cm]
theorem Qrj (y:dk×List ai) (I:Nv.pre y):UH y:=by
 have⟨s,l⟩:=y;obtain⟨h1,L,M,D⟩:s.ae.length<=400/\s.bV=false/\l.length<=1000000/\∀t∈l,Fc t:=I;have w:∀s t,eo (s,t)=i_ t s:=λs t=>by grind [eo,aJ]
 have A:ko (s,l)=fU l s []:=by grind [ko,aJ]
 have z:∀j,nX (s,l) j=dR (lb (ko (s,l)).1.ae.length) (ko (s,l)).1 ((ko (s,l)).2.take j):=λj=>by grind [nX,aJ]
 have B:x5 (s,l)=nX (s,l) (ko (s,l)).2.length:=by grind [x5,aJ]
 have⟨K,a2,a3⟩:=x4 l s [] (λ_ v c=>nomatch c);simp only[Zak,Za6] at a3;unfold UH;have H:∀(l:List ai) n,gt (ai.mk 0 [] 0 0 false 0 0 []) l n=l.getD n bD:=λ_ _=>rfl
 have g:∀(l:List Int) n,gt 0 l n=l.getD n 0:=λ_ _=>rfl
 simp only[bN,bh,aw,a8,br,H,g,bS,Zad,w,B,z,A,Zan,Zao,ZaY,ZaZ];have hw:∀x,x<l.length->Fc (l.getD x bD):=λx d=>D _ (by grind)
 have dd:∀x,x<l.length->2*dg (l.getD x bD)<2*uh l+1:=λx d=>by have:=BU d;omega
 refine⟨⟨⟨⟨s,[],0⟩,rfl,rfl,rfl,rfl,rfl,Zaj _,Gw.refl s,Zah _,rfl⟩,λx d=>?_⟩,⟨0,rfl,?_,?_,?_,Zaj _⟩,λj N=>?_⟩
 ·have⟨u,j,i⟩:=x;have⟨i1,i2,i3,i4⟩:=d;simp only at i1 i2 i3 i4 ⊢;have bV:u.bV->j=(fU l s []).2/\(u.ae.length:Int)=((fU l s []).1.ae.length:Int)/\u.bV=(fU l s []).1.bV/\u.ae=(fU l s []).1.ae:=λE=>by
   have:fU (l.drop i) u j=(u,j):=by
    cases l.drop i with
    | nil=>rw[fU]
    | cons t m=>rw[fU,Zac E]
   grind
  refine⟨λe=>⟨λr=>?_,λr=>bV r⟩,λe=>?_⟩
  ·have a:i<l.length:=ω;have G:l.drop i=l.getD i bD::l.drop (i+1):=by simp_all
   rw[G,fU,Zaa (by grind)] at i4;have k:=i2.max h1;refine⟨λel=>?_,λel=>?_⟩
   ·rw[zZ ω ω] at el;rw[Zac (by grind)] at i4;rw[<-i4];exact⟨ω,e,⟨⟨k,hw i a⟩,dd i a⟩,rfl,rfl,rfl,rfl⟩
   ·have ne:¬(l.drop (i+1)).isEmpty:=by
     grind [List.drop_eq_nil_iff]
    rw[Zaa ne] at i4;have⟨p1,p2⟩:=eQ u ⟨2,0,0,[]⟩;have p:=lZ (l.getD i bD) (bI u ⟨2,0,0,[]⟩).1;have⟨q1,O⟩:=eQ (i_ (l.getD i bD) (bI u ⟨2,0,0,[]⟩).1) ⟨3,0,0,[]⟩;have m1:=p1.max k;have m2:=p.max m1;have b:=(KQ (lZ (l.getD i bD)) u).1;unfold uT at i4 b;refine⟨k,ω,e,⟨⟨m1,hw i a⟩,dd i a⟩,m2,by grind,λq=>?_,λq=>?_⟩
    ·have⟨P,J,Q⟩:=p2 (p.low (q1.low q));have hl:(u.ae.length:Int)<((bI (i_ (l.getD i bD) (bI u ⟨2,0,0,[]⟩).1) ⟨3,0,0,[]⟩).1.ae.length:Int):=by
      have:=p.len;grind
     have f:ll (bI (i_ (l.getD i bD) (bI u ⟨2,0,0,[]⟩).1) ⟨3,0,0,[]⟩).1 false (bI u ⟨2,0,0,[]⟩).2=⟨fw (bI (i_ (l.getD i bD) (bI u ⟨2,0,0,[]⟩).1) ⟨3,0,0,[]⟩).1.ae.length false (bI (i_ (l.getD i bD) (bI u ⟨2,0,0,[]⟩).1) ⟨3,0,0,[]⟩).1.ae (bI u ⟨2,0,0,[]⟩).2,false⟩:=by grind [ll]
     rw[f] at i4 b;rw[J] at i4 b ⊢;generalize (bI (i_ (l.getD i bD) (bI u ⟨2,0,0,[]⟩).1) ⟨3,0,0,[]⟩)=Z at*
     have hi:u.ae.length<Z.1.ae.length:=ω;have C:aD .i64 (u.ae.length:Int) 1=(u.ae.length:Int)+1:=bG ω ω;simp only[Zad,C];refine⟨ω,hl,ω,hl,⟨⟨fw Z.1.ae.length false Z.1.ae u.ae.length,false⟩,j++[Z.2],i+1⟩,rfl,bL ω,by rw[ee],q,?_,⟨a,i2.trans b,by grind,i4⟩,show l.length-(i+1)<l.length-i by omega⟩;rw[B4 hi,tq];rfl
    ·have f:ll (bI (i_ (l.getD i bD) (bI u ⟨2,0,0,[]⟩).1) ⟨3,0,0,[]⟩).1 false (bI u ⟨2,0,0,[]⟩).2=(bI (i_ (l.getD i bD) (bI u ⟨2,0,0,[]⟩).1) ⟨3,0,0,[]⟩).1:=by grind [ll]
     rw[f] at i4 b;exact⟨⟨_,_,i+1⟩,rfl,bL ω,rfl,rfl,rfl,⟨a,i2.trans b,by grind,i4⟩,show l.length-(i+1)<l.length-i by omega⟩
  ·grind [fU]
 ·grind [fO,iR]
 ·grind [fO,iR]
 ·grind [dR]
 ·generalize fU l s []=R at*
  have F:=fO (lb (R.1.ae.length:Nat)) (λl j=>iR _ _ _) R.1;have done:¬j<R.2.length\/(dR (lb (R.1.ae.length:Nat)) R.1 (R.2.take j)).bV->dR (lb (R.1.ae.length:Nat)) R.1 (R.2.take j)=dR (lb (R.1.ae.length:Nat)) R.1 (R.2.take R.2.length):=λh=>by
   grind [dR]
  refine⟨λe=>⟨λo=>?_,λo=>co3 (done (.inr o))⟩,λe=>co3 (done (.inl ω))⟩;have a:j<R.2.length:=ω;have⟨g1,g2,g3⟩:=x6 a o (λl j=>iR _ _ _);have c:=a2 g2 (R.2.getD j 0) (by grind);rw[(F _).2.1];exact⟨ω,e,c.1,c.2,j+1,bL ω,by grind,by grind,g1,ω,ω⟩
theorem AE {q:Bool} (h:s.bV\/q):∀n,nW Z q n s=s
 | 0=>rfl
 | n+1=>by grind [nW]
theorem Ny (h:s.bV):∀n,jY Z n s a=(s,a)
 | 0=>rfl
 | n+1=>by grind [jY]
theorem Qrk (y:KR) (L:Nw.pre y):UI y:=by
 have⟨c,x,k⟩:=y;obtain⟨h1,Q,g,S,T,U⟩:c.ae.length<=400/\c.bV=false/\Fc k/\0<=x.mn/\x.mn<=30/\(x.mx= -1\/(x.mn<=x.mx/\x.mx<=30)):=L;have I:∀s,eo (s,k)=i_ k s:=λs=>by grind [eo,aJ]
 have r:kq ⟨c,x,k⟩=nW (i_ k) (jX k) x.mn.toNat c:=by grind [kq,aJ]
 have O:re ⟨c,x,k⟩=la x.mn x.mx:=by grind [re,aJ]
 have t:iy ⟨c,x,k⟩=jY (i_ k) (re ⟨c,x,k⟩) (kq ⟨c,x,k⟩) []:=by grind [iy,aJ]
 have J:∀j,oA ⟨c,x,k⟩ j=dR (fw (iy ⟨c,x,k⟩).1.ae.length x.lz) (iy ⟨c,x,k⟩).1 ((iy ⟨c,x,k⟩).2.take j):=λj=>by unfold oA;rw[aJ]
 have P:px ⟨c,x,k⟩=x3 (i_ k) (jX k) x.mn x.mx x.lz c:=by grind [px,aJ]
 have w:=vM (jX k) (lZ k) x.mn.toNat c;have⟨C,D,N⟩:=tu (lZ k) (re ⟨c,x,k⟩) (kq ⟨c,x,k⟩) [] (λ_ v B=>nomatch B);rw[<-r] at w;rw[<-t] at C D N;have m:=w.max h1;unfold UI;have o:∀(l:List Int) n,gt 0 l n=l.getD n 0:=λ_ _=>rfl
 simp only[bN,bh,aw,a8,br,o,bS,Zad,I,J,Zan,Zao,ZaY,ZaZ];have dd:2*dg k<2*dg k+1:=ω;refine⟨g,⟨⟨(c,0),rfl,rfl,rfl,rfl,Zaj _,Gw.refl c,r.symm⟩,λz hz=>?_⟩,λem=>?_,λem=>?_⟩
 ·have⟨u,i⟩:=z;have⟨i1,i2,i3⟩:=hz;have stop:u.bV\/jX k->(u.ae.length:Int)=((kq ⟨c,x,k⟩).ae.length:Int)/\u.bV=(kq ⟨c,x,k⟩).bV/\u.ae=(kq ⟨c,x,k⟩).ae:=λh=>by
   grind [AE]
  refine⟨λe=>⟨λf=>⟨λq=>?_,λq=>stop (.inr q)⟩,λf=>stop (.inl f)⟩,λe=>?_⟩
  ·rw[show x.mn.toNat-i=(x.mn.toNat-(i+1))+1 by omega,nW,Zaa (by grind)] at i3;exact⟨⟨⟨i2.max h1,g⟩,dd⟩,(i_ k u,i+1),bL ω,rfl,rfl,rfl,⟨show i+1<=x.mn.toNat by omega,i2.trans (lZ _ _),i3⟩,show x.mn.toNat-(i+1)<x.mn.toNat-i by omega⟩
  ·rw[show x.mn.toNat-i=0 by omega,nW] at i3;exact co3 i3
 ·have E:px ⟨c,x,k⟩=AD (i_ k) x.lz (kq ⟨c,x,k⟩):=by grind [x3]
  unfold AD at E;generalize kq ⟨c,x,k⟩=A at*
  have⟨p1,p2⟩:=eQ A ⟨2,0,0,[]⟩;have d:=lZ k (bI A ⟨2,0,0,[]⟩).1;have⟨q1,Y⟩:=eQ (i_ k (bI A ⟨2,0,0,[]⟩).1) ⟨3,(bI A ⟨2,0,0,[]⟩).2,0,[]⟩;have m1:=p1.max m;have m2:=d.max m1;refine⟨m,⟨⟨m1,g⟩,dd⟩,m2,λG=>?_,λG=>?_⟩
  ·have⟨Z,r2,r3⟩:=p2 (d.low (q1.low G));have:=d.len;grind [ll]
  ·grind [ll]
 ·have E:px ⟨c,x,k⟩=dR (fw (iy ⟨c,x,k⟩).1.ae.length x.lz) (iy ⟨c,x,k⟩).1 (iy ⟨c,x,k⟩).2:=by grind [x3]
  have V:re ⟨c,x,k⟩<=30/\x.mn+(re ⟨c,x,k⟩:Nat)=x.mx:=by grind [la]
  have K:∀z,crJ ⟨c,x,k⟩ z↔(z.i<=re ⟨c,x,k⟩/\Gw (kq ⟨c,x,k⟩) z.s/\z.j.length<=z.i/\jY (i_ k) (re ⟨c,x,k⟩ -z.i) z.s z.j=iy ⟨c,x,k⟩):=λz=>ZbW
  simp only[K];rw[E];generalize re ⟨c,x,k⟩=M at*
  generalize kq ⟨c,x,k⟩=A at*
  refine⟨⟨⟨⟨A,[],0⟩,rfl,by simp,rfl,rfl,rfl,Zaj _,Gw.refl A,Zah _,t.symm⟩,λz hz=>?_⟩,⟨0,rfl,?_,?_,?_,Zaj _⟩,λj W=>?_⟩
  ·have⟨u,j,i⟩:=z;have⟨i1,i2,i3,i4⟩:=hz;simp only at i1 i2 i3 i4 ⊢;have stop:∀n,jY (i_ k) n u j=(u,j)->jY (i_ k) n u j=iy ⟨c,x,k⟩->j=(iy ⟨c,x,k⟩).2/\(u.ae.length:Int)=((iy ⟨c,x,k⟩).1.ae.length:Int)/\u.bV=(iy ⟨c,x,k⟩).1.bV/\u.ae=(iy ⟨c,x,k⟩).1.ae:=λn a b=>by
    grind
   refine⟨λe=>⟨λf=>?_,λf=>stop _ (Ny f _) i4⟩,λe=>?_⟩
   ·rw[show M-i=(M-(i+1))+1 by omega,jY,Zaa (by grind)] at i4;have p1:=(eQ u ⟨2,0,0,[]⟩).1;have d:=lZ k (bI u ⟨2,0,0,[]⟩).1;have mu:=i2.max m;refine⟨mu,by grind,⟨⟨p1.max mu,g⟩,dd⟩,⟨i_ k (bI u ⟨2,0,0,[]⟩).1,j++[(bI u ⟨2,0,0,[]⟩).2],i+1⟩,rfl,?_,rfl,rfl,rfl,⟨show i+1<=M by omega,(i2.trans p1).trans d,by grind,i4⟩,show M-(i+1)<M-i by omega⟩;grind
   ·rw[show M-i=0 by omega] at i4;exact stop 0 rfl i4
  ·grind [fO,ee]
  ·grind [fO,ee]
  ·grind [dR]
  ·have X:=C.max m;generalize iy ⟨c,x,k⟩=R at*
   have F:=fO (fw (R.1.ae.length:Nat) x.lz) (λl j=>ee _ _ _ _) R.1;have done:¬j<R.2.length\/(dR (fw (R.1.ae.length:Nat) x.lz) R.1 (R.2.take j)).bV->dR (fw (R.1.ae.length:Nat) x.lz) R.1 (R.2.take j)=dR (fw (R.1.ae.length:Nat) x.lz) R.1 R.2:=λh=>by
    grind [dR]
   refine⟨λe=>⟨λp=>?_,λp=>co3 (done (.inr p))⟩,λe=>co3 (done (.inl ω))⟩;have H:j<R.2.length:=ω;have⟨g1,g2,g3⟩:=x6 H p (λl j=>ee _ _ _ _);have B:=D g2 (R.2.getD j 0) (by grind);grind [bL]
inductive Fo where
 | n | a | r
noncomputable section
def foC:Fo->bk D
 | .n=>Im | .a=>Nv | .r=>Nw
def Qrl:∀i,(foC i).Y->Nat
 | .n=>λy=>2*dg y.2 | .a=>λy=>2*uh y.2+1 | .r=>λy=>2*dg y.k+1
def foF:Fo->Func
 | .n=>f133 | .a=>f190 | .r=>f191
def Qi7:Fo->s6
 | .n=>[yR] | .a=>[yR] | .r=>[yR,UC,EI]
def foO:∀i,(foC i).Y->cU D
 | .n=>Qi2 | .a=>Qi3 | .r=>Qi5
def Qrm:∀i,Ok (foC i):=
 w9 [.n,.a,.r] foC Qrl (fn:=foF) (tab:=Qi7) (jb:=foO)
  (λi=>match i with
   | .n=>KN | .a=>KN | .r=>⟨KN,QiY,QiX⟩)
  (λi=>match i with
   | .n=>by kernel_rfl | .a=>by kernel_rfl | .r=>by kernel_rfl)
  (λi=>match i with
   | .n=>by kernel_rfl | .a=>by kernel_rfl | .r=>by kernel_rfl)
  λi=>match i with
   | .n=>λy b=>Eq.mp (ZW y) (Qri y b) | .a=>λy b=>Eq.mp (ZX y) (Qrj y b) | .r=>λy b=>Eq.mp (ZY y) (Qrk y b)
end
structure Fit (f:dk->dk) (g:Nat->List aV) (sz:Nat):Prop where
 gw:∀s,Gw s (f s)
 len:∀b,(g b).length=sz
 ok:∀c:List aV,c.length+sz<=400->f ⟨c,false⟩=⟨c++g c.length,false⟩
 no:∀c:List aV,c.length<=400->400<c.length+sz->(f ⟨c,false⟩).bV=true
variable {Z:dk->dk} {g:Nat->List aV} {a:Nat} {l:List ai}
def Fit.bV (h:Fit Z g a) {s:dk} (hs:s.bV):(Z s).bV:=(h.gw s).bV hs
theorem l0 (i:aV):Fit (λs=>(bI s i).1) (λ_=>[i]) 1:=by
 refine⟨λs=>(eQ s i).1,λ_=>rfl,λc h=>?_,λc h a=>?_⟩
 all_goals grind [bI]
def Fit.then {d:dk->dk} {e:Nat->List aV} {b:Nat} (h:Fit Z g a) (k:Fit d e b):Fit (λs=>d (Z s)) (λn=>g n++e (n+a)) (a+b):=by
 refine⟨λs=>(h.gw s).trans (k.gw _),λn=>by rw[Zab,h.len,k.len],λc i=>?_,λc h1 j=>?_⟩
 ·rw[h.ok c ω,k.ok _ (by rw[Zab,h.len];omega),Zab,h.len,ZaD]
 ·by_cases i:c.length+a<=400
  ·rw[h.ok c i];exact k.no _ (by rw[Zab,h.len];omega) (by rw[Zab,h.len];omega)
  ·exact k.bV (h.no c h1 ω)
theorem lq (s:dk) (i:aV) (c:List aV) (h:s=⟨c,false⟩):(c.length<400->bI s i=(⟨c++[i],false⟩,(c.length:Int)))/\(400<=c.length->bI s i=(⟨c,true⟩,0)):=by
 grind [bI]
theorem x7 (h:Fit Z g a) (lz:Bool) (J:Int->aV) (c:List aV) (e:c.length<=400):
  (c.length+(a+2)<=400->(bI (Z (bI ⟨c,false⟩ ⟨2,0,0,[]⟩).1) (J (bI ⟨c,false⟩ ⟨2,0,0,[]⟩).2))=(⟨c++⟨2,0,0,[]⟩::(g (c.length+1)++[J c.length]),false⟩,((c.length+1+a:Nat):Int))/\
   ll (bI (Z (bI ⟨c,false⟩ ⟨2,0,0,[]⟩).1) (J (bI ⟨c,false⟩ ⟨2,0,0,[]⟩).2)).1 lz (bI ⟨c,false⟩ ⟨2,0,0,[]⟩).2=⟨c++gY lz c.length (c.length+a+2)::(g (c.length+1)++[J c.length]),false⟩)/\
  (400<c.length+(a+2)->(bI (Z (bI ⟨c,false⟩ ⟨2,0,0,[]⟩).1) (J (bI ⟨c,false⟩ ⟨2,0,0,[]⟩).2)).1.bV/\(ll (bI (Z (bI ⟨c,false⟩ ⟨2,0,0,[]⟩).1) (J (bI ⟨c,false⟩ ⟨2,0,0,[]⟩).2)).1 lz (bI ⟨c,false⟩ ⟨2,0,0,[]⟩).2).bV):=by
 constructor
 ·intro b;have d:=(lq ⟨c,false⟩ ⟨2,0,0,[]⟩ c rfl).1 ω;have sz:(c++[(⟨2,0,0,[]⟩:aV)]).length=c.length+1:=by simp
  have e2:=h.ok (c++[⟨2,0,0,[]⟩]) ω;have i:(c++[(⟨2,0,0,[]⟩:aV)]++g (c.length+1)).length=c.length+1+a:=by rw[Zab,h.len,sz]
  grind [lq,ll,sq,gY]
 ·intro b;have bV:(bI (Z (bI ⟨c,false⟩ ⟨2,0,0,[]⟩).1) (J (bI ⟨c,false⟩ ⟨2,0,0,[]⟩).2)).1.bV:=by
   by_cases h0:c.length<400
   ·rw[(lq ⟨c,false⟩ ⟨2,0,0,[]⟩ c rfl).1 h0];have sz:(c++[(⟨2,0,0,[]⟩:aV)]).length=c.length+1:=by simp
    by_cases h1:c.length+1+a<=400
    ·simp only[h.ok (c++[⟨2,0,0,[]⟩]) ω];rw[(lq _ _ _ rfl).2 (by rw[Zab,h.len,sz];omega)]
    ·exact(eQ _ _).1.bV (h.no _ ω ω)
   ·rw[(lq ⟨c,false⟩ ⟨2,0,0,[]⟩ c rfl).2 ω];exact(eQ _ _).1.bV ((h.gw _).bV rfl)
  grind [Ce]
def UJ (h:Fit Z g a) (lz:Bool):Fit (AD Z lz) (λb=>gY lz b (b+a+2)::(g (b+1)++[⟨3,(b:Nat),0,[]⟩])) (a+2):=by
 refine⟨λs=>KO h.gw lz s,λb=>by simp[h.len],λc d=>?_,λc h1 sz=>?_⟩
 ·exact((x7 h lz (λj=>⟨3,j,0,[]⟩) c ω).1 d).2
 ·exact((x7 h lz (λj=>⟨3,j,0,[]⟩) c h1).2 sz).2
theorem KT (h:Fit Z g a) {q:Bool} (i:q=decide (a=0)):∀n,Fit (nW Z q n) (ie g a n) (n*a)
 | 0=>⟨λs=>Gw.refl s,λb=>by simp[ie],λc sz=>by simp[nW,ie],λc h1 e=>ω⟩
 | n+1=>by
  have d:=KT h i n;refine⟨λs=>vM q h.gw _ s,λb=>pj h.len _ b,λc sz=>?_,λc h1 e=>?_⟩
  ·rw[ZaV] at sz;by_cases h0:a=0
   ·rw[AE (.inr (by grind)),show ie g a (n+1) c.length=[] from Zap (by rw[pj h.len,h0];simp),Zaw]
   ·rw[nW,Zaa (by grind),h.ok c ω,d.ok _ (by rw[Zab,h.len];omega),ie,Zab,h.len,ZaD]
  ·rw[ZaV] at e;rw[nW,Zaa (by grind)];by_cases sz:c.length+a<=400
   ·rw[h.ok c sz];exact d.no _ (by rw[Zab,h.len];omega) (by rw[Zab,h.len];omega)
   ·exact d.bV (h.no c h1 ω)
theorem Ch (h:Fit Z g a):∀(n:Nat) (c:List aV) (j:List Int),c.length<=400->
  (c.length+n*(a+1)<=400->jY Z n ⟨c,false⟩ j=(⟨c++fo (λ_=>⟨2,0,0,[]⟩) g a n c.length,false⟩,j++jP a n c.length))/\(400<c.length+n*(a+1)->(jY Z n ⟨c,false⟩ j).1.bV)
 | 0,c,j,b=>⟨λ_=>by simp[jY,fo,jP],λi=>ω⟩
 | n+1,c,j,b=>by
  have sz:(c++[(⟨2,0,0,[]⟩:aV)]).length=c.length+1:=by simp
  rw[jY,Zaa (by simp),ZaV];by_cases h0:c.length<400
  ·rw[(lq ⟨c,false⟩ ⟨2,0,0,[]⟩ c rfl).1 h0];by_cases h1:c.length+1+a<=400
   ·rw[h.ok _ ω,sz];have k:(c++[(⟨2,0,0,[]⟩:aV)]++g (c.length+1)).length=c.length+1+a:=by rw[Zab,h.len,sz]
    have⟨i1,i2⟩:=Ch h n (c++[⟨2,0,0,[]⟩]++g (c.length+1)) (j++[(c.length:Int)]) ω;grind [fo,jP]
   ·refine⟨λd=>ω,λ_=>(tu h.gw n _ _ ?_).1.bV (h.no _ ω ω)⟩;intro e;rw[h.no _ ω ω] at e;cases e
  ·rw[(lq ⟨c,false⟩ ⟨2,0,0,[]⟩ c rfl).2 ω];refine⟨λd=>ω,λ_=>(tu h.gw n _ _ ?_).1.bV ((h.gw _).bV rfl)⟩;intro e;rw[(h.gw ⟨c,true⟩).bV rfl] at e;cases e
def UK (h:Fit Z g a) {q:Bool} (m:q=decide (a=0)) (mn mx:Int) (lz:Bool):
  Fit (x3 Z q mn mx lz) (Hu g a mn mx lz) (mn.toNat*a+(if mx= -1 then a+2 else la mn mx*(a+1))):=by
 have d:=KT h m mn.toNat;unfold x3 Hu;by_cases sz:mx= -1
 ·simp only[sz,Zbv];exact d.then (UJ h lz)
 ·simp only[sz,Za0];generalize la mn mx=n;have hO:Fit (λs=>dR (fw (jY Z n s []).1.ae.length lz) (jY Z n s []).1 (jY Z n s []).2) (λb=>fo (λi=>gY lz i (b+n*(a+1))) g a n b) (n*(a+1)):=by
   refine⟨λs=>?_,λb=>pk h.len _ b,λc k=>?_,λc h1 e=>?_⟩
   ·exact(tu h.gw n s [] (λ_ v o=>nomatch o)).1.trans (fO _ (λl j=>ee _ _ _ _) _ _).1
   ·simp only[(Ch h n c [] ω).1 k];unfold dR;rw[Zaa (by simp)];have p:(c++fo (λ_=>(⟨2,0,0,[]⟩:aV)) g a n c.length).length=c.length+n*(a+1):=by rw[Zab,pk h.len]
    simp only[p,Zcb];rw[B3 h.len n c c.length rfl]
   ·rw[(fO _ (λl j=>ee _ _ _ _) _ _).2.2];exact(Ch h n c [] h1).2 e
  exact d.then hO
theorem Z0 (h:∀t∈l,Fit (i_ t) (bT t) (bt t)):∀(c:List aV) (j:List Int),c.length<=400->
  (c.length+(aO l+2*(l.length-1))<=400->fU l ⟨c,false⟩ j=(⟨c++km l c.length 0,false⟩,j++jW l.dropLast c.length))/\(400<c.length+(aO l+2*(l.length-1))->(fU l ⟨c,false⟩ j).1.bV):=by
 induction l with
 | nil=>exact λc j a=>⟨λ_=>by simp[fU,km,jW],λd=>by grind [aO]⟩
 | cons t l f=>
  intro c j a;have ht:=h t (by simp);rw[fU,Zaa (by simp)];cases l with
  | nil=>
   rw[km];simp only[List.isEmpty_nil,Zbv,aO,Zae,Zak,List.dropLast_singleton,jW,Zaw];exact⟨λb=>by rw[ht.ok c ω],λb=>ht.no c a ω⟩
  | cons u l=>
   rw[Zaa (by simp),km,Zaa (by simp),aO,Zae,List.dropLast_cons₂,jW];have⟨k1,k2⟩:=x7 ht false (λ_=>⟨3,0,0,[]⟩) c a;unfold uT;by_cases hs:c.length+(bt t+2)<=400
   ·have⟨k3,k4⟩:=k1 hs;have g:(c++gY false c.length (c.length+bt t+2)::(bT t (c.length+1)++[(⟨3,0,0,[]⟩:aV)])).length=c.length+2+bt t:=by simp[ht.len];omega
    grind [gY]
   ·have⟨k3,k4⟩:=k2 ω;simp only[Zae];refine⟨λb=>ω,λ_=>(x4 _ _ _ ?_).1.bV k4⟩;intro e;grind
theorem Z1 (h:∀t∈l,Fit (i_ t) (bT t) (bt t)):Fit (ln l) (bu l) (aO l):=by
 induction l with
 | nil=>exact⟨λs=>Cf _ s,λb=>by rfl,λc d=>by simp[ln,bu],λc h1 a=>by grind [aO]⟩
 | cons t l e=>
  have k:=(h t (by simp)).then (e λu hu=>h u (by grind));refine⟨λs=>Cf _ s,λb=>by rw[bu,aO];exact k.len b,λc d=>?_,λc h1 a=>?_⟩
  ·rw[ln,Zaa (by simp),bu];rw[aO] at d;exact k.ok c d
  ·rw[ln,Zaa (by simp)];rw[aO] at a;exact k.no c h1 a
theorem KU (h:l.length=1):l=[l.getD 0 bD]:=by
 match l,h with
 | [k],_=>rfl
mutual
theorem EJ:∀t:ai,kA t->Cc t=decide (bt t=0)
 | .mk op r mn mx lz cap nk ks,h=>by
  rw[kA] at h
  rw[Cc,bt]
  unfold pf
  by_cases h1:op=1
  ·have h0:(ks.length:Int)=0:=h.1.none h1
   have:ks=[]:=Zap ω
   subst this
   subst h1
   simp[aO]
  ·rw[Zaa h1]
   by_cases h3:op=3
   ·rw[Zac h3,AF ks h.2.2]
    simp[h3]
   ·rw[Zaa h3]
    by_cases h5:op=5
    ·obtain⟨w1,w2,w3,w4⟩:=h.1.rep h5
     simp only at w1 w2 w3 w4
     rw[Zac h5,AG ks h.2.2 ω]
     subst h5
     simp only[show ¬((5:Int)=2\/(5:Int)=7\/(5:Int)=8) by decide,show ¬((5:Int)=4) by decide,show ¬((5:Int)=6) by decide,Za0,Zbv]
     by_cases m0:mx=0
     ·have:mn=0:=ω
      subst this;subst m0;simp
     ·rw[Zaa m0]
      by_cases m1:mx= -1
      ·rw[Zac m1]
       have:¬mn=mx:=ω
       simp[this]
      ·rw[Zaa m1]
       by_cases me:mn=mx
       ·obtain⟨k,hk⟩:∃k,mn.toNat=k+1:=⟨mn.toNat-1,ω⟩
        have hd:mx.toNat-mn.toNat=0:=ω
        rw[hd,hk]
        simp[me,Nat.mul_eq_zero]
       ·obtain⟨d,hd⟩:∃d,mx.toNat-mn.toNat=d+1:=⟨mx.toNat-mn.toNat-1,ω⟩
        rw[hd]
        simp[me]
    ·rw[Zaa h5]
     have:=h.1.op h1
     simp only at this
     rcases this with g | g | g | g | g | g | g
     ·simp[g]
     ·simp[g]
     ·simp[g]
     ·exact absurd g h3
     ·have:=h.1.ay g
      simp only at this
      simp[g]
      omega
     ·exact absurd g h5
     ·simp[g]
theorem AF:∀l:List ai,na l->qq l=decide (aO l=0)
 | [],_=>by simp[qq,aO]
 | t::l,h=>by
  rw[na] at h
  rw[qq,aO,EJ t h.1,AF l h.2,ZaG]
  simp
theorem AG:∀l:List ai,na l->l.length=1->Cd l=decide (aO l=0)
 | [t],h,_=>by
  rw[na] at h
  rw[Cd,aO,aO,EJ t h.1]
  rfl
end
def na.tail {t:ai} {l:List ai} (h:na (t::l)):kA t/\na l:=by assumption
mutual
theorem UL:∀t:ai,kA t->Fit (i_ t) (bT t) (bt t)
 | .mk op r mn mx lz cap nk ks,h=>by
  have hw:=(iP _).mp h
  have hk:∀t∈ks,Fit (i_ t) (bT t) (bt t):=KV ks hw.2.2
  generalize ht:ai.mk op r mn mx lz cap nk ks=t at*
  have eks:t.af=ks:=by rw[<-ht];rfl
  rw[<-eks] at hk
  clear ht eks
  have key:∀{f:dk->dk} {g:Nat->List aV},Fit f g (bt t)->(∀s,s.bV=false->i_ t s=f s)->(∀b,bT t b=g b)->Fit (i_ t) (bT t) (bt t):=λF e e2=>
   ⟨λs=>lZ t s,λb=>by rw[e2,F.len],λc hc=>by rw[e _ rfl,e2,F.ok c hc],λc h1 h2=>by rw[e _ rfl,F.no c h1 h2]⟩
  have dd:=size_eq t
  unfold pf at dd
  have ns:∀{X:dk->dk} {s:dk},s.bV=false->(if s.bV=true then s else X s)=X s:=λhb=>Zaa (by rw[hb];simp)
  by_cases h1:t.op=1
  ·have h0:(t.af.length:Int)=0:=hw.1.none h1
   have hn:t.af=[]:=Zap ω
   have s0:bt t=0:=by rw[dd,hn];simp[h1,aO]
   rw[s0] at key ⊢
   refine key (f:=id) (g:=λ_=>[]) ⟨λs=>Gw.refl s,λ_=>rfl,λc _=>by simp,λc h1 h2=>ω⟩ (λs hb=>?_) λb=>?_
   ·rw[sw,Zaa (by rw[hb];simp),Zaa ω,Zaa ω,Zaa ω,Zaa ω,Zaa ω,Zaa ω,Zaa ω];rfl
   ·rw[lg,Zaa ω,Zaa ω,Zaa ω,Zaa ω,Zaa ω,Zaa ω,Zaa ω]
  ·rcases hw.1.op h1 with h2 | h2 | h2 | h2 | h2 | h2 | h2
   all_goals have h2:t.op=_:=h2
   ·rw[Zac ω] at dd
    rw[dd] at key ⊢
    exact key (l0 ⟨1,0,0,t.r⟩) (λs hb=>by rw[sw,Zaa (by rw[hb];simp),Zac h2]) λb=>by rw[lg,Zac h2]
   ·rw[Zac ω] at dd
    rw[dd] at key ⊢
    exact key (l0 ⟨5,0,0,[]⟩) (λs hb=>by rw[sw,Zaa (by rw[hb];simp),Zaa ω,Zaa ω,Zaa ω,Zaa ω,Zaa ω,Zac h2]) λb=>by rw[lg,Zaa ω,Zac h2]
   ·rw[Zac ω] at dd
    rw[dd] at key ⊢
    exact key (l0 ⟨6,0,0,[]⟩) (λs hb=>by rw[sw,Zaa (by rw[hb];simp),Zaa ω,Zaa ω,Zaa ω,Zaa ω,Zaa ω,Zaa ω,Zac h2]) λb=>by rw[lg,Zaa ω,Zaa ω,Zac h2]
   ·rw[Zaa ω,Zaa ω,Zaa ω,Zaa ω] at dd
    rw[dd] at key ⊢
    exact key (Z1 hk) (λs hb=>by rw[sw,Zaa (by rw[hb];simp),Zaa ω,Zac h2]) λb=>by rw[lg,Zaa ω,Zaa ω,Zaa ω,Zac h2]
   ·rw[Zaa ω,Zac h2] at dd
    rw[dd] at key ⊢
    have hA:=Z0 hk
    have h0:1<=t.af.length:=by have:=hw.1.ay h2;simp only at this;omega
    have hlast:t.af=t.af.dropLast++[t.af.getD (t.af.length-1) bD]:=by
     rw[Zcz]
     conv=>lhs;rw[<-ZaM (l:=t.af),show t.af.length=(t.af.length-1)+1 by omega]
     rw[cm bD ω]
    refine key (f:=λs=>dR (lb (fU t.af s []).1.ae.length) (fU t.af s []).1 (fU t.af s []).2) (g:=λb=>km t.af b (b+aO t.af+2*(t.af.length-1))) ?_ (λs hb=>by rw[sw,Zaa (by rw[hb];simp),Zaa ω,Zaa ω,Zac h2]) λb=>by rw[lg,Zaa ω,Zaa ω,Zaa ω,Zaa ω,Zac h2]
    refine⟨λs=>(x4 t.af s [] (λ_ v hv=>(nomatch hv))).1.trans (fO _ (λl j=>iR _ _ _) _ _).1,λb=>lh _ _ _ hw.2.2,λc hc=>?_,λc h1 h2=>?_⟩
    ·simp only[(hA c [] ω).1 hc]
     unfold dR
     rw[Zaa (by simp)]
     have n1:(c++km t.af c.length 0).length=c.length+aO t.af+2*(t.af.length-1):=by rw[Zab,lh _ _ _ hw.2.2];omega
     simp only[n1,Zcb]
     congr 1
     conv=>lhs;rw[hlast,p_]
     have:=B0 (e:=c.length+aO t.af+2*(t.af.length-1)) t.af.dropLast c (bT (t.af.getD (t.af.length-1) bD) (c.length+(aO t.af.dropLast+2*t.af.dropLast.length))) c.length (by rw[Zcz];exact hw.2.2.take _) rfl
     rw[<-hlast,this]
     conv=>rhs;arg 2;arg 1;rw[hlast]
     rw[p_]
    ·rw[(fO _ (λl j=>iR _ _ _) _ _).2.2]
     exact(hA c [] h1).2 h2
   ·rw[Zaa ω,Zaa ω,Zaa ω,Zac h2] at dd
    obtain⟨w1,_⟩:=hw.1.rep h2
    simp only at w1
    have hks:=KU (l:=t.af) ω
    have qG:aO t.af=bt (t.af.getD 0 bD):=by conv=>lhs;rw[hks,aO,aO,Zbn]
    have hcl:∀b,bu t.af b=bT (t.af.getD 0 bD) b:=λb=>by conv=>lhs;rw[hks,bu,bu,Zaw]
    have hH:∀s,Oe t.af s=i_ (t.af.getD 0 bD) s:=λs=>KS ω s
    have hq:=AG t.af hw.2.2 ω
    have k0:=hk (t.af.getD 0 bD) (by rw[eG ω];exact Zas _)
    rw[<-qG] at k0
    have e1:(λs=>Oe t.af s)=i_ (t.af.getD 0 bD):=funext hH
    have e2:(λb=>bu t.af b)=bT (t.af.getD 0 bD):=funext hcl
    have F:=UK k0 hq t.mn t.mx t.lz
    have hs2:bt t=t.mn.toNat*aO t.af+(if t.mx= -1 then aO t.af+2 else la t.mn t.mx*(aO t.af+1)):=by
     rw[dd]
     split
     ·omega
     ·rfl
    rw[hs2] at key ⊢
    exact key F (λs hb=>by rw[sw,Zaa (by rw[hb];simp),Zaa ω,Zaa ω,Zaa ω,Zac h2,e1]) λb=>by rw[lg,Zaa ω,Zaa ω,Zaa ω,Zaa ω,Zaa ω,Zac h2,e2]
   ·rw[Zaa ω,Zaa ω,Zac h2] at dd
    obtain⟨w1,_⟩:=hw.1.uE h2
    simp only at w1
    have hks:=KU (l:=t.af) ω
    have qG:aO t.af=bt (t.af.getD 0 bD):=by conv=>lhs;rw[hks,aO,aO,Zbn]
    have hcl:∀b,bu t.af b=bT (t.af.getD 0 bD) b:=λb=>by conv=>lhs;rw[hks,bu,bu,Zaw]
    have k0:=hk (t.af.getD 0 bD) (by rw[eG ω];exact Zas _)
    rw[<-qG] at k0
    have F:=((l0 ⟨4,2*t.cap,0,[]⟩).then k0).then (l0 ⟨4,2*t.cap+1,0,[]⟩)
    rw[show 1+aO t.af+1=bt t by rw[dd];omega] at F
    exact key F (λs hb=>by rw[sw,Zaa (by rw[hb];simp),Zaa ω,Zaa ω,Zaa ω,Zaa ω,Zac h2,KS ω]) λb=>by rw[lg,Zaa ω,Zaa ω,Zaa ω,Zaa ω,Zaa ω,Zaa ω,Zac h2,hcl];simp
theorem KV:∀l:List ai,na l->∀t∈l,Fit (i_ t) (bT t) (bt t)
 | [],_=>λt ht=>nomatch ht
 | t::l,h=>λu hu=>by
  rw[na] at h
  rcases List.mem_cons.mp hu with e | e
  ·rw[e];exact UL t h.1
  ·exact KV l h.2 u e
end
def RdP (y:List Nd×Int):Prop:=0<=y.2/\y.1.length<=480/\∃t r,kA t/\y.1.drop y.2.toNat=aE t++r
def lu (y:List Nd×Int):ai:=lk (ct (y.1.drop y.2.toNat)).1
def UM (y:List Nd×Int):Int:=lk (y.2+(aE (lu y)).length)
def Io:bk D:=bP 129 (List Nd×Int) (λa s=>match a with
 | [l,i]=>aA (aW D s 7 l) λl=>aQ (da i) λ_ i=>.ret ((l:List Nd),i)
 | _=>.fail) RdP (λy=>[.list 7 y.1,QtJ y.2]) λy=>.tuple [.agg (D.ba 15 (lu y)),QtJ (UM y)]
def Nz (y:List Nd×Int) (k:Nat):Int:=lk (y.2+1+(aB ((lu y).af.take k)).length)
def Qro (y:Io.Y):cU D:=⟨[],[],[(122,⟨Nat,[0],λk=>[(1,QtJ (Nz y k)),(4,.ptr 0 0),(6,.ptr 1 0),(7,QtJ k)],[],λk=>[uS 0 bD,(1,.cells [QtJ (lu y).op,.list 6 (lu y).r,QtJ (lu y).mn,QtJ (lu y).mx,.bool (lu y).lz,QtJ (lu y).cap,QtJ (lu y).nk,.grow 15 ((lu y).af.take k) 2] 221 false),tkO 2],3,λk=>k<=(lu y).af.length,λk=>(lu y).af.length-k⟩)],[],1,[]⟩
def Qrp (y:Io.Y):Prop:=vc [Io.under (λy=>dg (lu y)) (dg (lu y))] f129 Io Qro y
def Ip:bk D:=bP 81 (List (List Nd)) Qh4 po (λy=>[.list 9 y]) λy=>.tuple [.agg [.list 8 (b6 y).1.1,.list 5 (b6 y).1.2],QtJ (b6 y).2.1,QtJ (b6 y).2.2]
structure DcX where
 c:List aV
 s:List Int
 r:Nat
def Z2 (y:List (List Nd)) (x:DcX):Prop:=x.r<=y.length/\y.length<=8/\x.c.length<=400/\x.s.length=x.r/\nf (y.drop x.r) x.r x.c x.s=b6 y
def Qrq (y:Ip.Y):cU D:=⟨[],[],[(250,⟨DcX,[0],λx=>[(2,.ptr 0 0),(3,.num .i64 0),(4,.num .i64 0),(5,.ptr 1 0),(6,.ptr 2 0),(7,QtJ x.r)],[],λx=>[(0,.cells [.cW,.cW] 88 false),(1,.cells [.own 3 4 (ah x.c),.bool false] 228 false),(2,.cells [.cW,.grow 5 x.s 4] 88 false),(3,.arr 8 x.c 203 false),uM 4],5,Z2 y,λx=>y.length-x.r⟩)],[],1,[]⟩
def UN (y:(List Nd)×Int):Prop:=let a:=lu y;let q1:=a.af;let c:=gt (Nd.mk 0 [] 0 0 false 0 0) y.1 y.2.toNat;let g:=λp:Prop=>aa ([0]:List Int) (aa ([[]]:List (List (Int×Int))) (aa ([0,0]:List Int) p));let h:=λp:Prop=>aa ([0,0]:List Int) (aa ([[]]:List (List ai)) p);let i:=λp:Prop=>aa [a.op] (aa [a.r] (aa [a.mn,a.mx] (aa [a.lz] (aa [a.cap,a.nk] p))));aI 0 y.2/\az y.2 (ah y.1)/\(∃z:Nat,aa [y.1] (aD .i64 y.2 1=Nz y z/\0=(z:Int)/\c.op=a.op/\c.r=a.r/\c.mn=a.mn/\c.mx=a.mx/\c.lz=a.lz/\c.cap=a.cap/\c.af=a.nk/\[]=List.take z q1/\g (false=false/\h ((Iv (z<=q1.length))))))/\(∀x:Nat,let e:=Nz y x;let b:=lu (y.1,e);let f:=q1.length;let j:=az (x:Int) a.nk;let d:=bM (List.take x q1) [ai.mk b.op b.r b.mn b.mx b.lz b.cap b.nk b.af];(Iv (x<=f))->ak j (Iv (RdP (y.1,e)/\dg b<dg a)/\aa [y.1] (aa [e] (bF (ah d) 96/\∃z:Nat,aa [y.1] (UM (y.1,e)=Nz y z/\aD .i64 (x:Int) 1=(z:Int)/\i (d=List.take z q1/\g (false=false/\h ((Iv (z<=f/\(f-z)<(f-x)))))))))) (i (List.take x q1=q1/\e=UM y/\True)))
def Z3:∀y,UN y=Qrp y:=λy=>by kernel_rfl
def UO (y:List (List Nd)):Prop:=let h:=(b6 y).2.2;let q1:=(b6 y).2.1;ak (az 8 (ah y)) ([]=(b6 y).1.1/\[]=(b6 y).1.2/\13=q1/\8=h/\True) ((∃z:DcX,aa [y] (0=((z.r:Nat):Int)/\[]=z.s/\0=ah z.c/\false=false/\[]=z.c/\(Iv (Z2 y z))))/\(∀x:DcX,let b:=((x.r:Nat):Int);let j:=bM x.s [ah x.c];let e:=gt [] y b.toNat;let a:=lu (e,0);let i:=(bI (dk.mk x.c false) (aV.mk 4 0 0 [])).1;let f:=(i,ai.mk a.op a.r a.mn a.mx a.lz a.cap a.nk a.af);let k:=ah (eo f).ae;let g:=(bI (eo f) (aV.mk 4 1 0 [])).1;let d:=(bI g (aV.mk 7 b 0 [])).1;(Iv (Z2 y x))->ak (az b (ah y)) (aI 0 b/\az b (ah y)/\Iv (cA e)/\aa [e] (ak (!(dL e)) ([]=(b6 y).1.1/\[]=(b6 y).1.2/\1=q1/\b=h/\True) (bF (ah j) 8/\aa [x.s] (aa [ah x.c] (aI 0 b/\az b (ah y)/\Iv (RdP (e,0))/\aa [e] (aa ([0]:List Int) (Iv (x.c.length<=400)/\aa ([4,0,0]:List Int) (aa ([[]]:List (List (Int×Int))) (aa [ah x.c] (false=false/\aa [x.c] (Iv (Cg f)/\aa [a.op] (aa [a.r] (aa [a.mn,a.mx] (aa [a.lz] (aa [a.cap,a.nk] (aa [a.af] (aa [ah i.ae] (aa [i.bV] (aa [i.ae] (Iv ((eo f).ae.length<=400)/\aa ([4,1,0]:List Int) (aa ([[]]:List (List (Int×Int))) (aa [k] (aa [(eo f).bV] (aa [(eo f).ae] (Iv (g.ae.length<=400)/\aa ([7,b,0]:List Int) (aa ([[]]:List (List (Int×Int))) (aa [ah g.ae] (aa [g.bV] (aa [g.ae] (ak d.bV ([]=(b6 y).1.1/\[]=(b6 y).1.2/\12=q1/\b=h/\True) (∃z:DcX,aa [y] (aD .i64 b 1=((z.r:Nat):Int)/\j=z.s/\ah d.ae=ah z.c/\d.bV=false/\d.ae=z.c/\(Iv (Z2 y z/\(y.length-z.r)<(y.length-x.r))))))))))))))))))))))))))))))))))) (x.c=(b6 y).1.1/\x.s=(b6 y).1.2/\0=q1/\0=h/\True)))
theorem Ci {l r:List Nd} {a:Nat} {t:ai} (h:kA t) (e:l.drop a=aE t++r):lu (l,(a:Int))=t:=by
 grind [lu,kk]
theorem Qrs (y:List Nd×Int) (q:Io.pre y):UN y:=by
 obtain⟨l,i⟩:=y;obtain⟨h0,h1,t,r,j,d⟩:=q;obtain⟨a,rfl⟩:=Zau h0;simp only[Zad] at h1 d;have eT:=Ci j d;have f:∀i t,lu (l,i)=t->UM (l,i)=i+(aE t).length:=λi t h=>by grind [UM,aJ]
 have m:∀k,Nz (l,(a:Int)) k=((fM t a k:Nat):Int):=λk=>by grind [Nz,fM,aJ]
 obtain⟨v,s,w⟩:=pZ d;have wf:=(iP t).mp j;have p:=EF t.af;have n:(aE t).length=(aB t.af).length+1:=by rw[bU];simp
 unfold UN;have o:gt (Nd.mk 0 [] 0 0 false 0 0) l a=⟨t.op,t.r,t.mn,t.mx,t.lz,t.cap,t.af.length⟩:=s;simp only[eT,f _ _ eT,m,Zad,o];simp only[bh,gx,eV,mI,aw,a8,br,bS];refine⟨ω,ω,⟨0,by grind [kC],rfl,wf.2.1.symm,rfl,Zaj _⟩,λx u=>⟨λe=>?_,λe=>?_⟩⟩
 ·rw[wf.2.1] at e;have c:x<t.af.length:=ω;have hk:=vG d c;have b:=wf.2.2.mem c;have g:=Ci (a:=fM t a x) b hk;rw[f _ _ g,g];refine⟨⟨⟨ω,h1,_,_,b,by assumption⟩,iO c⟩,?_,x+1,by grind [Aw],bL ω,(cm bD c).symm,ω,ω⟩;grind
 ·grind [fM]
def Qi9:Ok Io:=Ql (λy=>dg (lu y)) Z3 trivial Qrs
theorem Z5 {t:ai} (h:kA t) (r:Nat):Fit (λs=>(bI (bI (i_ t (bI s ⟨4,0,0,[]⟩).1) ⟨4,1,0,[]⟩).1 ⟨7,r,0,[]⟩).1) (qm t r) (bt t+3):=by
 have F:=(((l0 ⟨4,0,0,[]⟩).then (UL t h)).then (l0 ⟨4,1,0,[]⟩)).then (l0 ⟨7,r,0,[]⟩);rw[show 1+bt t+1+1=bt t+3 by omega] at F;have:(λn=>[(⟨4,0,0,[]⟩:aV)]++bT t (n+1)++[⟨4,1,0,[]⟩]++[⟨7,(r:Int),0,[]⟩])=qm t r:=funext λn=>by grind [qm]
 grind
theorem Qrt (y:List (List Nd)) (o:Ip.pre y):UO y:=by
 obtain⟨h1,k⟩:y.length<=1000000/\∀l∈y,∀x∈l,iN x:=o;have f:b6 y=Hy y:=by grind [b6,aJ]
 have j:∀s t,eo (s,t)=i_ t s:=λs t=>by grind [eo,aJ]
 unfold UO;simp only[bN,bh,aw,di,br,Zad,a8,Zan,Zao,bS,j];unfold Hy at f;refine⟨λe=>?_,λe=>?_⟩
 ·grind
 ·rw[Zaa ω] at f;refine⟨⟨⟨[],[],0⟩,rfl,rfl,rfl,rfl,Zaj _,ω,Zaj _,rfl,f.symm⟩,λx i=>?_⟩;obtain⟨c,s,r⟩:=x;obtain⟨i1,i2,i3,i4,i5⟩:=i;simp only at i1 i3 i4 i5 ⊢;refine⟨λe2=>?_,λe2=>?_⟩
  ·have v:r<y.length:=ω;have n:y.drop r=y.getD r []::y.drop (r+1):=by simp_all
   have b:cA (y.getD r []):=k _ (by grind);rw[n,nf] at i5;generalize y.getD r []=l at*
   refine⟨ω,e2,b,λh=>?_,λh=>?_⟩
   ·grind
   ·rw[Zaa (by grind)] at i5;obtain⟨t,d,w,u⟩:=jq h;have h0:l.drop 0=aE t++[]:=by grind
    have ht:q_ l=t:=by
     grind [kk,q_]
    have m:lu (l,0)=t:=Ci (a:=0) d h0;rw[ht] at i5;rw[m];have hl:(aE t).length<=480:=by grind
    have hw:Fc t:=⟨⟨ω,λx i=>b x (by grind)⟩,d⟩;have F:=Z5 d r;have p1:=(eQ ⟨c,false⟩ ⟨4,0,0,[]⟩).1;have p:=lZ t (bI ⟨c,false⟩ ⟨4,0,0,[]⟩).1;have q1:=(eQ (i_ t (bI ⟨c,false⟩ ⟨4,0,0,[]⟩).1) ⟨4,1,0,[]⟩).1;have m1:=p1.max i3;have m2:=p.max m1;refine⟨by grind,ω,e2,⟨ZaQ _,u,t,[],d,h0⟩,i3,⟨m1,hw⟩,m2,q1.max m2,λq=>?_,λq=>?_⟩
    ·by_cases g:c.length+(bt t+3)<=400
     ·have:=F.ok c g;grind
     ·grind
    ·by_cases g:c.length+(bt t+3)<=400
     ·have hk:=F.ok c g;rw[Zaa ω] at i5;rw[hk];refine⟨⟨c++qm t r c.length,s++[(c.length:Int)],r+1⟩,bL ω,rfl,rfl,rfl,rfl,⟨by assumption,i2,by simp only[Zab,F.len];omega,by simp[i4],i5⟩,by grind⟩
     ·have:=F.no c i3 ω;grind
  ·grind [nf]
def Qja:Ok Ip:=okZ [MM,Io,yR,Im] f81 Qrq ⟨QaX s8,Qi9,KN,Qrm .n⟩ Qrt
def Z6:bk D:=bP 80 (List Nd) Yd oo (λy=>[.list 7 y]) λy=>.list 7 (lk (cL y))
def ruO (n:Nat) (y:cF) (l:LdR):Nat×AO D.E:=(n,.cells [.list 3 y.r,.str y.c,.list 8 l.ae,.list 5 l.st,.list 8 l.cc,.list 5 l.cs,.bool (!seq y.c [])] 90 false)
def yS:bk D:=⟨29,cF×Bool,B7 oz,qo,λy=>[HD y.1],λ_=>[],
 λy=>match y.2 with
  | true=>.tuple [.ptr 0 0,QtJ 0,QtJ 0]
  | false=>.tuple [.fC,QtJ (bY y.1).au,QtJ (bY y.1).at_],
 λy=>match y.2 with
  | true=>[ruO 0 y.1 (bY y.1)]
  | false=>[],0,1⟩
def dsO (y:cF):Nat×AO D.E:=(0,.cells [.list 3 y.r,.str y.c] 24 false)
def nY (y:cF) (x:List (List Nd)×Nat):Prop:=y.r.length<=8/\∃t,(∀k,jQ t k=(y.r.take x.2).any λp=>decide (p.name=k))/\xQ y ⟨t,x.1,x.2⟩
def tx (y:cF):List Nd:=lk (if y.c≠[] then cL (ck y.c).1 else[])
def Qjc (y:yS.Y):cU D:=⟨[],[],[(250,⟨List (List Nd)×Nat,[5],λx=>[(1,.ptr 0 0),(6,.grow 9 x.1 1),(7,QtJ x.2)],[],λ_=>[dsO y.1,(1,.tok 9 138)],2,nY y.1,λx=>y.1.r.length-x.2⟩)],
 [(1023,⟨Unit,[5],λ_=>[(1,.ptr 0 0),(6,.list 9 (bs y.1).out),(13,.ptr 1 0),(14,.list 7 (tx y.1))],[],λ_=>[dsO y.1,ruO 1 y.1 (KD 0 0)],2,λ_=>(bs y.1).au=0/\y.1.r.length<=8/\(y.1.c≠[]->(ck y.1.c).2.1=0),λ_=>0⟩)],1,
 [(128154,⟨List (List Nd)×Nat,λx=>{ X:=Nat,aR:=[5,7],sl:=λk=>[(1,.ptr 0 0),(6,.grow 9 x.1 1),(8,.ptr 2 0),(9,QtJ k)],kp:=[],pc:=λ_=>[dsO y.1,(1,.tok 9 138),(2,.cells [.str (y.1.r.getD x.2 ⟨[],[]⟩).name,.str (y.1.r.getD x.2 ⟨[],[]⟩).text] 77 false)],nx:=3,inv:=λk=>k<=x.2/\x.2<y.1.r.length/\nY y.1 x/\∀j,j<k->(y.1.r.getD j ⟨[],[]⟩).name≠(y.1.r.getD x.2 ⟨[],[]⟩).name,me:=λk=>x.2-k },none⟩)]⟩
def Iq (y:cF):Prop:=let i:=b6 (bs y).out;let q1:=y.r.length;let e:=ah y.r;let m:=!(seq y.c []);let n:=([tx y]:List (List Nd));let t:=(ck y.c).1;let w:=!(aC (ck y.c).2.1 0);let A:=!(aC (b6 n).2.1 0);let v:=λp:Prop=>RAD (RA4 y p);let u:=λp:Prop=>RA4 y p;let B:=Iv ((bs y).au=0/\q1<=8/\((Ne (y,true).1.c [])->(ck y.c).2.1=0));let k:Prop:=(RA4 y (RAH (RAI (RAH (RAI (RAP m (RA4 y (B))))))));let F:=λj:Nat=>List.getD y.r j (rW.mk [] []);ak (az 8 e) (False) ((∃z:(List (List Nd))×Nat,RAP e ([]=z.1/\0=(z.2:Int)/\u ((Iv (nY y z)))))/\(∀x:(List (List Nd))×Nat,let b:=(x.2:Int);let g:=gt (rW.mk [] []) y.r b.toNat;(Iv (nY y x))->ak (az b e) (aI 0 b/\az b e/\Iv True/\RAP g.name (ak (!(iZ g.name)) (False) (∃z:(List (List Nd))×Nat,let a:=List.getD y.r z.2 (rW.mk [] []);let h:=(ck a.text).1;let o:=!(aC (ck a.text).2.1 0);let l:=bM z.1 [lk (cL h)];(∃d:Nat,aa [e,b] (x.1=z.1/\0=(d:Int)/\g.name=a.name/\g.text=a.text/\u ((Iv (d<=z.2/\z.2<q1/\nY y z/\(∀j:Nat,(Nat.le (Nat.succ j) d)->Ne (F j).name a.name))))))/\(∀f:Nat,let q:=az (f:Int) b;let s:=seq (gt (rW.mk [] []) y.r (f:Int).toNat).name a.name;(Iv (f<=z.2/\z.2<q1/\nY y z/\(∀j:Nat,(Nat.le (Nat.succ j) f)->Ne (F j).name a.name)))->ak q (aI 0 (f:Int)/\az (f:Int) e/\aa [y.r] (aa [(gt (rW.mk [] []) y.r (f:Int).toNat).name,a.name] (ak s (False) (∃d:Nat,aa [e,b] (aa [z.1] (aD .i64 (f:Int) 1=(d:Int)/\aa [a.name,a.text] (aa [y.r] (aa [y.c] ((Iv ((d<=z.2/\z.2<q1/\nY y z/\(∀j:Nat,(Nat.le (Nat.succ j) d)->Ne (F j).name a.name))/\(z.2-d)<(z.2-f)))))))))))) (Iv True/\aa [a.text] (ak o (False) (Iv (oo h)/\aa [h] (bF (ah l) 24/\∃d:(List (List Nd))×Nat,aa [e] (l=d.1/\aD .i64 b 1=(d.2:Int)/\u ((Iv (nY y d/\(q1-d.2)<(q1-x.2))))))))))))) (bF e 32/\RAP y.r ((ak m (Iv True/\aa [y.c] (ak w (False) (Iv (oo t)/\aa [t] (∃z:Unit,aa [e] (x.1=(bs y).out/\lk (cL t)=tx y/\k))))) (∃z:Unit,aa [e] (x.1=(bs y).out/\[]=tx y/\k)))/\(∀f:Unit,B->Iv (po (bs y).out)/\aa [(bs y).out] (ak (!(aC i.2.1 0)) (False) (ak m (Iv (po n)/\aa [n] (ak A (False) (v (i.1.1=(bY y).ae/\i.1.2=(bY y).st/\(b6 n).1.1=(bY y).cc/\(b6 n).1.2=(bY y).cs/\aa [m] (True))))) (v (i.1.1=(bY y).ae/\i.1.2=(bY y).st/\[]=(bY y).cc/\[]=(bY y).cs/\aa [m] (True))))))))))
def Ir (y:cF):Prop:=let d:=ah y.r;let q1:=y.r.length;let q:=!(seq y.c []);let l:=([tx y]:List (List Nd));let s:=(ck y.c).1;let m:=(ck y.c).2.1;let t:=(b6 (bs y).out).2;let w:=!(aC (b6 l).2.1 0);let u:=λp:Prop=>RA4 y p;let A:=Iv ((bs y).au=0/\q1<=8/\((Ne (y,false).1.c [])->m=0));let v:Prop:=(RA4 y (RAH (RAI (RAH (RAI (RAP q (RA4 y (A))))))));let B:=λj:Nat=>List.getD y.r j (rW.mk [] []);ak (az 8 d) (13=(bY y).au/\8=(bY y).at_/\True) ((∃z:(List (List Nd))×Nat,RAP d ([]=z.1/\0=(z.2:Int)/\u ((Iv (nY y z)))))/\(∀x:(List (List Nd))×Nat,let b:=(x.2:Int);let g:=gt (rW.mk [] []) y.r b.toNat;(Iv (nY y x))->ak (az b d) (aI 0 b/\az b d/\Iv True/\RAP g.name (ak (!(iZ g.name)) (14=(bY y).au/\b=(bY y).at_/\True) (∃z:(List (List Nd))×Nat,let a:=List.getD y.r z.2 (rW.mk [] []);let h:=(ck a.text).1;let i:=(ck a.text).2.1;let k:=bM z.1 [lk (cL h)];(∃e:Nat,aa [d,b] (x.1=z.1/\0=(e:Int)/\g.name=a.name/\g.text=a.text/\u ((Iv (e<=z.2/\z.2<q1/\nY y z/\(∀j:Nat,(Nat.le (Nat.succ j) e)->Ne (B j).name a.name))))))/\(∀f:Nat,let n:=az (f:Int) b;let o:=seq (gt (rW.mk [] []) y.r (f:Int).toNat).name a.name;(Iv (f<=z.2/\z.2<q1/\nY y z/\(∀j:Nat,(Nat.le (Nat.succ j) f)->Ne (B j).name a.name)))->ak n (aI 0 (f:Int)/\az (f:Int) d/\aa [y.r] (aa [(gt (rW.mk [] []) y.r (f:Int).toNat).name,a.name] (ak o (8=(bY y).au/\b=(bY y).at_/\True) (∃e:Nat,aa [d,b] (aa [z.1] (aD .i64 (f:Int) 1=(e:Int)/\aa [a.name,a.text] (aa [y.r] (aa [y.c] ((Iv ((e<=z.2/\z.2<q1/\nY y z/\(∀j:Nat,(Nat.le (Nat.succ j) e)->Ne (B j).name a.name))/\(z.2-e)<(z.2-f)))))))))))) (Iv True/\aa [a.text] (ak (!(aC i 0)) (i=(bY y).au/\b=(bY y).at_/\True) (Iv (oo h)/\aa [h] (bF (ah k) 24/\∃e:(List (List Nd))×Nat,aa [d] (k=e.1/\aD .i64 b 1=(e.2:Int)/\u ((Iv (nY y e/\(q1-e.2)<(q1-x.2))))))))))))) (bF d 32/\RAP y.r ((ak q (Iv True/\aa [y.c] (ak (!(aC m 0)) (m=(bY y).au/\d=(bY y).at_/\True) (Iv (oo s)/\aa [s] (∃z:Unit,aa [d] (x.1=(bs y).out/\lk (cL s)=tx y/\v))))) (∃z:Unit,aa [d] (x.1=(bs y).out/\[]=tx y/\v)))/\(∀f:Unit,A->Iv (po (bs y).out)/\aa [(bs y).out] (ak (!(aC t.1 0)) (t.1=(bY y).au/\t.2=(bY y).at_/\True) (ak q (Iv (po l)/\aa [l] (ak w ((b6 l).2.1=(bY y).au/\d=(bY y).at_/\True) (False))) (False))))))))
abbrev py:rW:=⟨[],[]⟩
theorem Z7 {t:List Row} {n:By} {v:Int} (h:jQ t n=false) (k:By):jQ (rb t n v) k=(jQ t k||decide (n=k)):=by
 grind [KL,jQ,List.take_append_drop]
theorem EK {y:cF} {x:List (List Nd)×Nat} (h:nY y x) (m:x.2<y.r.length):
  (iZ (y.r.getD x.2 py).name=false->(bs y).au=14/\(bs y).at_=x.2)/\
  (iZ (y.r.getD x.2 py).name->(∃j,j<x.2/\(y.r.getD j py).name=(y.r.getD x.2 py).name)->(bs y).au=8/\(bs y).at_=x.2)/\
  (iZ (y.r.getD x.2 py).name->(∀j,j<x.2->(y.r.getD j py).name≠(y.r.getD x.2 py).name)->((ck (y.r.getD x.2 py).text).2.1≠0->(bs y).au=(ck (y.r.getD x.2 py).text).2.1/\(bs y).at_=x.2)/\
   ((ck (y.r.getD x.2 py).text).2.1=0->nY y (x.1++[cL (ck (y.r.getD x.2 py).text).1],x.2+1))):=by
 obtain⟨h1,t,f,g⟩:=h;obtain⟨c,d,s3⟩:=xY g m;simp only at c d s3;have ht:∀k,jQ t k↔∃j,j<x.2/\(y.r.getD j py).name=k:=λk=>by
  rw[f,ZcT];constructor
  ·rintro⟨p,l,e⟩;obtain⟨j,b,rfl⟩:=Za3 l;rw[Zar] at b;refine⟨j,ω,?_⟩;grind
  ·rintro⟨j,b,e⟩;rw[eG ω] at e;exact⟨y.r[j],List.mem_iff_getElem.mpr ⟨j,by grind,by grind⟩,by grind⟩
 refine⟨c,λa e2=>d a ((ht _).mpr e2),λa e2=>?_⟩;have i:jQ t (y.r.getD x.2 py).name=false:=by
  grind
 obtain⟨n,o⟩:=s3 a i;refine⟨n,λe=>⟨h1,_,λk=>?_,o e⟩⟩;grind [Z7,cm]
theorem Qjf (y:cF) (b:Bool) (O:yS.pre (y,b)):(b->Iq y)/\(b=false->Ir y):=by
 obtain⟨hl,S⟩:y.r.length<=1000/\b=oz y:=O;have I:bY y=jr y:=by grind [bY,aJ]
 have C:y.c≠[]->tx y=cL (ck y.c).1:=λh=>by grind [tx,aJ]
 have z:y.c=[]->tx y=[]:=λh=>by grind [tx,aJ]
 have E:b↔(jr y).au=0:=by grind [oz]
 have J:∀{s:By},seq s []=false↔s≠[]:=λ{s}=>by grind
 obtain⟨Q,U⟩:(∀x∈(bs y).out,cA x)/\(bs y).out.length<=y.r.length:=by
  grind [vK,bs,aJ]
 have L:po (bs y).out:=⟨ω,Q⟩;have P:cA (tx y):=by
  by_cases h:y.c=[]
  ·grind [eP]
  ·grind [vJ,l9]
 have H:po [tx y]:=⟨by simp,λl hl=>by rw[List.mem_singleton.mp hl];exact P⟩;have G:8<y.r.length->jr y=KD 13 8:=λh=>by grind [jr]
 have hz:y.r.length<=8->nY y ([],0):=λh=>⟨h,[],λk=>rfl,Zaj _,List.Pairwise.nil,Zah _,rfl,by grind [bs,aJ]⟩
 have p:∀x:List (List Nd)×Nat,nY y x->¬x.2<y.r.length->x.1=(bs y).out/\(bs y).au=0:=λx f e=>by
  obtain⟨_,t,_,i1,_,_,_,i5⟩:=f;grind [lX]
 have hlen:∀x:List (List Nd)×Nat,nY y x->x.1.length=x.2:=λx f=>by
  obtain⟨_,t,_,_,_,_,i4,_⟩:=f;exact i4
 have K:∀n,gt (rW.mk [] []) y.r n=y.r.getD n py:=λ_=>rfl
 have A:∀n,y.r.getD n (rW.mk [] [])=y.r.getD n py:=λ_=>rfl
 constructor
 ·intro N;have h0:=E.mp N;unfold Iq;rw[I];simp only[bN,bh,aw,a8,br,w_,J,K,A,Zad,Zan,Zao,aJ,ZaY,ZaZ];refine⟨λD=>?_,λD=>⟨⟨([],0),rfl,rfl,hz ω⟩,λx f=>⟨λe=>?_,λe=>?_⟩⟩⟩
  ·rw[G ω] at h0;cases h0
  ·have w:x.2<y.r.length:=ω;obtain⟨M,F,s3⟩:=EK f w;have V:(bs y).au=0:=Zch λh=>by rw[Um ω h] at h0;exact h h0
   refine⟨ω,e,λq=>?_,λq=>⟨x,⟨0,rfl,rfl,rfl,rfl,Zaj _,w,f,λj g=>absurd g (Zbo _)⟩,λk hk=>?_⟩⟩
   ·grind
   ·obtain⟨k1,k2,k3,k4⟩:=hk;refine⟨λek=>⟨ω,ω,λi=>?_,λi=>⟨k+1,bL ω,⟨ω,w,f,λj g=>?_⟩,ω⟩⟩,λek=>⟨λi=>?_,λi=>⟨l9 _,?_,(x.1++[cL (ck (y.r.getD x.2 py).text).1],x.2+1),rfl,bL ω,?_,show y.r.length-(x.2+1)<y.r.length-x.2 by omega⟩⟩⟩
    ·have:=(F q ⟨k,ω,i⟩).1;omega
    ·grind
    ·grind
    ·grind
    ·grind
  ·obtain⟨B,m⟩:=p x f ω;refine⟨ω,⟨λd=>⟨λu=>?_,λu=>⟨l9 _,B,(C d).symm,m,ω,λ_=>u⟩⟩,λd=>⟨B,(z d).symm,m,ω,λh=>absurd d h⟩⟩,λg=>⟨L,λv=>?_,λv=>⟨λd=>⟨H,λo=>?_,λo=>?_⟩,λd=>?_⟩⟩⟩
   ·rw[Un ω m d u] at h0;exact u h0
   ·rw[Uo ω m g.2.2 v] at h0;exact v h0
   ·rw[C d] at o;rw[Up ω m g.2.2 v d o] at h0;exact o h0
   ·grind [Uq]
   ·grind [Ur]
 ·intro R;have h0:(jr y).au≠0:=λh=>by grind
  unfold Ir;rw[I];simp only[bN,bh,aw,a8,br,w_,J,K,A,Zad,Zan,Zao,aJ,ZaY,ZaZ];have au:∀{e a:Int},y.r.length<=8->(bs y).au=e/\(bs y).at_=a->e≠0->e=(jr y).au/\a=(jr y).at_:=λD h T=>by
   rw[Um ω ω,h.1,h.2];exact⟨rfl,rfl⟩
  refine⟨λD=>?_,λD=>⟨⟨([],0),rfl,rfl,hz ω⟩,λx f=>⟨λe=>?_,λe=>?_⟩⟩⟩
  ·rw[G ω];exact⟨rfl,rfl⟩
  ·have w:x.2<y.r.length:=ω;obtain⟨M,F,s3⟩:=EK f w;refine⟨ω,e,λq=>au ω (M q) (by decide),λq=>⟨x,⟨0,rfl,rfl,rfl,rfl,Zaj _,w,f,λj g=>absurd g (Zbo _)⟩,λk hk=>?_⟩⟩;obtain⟨k1,k2,k3,k4⟩:=hk;refine⟨λek=>⟨ω,ω,λi=>au ω (F q ⟨k,ω,i⟩) (by decide),λi=>⟨k+1,bL ω,⟨ω,w,f,λj g=>?_⟩,ω⟩⟩,λek=>⟨λi=>au ω ((s3 q λj g=>k4 j (show j<k by omega)).1 i) i,λi=>⟨l9 _,?_,(x.1++[cL (ck (y.r.getD x.2 py).text).1],x.2+1),rfl,bL ω,?_,show y.r.length-(x.2+1)<y.r.length-x.2 by omega⟩⟩⟩
   ·grind
   ·grind
   ·grind
  ·obtain⟨B,m⟩:=p x f ω;refine⟨ω,⟨λd=>⟨λu=>?_,λu=>⟨l9 _,B,(C d).symm,m,ω,λ_=>u⟩⟩,λd=>⟨B,(z d).symm,m,ω,λh=>absurd d h⟩⟩,λg=>⟨L,λv=>?_,λv=>⟨λd=>⟨H,λo=>?_,λo=>?_⟩,λd=>?_⟩⟩⟩
   ·rw[Un ω m d u];exact⟨rfl,rfl⟩
   ·rw[Uo ω m g.2.2 v];exact⟨rfl,rfl⟩
   ·rw[C d] at o ⊢;rw[Up ω m g.2.2 v d o];exact⟨rfl,rfl⟩
   ·grind [Uq]
   ·grind [Ur]
def Qjg (hs:Ok Z6):Ok yS:=QtT (k:=yS) (T:=Iq) (F:=Ir) [Ng,He,Z6,Ip] f29 Qjc id id (λ_=>rfl) ⟨Qib,Qhw QcS (Gs s8) (QcV s8),hs,Qja⟩ (λy a=>(Qjf y true a).1 rfl) λy a=>(Qjf y false a).2 rfl
mutual
def nrm:ai->ai
 | .mk op r mn mx lz cap _ ks=>.mk op r mn mx lz cap ks.length (nZ ks)
def nZ:List ai->List ai
 | []=>[]
 | t::l=>nrm t::nZ l
end
theorem gB (l:List ai):nZ l=l.map nrm:=by
 induction l with
 | nil=>simp[nZ]
 | cons a l b=>simp[nZ,b]
def js (t:ai):nrm t=.mk t.op t.r t.mn t.mx t.lz t.cap t.af.length (t.af.map nrm):=by cases t;rw[nrm,gB];rfl
mutual
theorem x8:∀(t:ai) (m:Nat) (rest:List Nd),(aE t++rest).length<=m->fL m (aE t++rest)=some (nrm t,rest)
 | .mk op r mn mx lz cap nk ks,m,rest,hm=>by
  rw[aE] at hm ⊢
  simp only[Za1,Zae] at hm ⊢
  obtain⟨k,rfl⟩:∃k,m=k+1:=⟨m-1,ω⟩
  rw[fL]
  simp only[Zad]
  rw[AH ks k rest ω,nrm]
theorem AH:∀(l:List ai) (m:Nat) (rest:List Nd),(aB l++rest).length<=m->jM (fL m) l.length (aB l++rest)=some (nZ l,rest)
 | [],m,rest,_=>by simp[jM,aB,nZ]
 | t::l,m,rest,hm=>by
  rw[aB,ZaD] at hm ⊢
  rw[Zae,jM,x8 t m _ hm]
  simp only
  rw[AH l m rest (by simp only[Zab] at hm ⊢;omega),nZ]
end
mutual
theorem x9:∀t:ai,aE (nrm t)=aE t
 | .mk op r mn mx lz cap nk ks=>by rw[nrm,aE,aE,qe ks,gB,Za2]
theorem qe:∀l:List ai,aB (nZ l)=aB l
 | []=>by rw[nZ]
 | t::l=>by rw[nZ,aB,aB,x9 t,qe l]
end
theorem x_ (a b:ai):aE a=aE b↔nrm a=nrm b:=by
 constructor
 ·intro h;have h1:=x8 a (aE a).length [] (by simp);grind [x8]
 ·grind [x9]
theorem KW (a b:ai):uR a b↔nrm a=nrm b:=by
 grind [uR,aJ,x_]
mutual
theorem KX:∀a b:ai,SR a b=true↔nrm a=nrm b
 | .mk op r mn mx lz cap nk ks,b=>by
  rw[SR,nrm,js b]
  simp only[ZaW,Zb7,ZaP,ai.mk.injEq,<-gB]
  constructor
  ·rintro⟨⟨⟨⟨⟨⟨⟨h1,h2⟩,h3⟩,h4⟩,h5⟩,h6⟩,h7⟩,h8⟩
   exact⟨h1,h6,h2,h3,h4,h5,ω,(ya ks b.af h7).mp h8⟩
  ·rintro⟨h1,h6,h2,h3,h4,h5,h7,h8⟩
   have h7:ks.length=b.af.length:=ω
   exact⟨⟨⟨⟨⟨⟨⟨h1,h2⟩,h3⟩,h4⟩,h5⟩,h6⟩,h7⟩,(ya ks b.af h7).mpr h8⟩
theorem ya:∀l m:List ai,l.length=m.length->(se l m=true↔nZ l=nZ m)
 | [],m,h=>by
  cases m with
  | nil=>simp[se,nZ]
  | cons b m=>cases h
 | a::l,m,h=>by
  cases m with
  | nil=>cases h
  | cons b m=>
   rw[se,nZ,nZ,ZaW,KX a b,ya l m (by simpa using h),List.cons.injEq]
end
theorem KY (a b:ai):oh a b↔nrm a=nrm b:=by
 unfold oh;rw[aJ,KX]
theorem Z8 (a b:ai):uR a b=oh a b:=by grind [KW,KY]
theorem sy:∀(l s o:List ai),(∀k,s.any (λx=>oh x k)=o.any (λx=>oh x k))->ed o l=o++e_ s l
 | [],s,o,_=>by grind [ed,e_]
 | k::l,s,o,h=>by
  rw[ed,e_];have b:(λx=>uR x k)=λx=>oh x k:=funext λx=>Z8 x k
  rw[b];by_cases c:s.any (λx=>oh x k)
  ·rw[Zac c,Zac (by simp_all)];refine sy l (s++[k]) o λa=>?_
   rw[Zca,h];simp only[ZdX,List.any_nil,Zdh];cases hk:oh k a with
   | false=>rw[Zdh]
   | true=>
    rw[Bool.or_true];symm;rw[h] at c;grind [KY]
  ·rw[Zaa c,Zaa (by simp_all),sy l (s++[k]) (o++[k]) λa=>by simp_all];simp
def vN (l:List ai):vL l=j_ l:=by
 unfold vL j_;rw[sy l [] [] λ_=>rfl,Zcb]
theorem sA:∀(l o:List ai),(bK o l).length=o.length+l.length->bK o l=o++l
 | [],o,_=>by grind [bK]
 | k::l,o,h=>by
  rw[bK] at h ⊢;have h1:(dC o k).length<=o.length+1:=jo o k;have b:∀(l o:List ai),(bK o l).length<=o.length+l.length:=λl=>by
   induction l with
   | nil=>intro o;rw[bK];exact Zah _
   | cons a l c=>intro o;rw[bK];have:=c (dC o a);have:=jo o a;simp only[Zae];omega
  have d:=b l (dC o k);simp only[Zae] at h;rw[sA l (dC o k) ω];grind [dC]
theorem NA {l:List ai} (h:(j_ l).length=l.length):j_ l=l:=by
 unfold j_ at h ⊢;have e:ed [] l=e_ [] l:=by grind [sy]
 rw[e] at h ⊢;have s:=nV l [];have c:=s.length_le;have d:(bK [] (e_ [] l)).length<=(e_ [] l).length:=by
  have:∀(l o:List ai),(bK o l).length<=o.length+l.length:=λl=>by
   induction l with
   | nil=>intro o;rw[bK];exact Zah _
   | cons a l b=>intro o;rw[bK];have:=b (dC o a);have:=jo o a;simp only[Zae];omega
  grind
 grind [sA]
theorem Z9 (l:List ai):(j_ l).length<=l.length:=by
 rw[<-vN];unfold vL;have:∀(l o:List ai),(bK o l).length<=o.length+l.length:=λl=>by
  induction l with
  | nil=>intro o;rw[bK];exact Zah _
  | cons a l b=>intro o;rw[bK];have:=b (dC o a);have:=jo o a;simp only[Zae];omega
 grind [nV]
theorem KZ:∀(n:Nat) (l:List ai),l.length<=n->iU n l=jN n l
 | 0,l,h=>by
  have:l=[]:=Zap ω;subst this;rfl
 | n+1,l,h=>by
  rw[iU,jN,vN];have:=Z9 l;by_cases c:(j_ l).length=l.length
  ·grind [NA]
  ·rw[Zac ω,Zaa c];exact KZ n _ ω
mutual
def ef:ai->Prop
 | .mk op _ _ _ _ _ _ ks=>(op=3->∀k∈ks,k.op≠1)/\(op=4->ks≠[])/\uj ks
def uj:List ai->Prop
 | []=>True
 | t::l=>ef t/\uj l
end
theorem AI (l:List ai):uj l↔∀t∈l,ef t:=by
 induction l with
 | nil=>simp[uj]
 | cons a l b=>rw[uj,b];simp
theorem kD (t:ai):ef t↔(t.op=3->∀k∈t.af,k.op≠1)/\(t.op=4->t.af≠[])/\∀k∈t.af,ef k:=by cases t;rw[ef,AI];exact ZbW
noncomputable def byD (t:ai):ai:=if t.op=3 then Ib t else if t.op=4 then If t else if t.op=5 then cS t else t
theorem UR {l:List ai} (h:∀k∈l,ef k):fq l=gX (aG 3 l):=by
 unfold fq gX aG;rw[List.filter_flatMap];have:∀k∈l,(if k.op=1 then([]:List ai) else if k.op=3 then k.af else[k])=List.filter (λt=>!vF t) (if k.op=3 then k.af else[k]):=λk hk=>by
  grind [kD,List.filter_eq_self,vF]
 clear h
 induction l with
 | nil=>rfl
 | cons a l b=>rw[Zbt,Zbt,this a (by simp),b λk hk=>this k (by grind)]
theorem l_ (t:ai):(nrm t).op=t.op:=by rw[js];rfl
theorem US (t:ai):(nrm t).r=t.r:=by rw[js];rfl
theorem nj (t:ai):(nrm t).af=t.af.map nrm:=by rw[js];rfl
theorem n9 (t:ai):nrm (nrm t)=nrm t:=by rw[<-x_,x9]
theorem sB (l:List ai):(l.map nrm).map nrm=l.map nrm:=by grind [List.map_congr_left,n9]
theorem Is (op:Int) (l:List ai):aG op (l.map nrm)=(aG op l).map nrm:=by
 unfold aG;grind [List.flatMap_map,l_,nj]
theorem NB (l:List ai):fq (l.map nrm)=(fq l).map nrm:=by
 unfold fq;grind [List.flatMap_map,l_,nj]
theorem Z' (a b:ai):uR (nrm a) (nrm b)=uR a b:=by grind [KW,n9]
theorem K0:∀l s:List ai,e_ (s.map nrm) (l.map nrm)=(e_ s l).map nrm
 | [],s=>rfl
 | k::l,s=>by
  have h:=K0 l (s++[k]);rw[ZcG] at h;rw[Zbl,e_,e_,List.any_map];have e:((λx=>uR x (nrm k))∘nrm)=λx=>uR x k:=funext λx=>Z' x k
  grind
theorem UT (o:List ai):om (o.map nrm)=nrm (om o):=by
 unfold om;rw[Za2];by_cases h:o=[]
 ·subst h;rfl
 ·have a:o.length-1<o.length:=by have:=List.length_pos_iff.mpr h;omega
  grind
def NC (o:List ai) (k:ai):dC (o.map nrm) (nrm k)=(dC o k).map nrm:=by
 unfold dC;rw[UT,l_,l_,US,US,Za2];split
 ·rw[List.map_set];congr 1
 ·simp
theorem yb:∀l o:List ai,bK (o.map nrm) (l.map nrm)=(bK o l).map nrm
 | [],o=>rfl
 | k::l,o=>by rw[Zbl,bK,bK,NC,yb l]
def UU (l:List ai):vL (l.map nrm)=(vL l).map nrm:=by
 unfold vL;rw[show e_ [] (l.map nrm)=(e_ [] l).map nrm from K0 l []];exact yb _ []
theorem K5:∀(n:Nat) (l:List ai),iU n (l.map nrm)=(iU n l).map nrm
 | 0,l=>by rw[iU,iU,UU]
 | n+1,l=>by
  rw[iU,iU,UU,Za2,Za2];split
  ·exact K5 n _
  ·rfl
mutual
theorem K8:∀t:ai,pU (nrm t)=pU t
 | .mk op r mn mx lz cap nk ks=>by rw[nrm,pU,pU,EL ks]
theorem EL:∀l:List ai,ki (nZ l)=ki l
 | []=>by rw[nZ]
 | t::l=>by rw[nZ,ki,ki,K8 t,EL l]
end
variable {l:List ai}
theorem UW (t:ai):fm (nrm t)=fm t:=by grind [fm,K8]
theorem yc (l:List ai):(l.map nrm).getD 0 bD=nrm (l.getD 0 bD):=by
 cases l with
 | nil=>rfl
 | cons a l=>rfl
theorem EM (t:ai):bH (nrm t)=nrm (bH t):=by grind [bH,nj,yc]
theorem jt (t:ai) (a:List ai):nrm (iT t a)=.mk t.op t.r t.mn t.mx t.lz t.cap a.length (a.map nrm):=by grind [iT,nrm,gB]
theorem K9 (t:ai):nrm (byD t)=nrm (byD (nrm t)):=by
 unfold byD;rw[l_];split
 ·unfold Ib;rw[nj,NB]
  match fq t.af with
  | []=>rfl
  | [k]=>exact(n9 k).symm
  | a::b::l=>
   show nrm (iT t (a::b::l))=nrm (iT (nrm t) ((a::b::l).map nrm))
   rw[jt,jt,sB,Za2,js t];rfl
 ·split
  ·unfold If;rw[nj,Is,Za2,K5]
   match iU (aG 4 t.af).length (aG 4 t.af) with
   | []=>show nrm (iT t [])=nrm (iT (nrm t) []);rw[jt,jt,js t];rfl
   | [k]=>exact(n9 k).symm
   | a::b::l=>
    show nrm (iT t (a::b::l))=nrm (iT (nrm t) ((a::b::l).map nrm))
    rw[jt,jt,sB,Za2,js t];rfl
  ·split
   ·unfold cS;rw[EM,l_,UW,EM,l_];have c:(nrm t).mn=t.mn/\(nrm t).mx=t.mx/\(nrm t).lz=t.lz/\(nrm t).cap=t.cap:=by rw[js];exact⟨rfl,rfl,rfl,rfl⟩
    have e2:eH (Km (uI (nrm t)))=eH (Km (uI t)):=by rw[js];cases t;rfl
    have d:eH (Km (nrm (bH t)))=eH (Km (bH t)):=by rw[js];rfl
    rw[c.1,c.2.1,e2,d];split
    ·grind [n9]
    ·split
     ·grind [n9]
     ·split
      ·rfl
      ·split
       ·unfold D9;generalize bH t=k;rw[nrm,nrm,js k];simp only[ai.op,ai.r,ai.mx,ai.mn,ai.lz,ai.cap,ai.af,gB,sB,Za2]
       ·have e:∀u,nrm (uI u)=.mk u.op u.r u.mn u.mx (u.lz&&decide (u.mn≠u.mx)) u.cap u.af.length (u.af.map nrm):=λu=>by unfold uI;rw[nrm,gB]
        grind [l_,US,nj,sB]
   ·grind [n9]
theorem uk {op:Int} (h:∀k∈l,ef k):∀k∈aG op l,ef k:=λt ht=>by
 grind [aG,kD]
theorem It (r:List Rg):ef (pb r):=by
 grind [pb,ef,uj]
theorem um:∀(l o:List ai),(∀k∈o,ef k)->(∀k∈l,ef k)->∀k∈bK o l,ef k
 | [],o,h,_=>by assumption
 | a::l,o,h,h2=>by
  rw[bK];refine um l _ (λk hk=>?_) λk hk=>h2 k (ZaU _ hk)
  grind [dC,It]
def ND (h:∀k∈l,ef k):∀k∈j_ l,ef k:=by
 rw[<-vN];exact um _ _ (λk hk=>nomatch hk) λk hk=>h k ((nV l []).subset hk)
theorem yd:∀(n:Nat) (l:List ai),(∀k∈l,ef k)->∀k∈jN n l,ef k
 | 0,l,h=>h
 | n+1,l,h=>by
  rw[jN];split
  ·exact h
  ·exact yd n _ (ND h)
theorem uo:∀(l o:List ai),(o≠[]\/l≠[])->bK o l≠[]
 | [],o,h=>by grind [bK]
 | a::l,o,_=>by
  rw[bK];refine uo l _ (.inl ?_);unfold dC;split
  ·simp_all
  ·simp
theorem NF (h:l≠[]):j_ l≠[]:=by
 rw[<-vN];refine uo _ _ (.inr ?_);cases l with
 | nil=>exact absurd rfl h
 | cons a l=>rw[e_];simp
theorem ye:∀(n:Nat) (l:List ai),l≠[]->jN n l≠[]
 | 0,l,h=>h
 | n+1,l,h=>by
  rw[jN];split
  ·exact h
  ·exact ye n _ (NF h)
theorem EN (b:∀k∈l,ef k) (h:l≠[]):aG 4 l≠[]:=by
 cases l with
 | nil=>exact absurd rfl h
 | cons a l=>
  have c:=(kD a).mp (b a Za8);unfold aG;rw[Zbt];split
  ·simp_all
  ·simp
theorem yf {op:Int} (h:∀k∈l,ef k) (c:op=3->∀k∈l,k.op≠1):ef (ic op l):=by
 match l,h,c with
 | [],_,_=>rw[ic,ef,uj];exact⟨λh=>absurd h (by decide),λh=>absurd h (by decide),trivial⟩
 | [k],h,_=>exact h k (by simp)
 | a::b::l,h,c=>
  grind [ic,ef,AI]
theorem UX {t:ai} (hk:0<t.af.length) (a:t.op=5) (h:∀k∈t.af,ef k):ef (cS t):=by
 have K:ef (bH t):=by grind [bH]
 unfold cS;split
 ·exact K
 ·split
  ·exact K
  ·split
   ·grind [ef,uj]
   ·split
    ·rw[kD] at K ⊢;exact K
    ·rw[kD];exact⟨λe=>absurd (a.symm.trans e) (by decide),λe=>absurd (a.symm.trans e) (by decide),h⟩
theorem Z_ {t:ai} (hw:M8 ⟨t.op,t.r,t.mn,t.mx,t.lz,t.cap,t.af.length⟩) (hk:∀k∈t.af,ef k):nrm (byD t)=nrm (xL t)/\ef (xL t):=by
 have i:t.op=3\/t.op=4->t.r=[]/\t.mn=0/\t.mx=0/\t.lz=false/\t.cap=0:=λh=>by
  obtain⟨g,p⟩:=hw;grind [cj,MA]
 have o:∀{op:Int} {n:List ai},t.op=op->(op=3\/op=4)->nrm (iT t n)=nrm (.mk op [] 0 0 false 0 0 n):=λh j=>by
  grind [jt,nrm,gB]
 unfold byD xL;by_cases e:t.op=3
 ·rw[Zac e,Zac e];have f:∀k∈gX (aG 3 t.af),ef k:=λk c=>uk hk k (List.mem_filter.mp c).1
  constructor
  ·unfold Ib D6;rw[UR hk]
   match gX (aG 3 t.af) with
   | []=>rfl
   | [k]=>rfl
   | a::b::l=>exact o e (.inl rfl)
  ·unfold D6;refine yf f λ_ k c=>?_
   have:=(List.mem_filter.mp c).2;grind [vF]
 ·rw[Zaa e,Zaa e];by_cases d:t.op=4
  ·rw[Zac d,Zac d];have j:t.af≠[]:=by
    have:=hw.ay d;grind
   have f:=yd (aG 4 t.af).length _ (uk (op:=4) hk);have hs:=ye (aG 4 t.af).length _ (EN hk j);constructor
   ·unfold If BV;rw[KZ _ _ (Zah _)];generalize jN (aG 4 t.af).length (aG 4 t.af)=L at hs
    match L,hs with
    | [k],_=>rfl
    | a::b::l,_=>exact o d (.inr rfl)
   ·exact yf f λh=>absurd h (by decide)
  ·rw[Zaa d,Zaa d];by_cases m:t.op=5
   ·rw[Zac m];have:=(hw.rep m).1;grind [UX]
   ·grind [kD]
mutual
noncomputable def fa:ai->ai
 | .mk op r mn mx lz cap nk ks=>byD (.mk op r mn mx lz cap nk (cT ks))
noncomputable def cT:List ai->List ai
 | []=>[]
 | t::l=>fa t::cT l
end
mutual
theorem AJ:∀t:ai,kA t->nrm (fa t)=nrm (ka t)/\ef (ka t)
 | .mk op r mn mx lz cap nk ks,h=>by
  rw[kA] at h
  obtain⟨i1,i2⟩:=rf ks h.2.2
  have hl:=pW ks
  obtain⟨b1,b2⟩:=Z_ (t:=.mk op r mn mx lz cap nk (dp ks)) (by simp only[ai.af];rw[hl];exact h.1) i2
  rw[fa,ka]
  refine⟨?_,b2⟩
  rw[<-b1,K9,K9 (.mk op r mn mx lz cap nk (dp ks))]
  have:nrm (.mk op r mn mx lz cap nk (cT ks))=nrm (.mk op r mn mx lz cap nk (dp ks)):=by
   rw[nrm,nrm,gB,gB,i1]
   have:=ZaR List.length i1
   rw[Za2,Za2] at this
   rw[this]
  rw[this]
theorem rf:∀l:List ai,na l->(cT l).map nrm=(dp l).map nrm/\∀k∈dp l,ef k
 | [],_=>⟨by rw[cT,dp],λk hk=>by rw[dp] at hk;cases hk⟩
 | t::l,h=>by
  rw[na] at h
  obtain⟨a1,a2⟩:=AJ t h.1
  obtain⟨b1,b2⟩:=rf l h.2
  rw[cT,dp]
  refine⟨by rw[Zbl,Zbl,a1,b1],λk hk=>?_⟩
  rcases List.mem_cons.mp hk with e | e
  ·rw[e];exact a2
  ·exact b2 k e
end
def AK {t:ai} (h:kA t):aE (fa t)=aE (ka t):=(x_ _ _).mpr (AJ t h).1
end
end sx
namespace sx
open Go Go.RowKit cls syn sl
noncomputable abbrev H0:Hp D:=λt=>cy [] t
structure Qs (F:List Nat) (M:Pm D) (w:World) (M':Pm D) (w':World):Prop where
 le:Le M M'
 fJ:dX M' H0 w'
 pl:∀b,M'.pl b=M.pl b
 sb:∀b o,M'.sg b o≠none->M.sg b o≠none\/w.heap.size<=b\/b∈F
 size:w.heap.size<=w'.heap.size
 aR:∀c,c<w.heap.size->c ∉ F->w'.heap[c]?=w.heap[c]?
 os:w'.os=w.os
 tape:w'.tape=w.tape
 output:w'.output=w.output
variable {F F':List Nat} {M M' M'':Pm D} {w w' w'':World}
theorem Qs.refl (h:dX M H0 w):Qs F M w M w:=⟨lY M,h,λ_=>rfl,λ_ _ h=>.inl h,Zah _,λ_ _ _=>rfl,rfl,rfl,rfl⟩
theorem Qs.trans (h:Qs F M w M' w') (k:Qs F' M' w' M'' w'') (a:∀c∈F',c∈F\/w.heap.size<=c):Qs F M w M'' w'' where
 le:=⟨λb m e=>k.le.1 b m (h.le.1 b m e),λb o v e=>k.le.2 b o v (h.le.2 b o v e)⟩
 fJ:=k.fJ
 pl b:=(k.pl b).trans (h.pl b)
 sb b o e:=by
  rcases k.sb b o e with e | e | e
  ·exact h.sb b o e
  ·exact .inr (.inl (Zav h.size e))
  ·grind
 size:=Zav h.size k.size
 aR c hc hn:=(k.aR c (ZbB hc h.size) λe=>(a c e).elim hn λh=>ω).trans (h.aR c hc hn)
 os:=k.os.trans h.os
 tape:=k.tape.trans h.tape
 output:=k.output.trans h.output
theorem Qs.FM (a:cP H0 M w H0 M' w' 0 0):Qs F M w M' w' where
 le:=⟨λb m e=>(a.ext b ω).trans e,a.Jn⟩
 fJ:=a.fJ
 pl b:=a.ext b ω
 sb b o e:=by
  rcases a.lK b o e with e | e | ⟨c,f,d,h1,_⟩
  ·grind
  ·omega
  ·cases h1
 size:=a.size
 aR c hc _:=a.aR c hc λ⟨c,f,d,h1,_⟩=>by cases h1
 os:=a.os
 tape:=a.tape
 output:=a.output
def Qs.Qjh (h:dX M H0 w) (hs:w.heap.size<=w'.heap.size) (g:w'.os=w.os) (ht:w'.tape=w.tape) (hu:w'.output=w.output) (hk:∀c,c<w.heap.size->c ∉ F->w'.heap[c]?=w.heap[c]?) (f:∀c∈F,D.ng<=c/\∀o,M.sg c o=none):Qs F M w M w':=
 ⟨lY M,⟨λb o e=>(by cases e),λ_ _ _ _ _ _ e=>(by cases e),λb o v e=>let ⟨i,k,d,j⟩:=h.gL b o v e;⟨i,k,(gi (hk b (h.slt e) λa=>by rw[(f b a).2] at e;cases e)).trans d,j⟩,λ_ _ _ e=>(by cases e),λ_ _ _ _ _ e=>(by cases e),
  ⟨Zav h.mb.1.1 hs,D.gst _ _ (λc d=>hk c (ZbB d h.mb.1.1) λa=>by have:=(f c a).1;omega) h.mb.1.2⟩,λ_ _ _ e=>(by cases e)⟩,λ_=>rfl,λ_ _ h=>.inl h,hs,hk,g,ht,hu⟩
theorem Qs.gL {g:Nat} {ys:List ai} (h:dX M H0 w) (j:∀o,M.sg g o=none) (m:g∈F)
  (f:∀i v,(aY (D:=D) 15 ys)[i]?=some v->∃a,w.cell? ⟨g,i,none⟩=some a/\VR M v a):Qs F M w ⟨M.pl,db M.sg g 0 (aY 15 ys)⟩ w:=by
 have hle:Le M ⟨M.pl,db M.sg g 0 (aY 15 ys)⟩:=⟨λ_ _ h=>h,kK λq _ _=>j q⟩;refine⟨hle,⟨λb o e=>(by cases e),λ_ _ _ _ _ _ e=>(by cases e),λb q v e=>?_,λ_ _ _ e=>(by cases e),λ_ _ _ _ _ e=>(by cases e),⟨h.mb.1,λ_ _ _ e=>(by cases e)⟩⟩,λ_=>rfl,λb q e=>?_,Zah _,λ_ _ _=>rfl,rfl,rfl,rfl⟩
 ·replace e:db M.sg g 0 (aY 15 ys) b q=some v:=e;unfold db at e;split at e
  ·rename_i d
   obtain⟨rfl,h1,l⟩:=d;obtain⟨a,c,e2⟩:=f _ v e;rw[Zdp] at c;exact⟨(dY gb (ZaJ e)).2,a,c,e2.mono hle⟩
  ·obtain⟨k,a,c,e2⟩:=h.gL b q v e;exact⟨k,a,c,e2.mono hle⟩
 ·grind [mr]
theorem UY {a:Value} {l:List E8} {ys:List ai} (h:dX M H0 w) (p:qp w a l) (m:LR M (aY (D:=D) 15 ys) (flat e8 l)) (j:∀c∈gZ a,∀o,M.sg c o=none) (hl:l.length=ys.length):∃f,Qs (gZ a) M w f w/\VR f (.list 15 ys) a:=by
 rcases p.2 with⟨rfl,d⟩ | ⟨g,cap,aT,rfl,d,q,r,k,s,t⟩
 ·rw[hl] at d;rw[Zap d];exact⟨M,.refl h,.dW⟩
 ·have n:gZ (.slice (some ⟨g,0,none⟩) l.length cap)=[g]:=rfl;rw[n] at j ⊢;refine⟨_,Qs.gL (ys:=ys) h (j g (ZaI.2 rfl)) (ZaI.2 rfl) λi v e=>?_,?_⟩
  ·obtain⟨y,u,x⟩:=m.get e;grind [World.cell?]
  ·rw[hl];exact VR.list (b:=g) (o:=0) (cx.add gb) (show ys.length<=9223372036854775807 by unfold maxLen at k;omega) (show ys.length<=cap by omega)
theorem AL:∀l:List ai,(fq l).length<=(aB l).length
 | []=>Zaj _
 | k::l=>by
  have h:=AL l;grind [eB,bU,fq,tk]
theorem n':∀l:List ai,(cT l).length=l.length
 | []=>by rw[cT]
 | t::l=>by rw[cT,Zae,n' l,Zae]
def Qji {op:Int} {r:List Rg} {mn mx:Int} {lz:Bool} {cap:Int} {a:List ai} (hw:kA (.mk op r mn mx lz cap (a.length:Int) a)) (ht:dG (.mk op r mn mx lz cap (a.length:Int) a)):
  (op=3->Ic.pre (.mk op r mn mx lz cap (a.length:Int) (cT a)))/\(op=4->Ig.pre (.mk op r mn mx lz cap (a.length:Int) (cT a)))/\(op=5->Ih.pre (.mk op r mn mx lz cap (a.length:Int) (cT a))):=by
 have hi:=(jA _).mp (Ei _ hw);have hk:=ht.af;obtain⟨o,b⟩:=nR a hi.2 ⟨Zah _,hk.2⟩;rw[kA] at hw;obtain⟨j,v⟩:=rf a hw.2.2;have e:aB (cT a)=aB (dp a):=by rw[<-qe,gB,j,<-gB,qe]
 rw[<-e] at b;have hl:=n' a;have i:dM (cT a):=⟨Zav b.1 hk.1,b.2⟩;have m:a.length<=1000000:=hk.len;refine⟨λ_=>⟨by show(cT a).length<=_;omega,Zav (AL _) i.1⟩,λ_=>⟨by show(cT a).length<=_;omega,?_⟩,λh=>⟨?_,h⟩⟩
 ·have:=m_ 4 _ _ b;exact⟨Zav this.1 hk.1,this.2⟩
 ·obtain⟨b1,k⟩:=hi.1 h;have b1:1<=a.length:=b1;have c:0<(cT a).length:=ω;refine⟨by show 1<=(cT a).length;omega,i.get c,k,λl=>?_⟩;have d:0<(dp a).length:=by rw[pW];omega
  have f:nrm ((cT a).getD 0 bD)=nrm ((dp a).getD 0 bD):=by rw[<-yc,j,yc]
  have g:si ((dp a).getD 0 bD):=by rw[eG d];exact(kj _).mp o _ (Zas _)
  have n:((dp a).getD 0 bD).op=5:=by rw[<-l_,<-f,l_];exact l
  obtain⟨c1,c2⟩:=((jA _).mp g).1 n;rw[js,js] at f;injection f with p q s t u n6 n7 n8
  refine⟨?_,?_⟩
  ·show 0<=((cT a).getD 0 bD).mn
   omega
  ·show 1<=((cT a).getD 0 bD).af.length
   omega
end sx
namespace sx
open Go Go.RowKit cls syn sl
set_option maxRecDepth 100000
theorem UZ {w:World} {g n c k:Nat} {ld lr:List E8} {x:E8} (h:qp w (.slice (some ⟨g,0,none⟩) n c) (ld++x::lr)) (b:(ld++x::lr).length=n) (hk:ld.length=k):
  (∀j u,j<8->x.1[j]?=some u->w.cell? ⟨g,k*8+j,none⟩=some u)/\(∀o,w.frozen? ⟨g,o,none⟩=false)/\g<w.heap.size:=by
 subst b;subst hk;refine⟨λj u a e=>(h.cellAt rfl HR (i:=ld.length) (x:=x) (by simp) a e).1,λo=>World.ownsRow.frozenAt h o,?_⟩;obtain⟨f,d,e,_,l,_⟩:=h.form (by simp);grind
noncomputable def EO (l:List ai):List (AV D.E):=l.flatMap λt:ai=>D.ba 15 t
structure SL (M:Pm D) (w:World) (ks:List ai) (G:List Nat) (kv:Value) (k:Nat) (wr:World) (Mk:Pm D) (ld lr:List E8) (Gr:List Nat):Prop where
 own:qp wr kv (ld++lr)
 len:ld.length=k
 rows:LR Mk (EO ((cT ks).take k)) (flat e8 ld)
 af:KA Mk wr (ks.drop k) lr Gr
 sub:∃Gd,G=Gd++Gr
 un:∀c∈gZ kv++Gr,∀o,Mk.sg c o=none
 un2:∀o,Mk.sg (w.heap.size+1) o=none
 qs:Qs (gZ kv++G) M w Mk wr
abbrev AM (w:World) (b o:Nat) (a c d v3 e v5 f g:Value):World:=(((((((w.setCell ⟨b,o,none⟩ a).setCell ⟨b,o+1,none⟩ c).setCell ⟨b,o+2,none⟩ d).setCell ⟨b,o+3,none⟩ v3).setCell ⟨b,o+4,none⟩ e).setCell ⟨b,o+5,none⟩ v5).setCell ⟨b,o+6,none⟩ f).setCell ⟨b,o+7,none⟩ g
variable {a c d Z e Y i g:Value} {w:World} {b o k:Nat} {M:Pm D} {X W:List E8}
def l3 (h:k≠b):(AM w b o a c d Z e Y i g).heap[k]?=w.heap[k]?:=by
 unfold AM;rw[kd h,kd h,kd h,kd h,kd h,kd h,kd h,kd h]
theorem δ {j:Nat} {x y:E8} (h:qp w (.slice (some ⟨b,0,none⟩) o k) (X++x::W)) (p:(X++x::W).length=o) (hk:X.length=j) (q:y.1=[a,c,d,Z,e,Y,i,g]):
  qp (AM w b (j*8) a c d Z e Y i g) (.slice (some ⟨b,0,none⟩) o k) (X++y::W):=by
 subst p;have s:=(World.ownsRow.stored (World.ownsRow.stored (World.ownsRow.stored (World.ownsRow.stored (World.ownsRow.stored (World.ownsRow.stored (World.ownsRow.stored (World.ownsRow.stored h (j*8) a).1 (j*8+1) c).1 (j*8+2) d).1 (j*8+3) Z).1 (j*8+4) e).1 (j*8+5) Y).1 (j*8+6) i).1 (j*8+7) g).1;have f:((((((((flat e8 (X++x::W)).set (j*8) a).set (j*8+1) c).set (j*8+2) d).set (j*8+3) Z).set (j*8+4) e).set (j*8+5) Y).set (j*8+6) i).set (j*8+7) g=flat e8 (X++y::W):=by
  obtain⟨l,hl,_⟩:=x;obtain⟨a0,l,rfl⟩:=ZaB (show l.length=7+1 from hl);obtain⟨r,l,rfl⟩:=ZaB (show l.length=6+1 by simpa using hl);obtain⟨a2,l,rfl⟩:=ZaB (show l.length=5+1 by simpa using hl);obtain⟨a3,l,rfl⟩:=ZaB (show l.length=4+1 by simpa using hl);obtain⟨a4,l,rfl⟩:=ZaB (show l.length=3+1 by simpa using hl);obtain⟨a5,l,rfl⟩:=ZaB (show l.length=2+1 by simpa using hl);obtain⟨t,l,rfl⟩:=ZaB (show l.length=1+1 by simpa using hl);obtain⟨u,l,rfl⟩:=ZaB (show l.length=0+1 by simpa using hl);obtain rfl:l=[]:=by simpa using hl
  have n:(flat e8 X).length=j*8:=by rw[nh HR,hk]
  have m:∀(z:E8),flat e8 (z::W)=z.1++flat e8 W:=λz=>rfl
  rw[jS,jS,m,m,q,<-n];simp_all
 grind [kb]
theorem jT:Below b w (AM w b o a c d Z e Y i g):=by
 unfold AM;have k:∀(W:World) (f:Nat) (v:Value),Below b w W->Below b w (W.setCell ⟨b,f,none⟩ v):=λW f v h=>h.setCell (Zah _) v
 grind [Below.refl]
def CJ {l:List (AV D.E)} {A:Array Value} (h:VR M (.agg l) (.agg A)):LR M l A.toList:=by
 cases h with | agg h1 a=>exact⟨h1,a⟩
theorem Iu (l:List ai):cT l=l.map fa:=by
 induction l with
 | nil=>rw[cT];rfl
 | cons t l a=>rw[cT,a];rfl
theorem SL.round {v:List ai} {G:List Nat} {I:Nat} {wr:World} {C s:Pm D} {j m:List Nat} {U:E8} {O:World} {T:ai}
  (h:SL M w v G (.slice (some ⟨b,0,none⟩) o k) I wr C X (U::W) (j++m)) (S:KA C wr (v.drop (I+1)) W m) (hk:v[I]?=some T) (hn:(X++U::W).length=o)
  (z:(gZ (.slice (some ⟨b,0,none⟩) o k)++G).Nodup) (lr:∀N∈gZ (.slice (some ⟨b,0,none⟩) o k)++G,D.ng<=N/\N<w.heap.size) (hs:w.heap.size+2<=wr.heap.size)
  (t:Qs j C wr s O) (hv:VR s (.agg (D.ba 15 (fa T))) (.agg #[a,c,d,Z,e,Y,i,g])) (h1:∀u∈[a,c,d,Z,e,Y,i,g],u.oneCell'):
  SL M w v G (.slice (some ⟨b,0,none⟩) o k) (I+1) (AM O b (I*8) a c d Z e Y i g) s (X++[⟨[a,c,d,Z,e,Y,i,g],rfl,h1⟩]) W m:=by
 have H:gZ (.slice (some ⟨b,0,none⟩) o k)=[b]:=rfl;obtain⟨ld,Q⟩:=h.sub;rw[H] at z lr;have r:=h.un;rw[H] at r;have J:=List.nodup_cons.1 (show(b::G).Nodup from z);have l:∀N∈j++m,N∈G:=λN H=>by rw[Q];exact ZaC _ H
 have y:b ∉ j:=λK=>J.1 (l b (Zay _ K))
 have P:(j++m).Nodup:=by rw[Q] at J;exact(ZbR.1 J.2).2.1
 have p:∀N∈m,N ∉ j/\N≠b:=λN H=>⟨λK=>(ZbR.1 P).2.2 N K N H rfl,λK=>J.1 (by rw[<-K];exact l N (ZaC _ H))⟩
 have q:∀N∈[b]++(j++m),D.ng<=N/\N<w.heap.size:=λN H=>lr N ((Zax.1 H).elim (λh=>Zay _ h) λh=>ZaC _ (l N h))
 have R:=q b (by simp);have L:∀N,N<wr.heap.size->N ∉ j->(∀n,C.sg N n=none)->∀n,s.sg N n=none:=λN h1 v3 E n=>by
  cases K:s.sg N n with
  | none=>rfl
  | some u=>
   rcases t.sb N n (by rw[K];simp) with V | V | V
   ·grind
   ·omega
   ·grind
 have B:qp O (.slice (some ⟨b,0,none⟩) o k) (X++U::W):=ni h.own λN f hl=>t.aR N hl (by rw[H,ZaI] at f;rw[f];exact y)
 have x:=L b ω y λn=>r b (by simp) n
 have A:Qs ([b]++G) M w s O:=(h.qs).trans t λN H=>.inl (ZaC _ (l N (Zay _ H)))
 refine⟨?_,by simp[h.len],?_,qb t.le _ _ _ S λN H hl=>(l3 (p N H).2).trans (t.aR N hl (p N H).1),⟨ld++j,by rw[Q,ZaD]⟩,λN f=>?_,L _ ω (λK=>by have:=(q _ (ZaC _ (Zay _ K))).2;omega) h.un2,?_⟩
 ·rw[ZaD];exact δ B hn h.len rfl
 ·have v5:EO ((cT v).take (I+1))=EO ((cT v).take I)++D.ba 15 (fa T):=by
   rw[Zcr,Iu,Zbk,hk];simp[EO]
  rw[v5,jS];refine(h.rows.mono t.le).app ?_;obtain⟨j1,j2⟩:=CJ hv;exact⟨j1,j2⟩
 ·rw[H] at f;have v3:=q N ((Zax.1 f).elim (λh=>Zay _ h) λh=>ZaC _ (ZaC _ h));rcases Zax.1 f with E | E
  ·grind
  ·exact L N ω (p N E).1 λn=>r N (by simp[E]) n
 ·refine A.trans (Qs.Qjh (F:=[b]) A.fJ jT.size jT.os jT.tape jT.output (λN _ H=>l3 (by simpa using H)) λN H=>by rw[ZaI.1 H];exact⟨R.1,x⟩) λN H=>.inl (Zay _ H)
theorem EP {T:ai} (h:VR M (.agg (D.ba 15 T)) a):∃(sa:Option Addr) (f e:Nat) (g:Option Addr) (un i:Nat),a=.agg #[.int .i64 T.op,.slice sa f e,.int .i64 T.mn,.int .i64 T.mx,.bool T.lz,.int .i64 T.cap,.int .i64 T.nk,.slice g un i]:=by
 cases h with | @agg _ A h1 d=>?_
 obtain⟨l⟩:=A;have h:LR M (D.ba 15 T) l:=⟨h1,d⟩;cases T;obtain⟨j,l,rfl,a0,h⟩:=h.aP;obtain⟨k,l,rfl,v,h⟩:=h.aP;obtain⟨m,l,rfl,a2,h⟩:=h.aP;obtain⟨v3,l,rfl,a3,h⟩:=h.aP;obtain⟨n,l,rfl,a4,h⟩:=h.aP;obtain⟨v5,l,rfl,a5,h⟩:=h.aP;obtain⟨o,l,rfl,b,h⟩:=h.aP;obtain⟨p,l,rfl,c,h⟩:=h.aP;obtain rfl:=h.jD;obtain rfl:=fF a0;obtain⟨_,_,_,rfl⟩:=AA v;obtain rfl:=fF a2;obtain rfl:=fF a3;obtain rfl:=nU a4;obtain rfl:=fF a5;obtain rfl:=fF b;obtain⟨_,_,_,rfl⟩:=AA c;grind
abbrev z8:Array Value:=#[.int .i64 0,.slice none 0 0,.int .i64 0,.int .i64 0,.bool false,.int .i64 0,.int .i64 0,.slice none 0 0]
theorem vO {F:List Nat} {M a:Pm D} {w j:World} {T:ai} {d e f v3 g v5 h i:Value} (k:Qs F M w a j) (hz:j.heap[w.heap.size+1]?=some (.cells z8 221 (0,0))) (n:∀o,a.sg (w.heap.size+1) o=none) (m:D.ng<=w.heap.size)
  (l:VR a (.agg (D.ba 15 T)) (.agg #[d,e,f,v3,g,v5,h,i])):
  ∃W,W=(((((((j.setCell ⟨w.heap.size+1,0,none⟩ d).setCell ⟨w.heap.size+1,1,none⟩ e).setCell ⟨w.heap.size+1,2,none⟩ f).setCell ⟨w.heap.size+1,3,none⟩ v3).setCell ⟨w.heap.size+1,4,none⟩ g).setCell ⟨w.heap.size+1,5,none⟩ v5).setCell ⟨w.heap.size+1,6,none⟩ h).setCell ⟨w.heap.size+1,7,none⟩ i/\Qs F M w a W/\
   (loadVar 221 ⟨w.heap.size+1,0,none⟩).run prog W=.ok (.agg #[d,e,f,v3,g,v5,h,i]) W:=by
 refine⟨_,rfl,k.trans (Qs.Qjh (F:=[w.heap.size+1]) k.fJ lj.size lj.os lj.tape lj.output (λb _ c=>xW (by simpa using c)) λb c=>?_) λb c=>.inr (by rw[ZaI.1 c];omega),?_⟩
 ·grind
 ·exact run_loadVar_row (P:=prog) _ (w.heap.size+1) _ 221 _ _ _ (AB hz rfl) Tryz.underlying221 rfl (by kernel_rfl)
theorem yg {f:FuncId} {yn:List (AV D.E)->St D.E->C ai} {pre:ai->Prop} {res:ai->ai} (h:Ok (bP f ai yn pre (λy=>[.agg (D.ba 15 y)]) λy=>.agg (D.ba 15 (res y)))) {y:ai} (p:pre y) {M:Pm D} {w:World} {A:Array Value} {a:Nat} (n:dX M H0 w) (o:TF M 0)
  (m:VR M (.agg (D.ba 15 y)) (.agg A)) (hz:w.heap[a]?=some (.cells z8 221 (0,0))):
  Calls prog f #[.agg A] w λe b=>∃(k:Pm D) (sa:Option Addr) (d c:Nat) (g:Option Addr) (un i:Nat),
   e=.returned (.agg #[.int .i64 (res y).op,.slice sa d c,.int .i64 (res y).mn,.int .i64 (res y).mx,.bool (res y).lz,.int .i64 (res y).cap,.int .i64 (res y).nk,.slice g un i])/\
   VR k (.agg (D.ba 15 (res y))) (.agg #[.int .i64 (res y).op,.slice sa d c,.int .i64 (res y).mn,.int .i64 (res y).mx,.bool (res y).lz,.int .i64 (res y).cap,.int .i64 (res y).nk,.slice g un i])/\
   Qs [] M w k b/\b.heap[a]?=some (.cells z8 221 (0,0))/\(∀j,b.cell? ⟨a,j,none⟩=z8[j]?)/\∀j,b.frozen? ⟨a,j,none⟩=false:=by
 refine h.2 y p M #[.agg A] w (.cons m .nil) n o _ λl u t r hs=>?_
 obtain⟨sa,d,c,g,un,i,rfl⟩:=EP r;have q:Qs [] M w l t:=Qs.FM hs;have s:=(q.aR a (B_ hz) (by simp)).trans hz;grind [iS,KI]
set_option maxHeartbeats 4000000 in
theorem Qd1 (g1:Ok Ic) (g2:Ok Ig) (g3:Ok Ih):∀(n:Nat) (t:ai) (x:E8) (F:List Nat) (M:Pm D) (w:World),(aE t).length<=n->kA t->dG t->TA M w t x F->F.Nodup->(∀c∈F,D.ng<=c/\∀o,M.sg c o=none)->dX M H0 w->TF M 0->
  Calls prog 131 #[.agg x.1.toArray] w λe w'=>∃M' v',e=.returned v'/\VR M' (.agg (D.ba 15 (fa t))) v'/\Qs F M w M' w':=by
 intro n
 induction n with
 | zero=>
  intro t x F M w h
  cases t
  grind [aE]
 | succ n ih=>
  intro t x F M w hn hw ht E C hF hS hT
  obtain⟨op,r,mn,mx,lz,cap,nk,a⟩:=t
  have H:=hw
  rw[kA] at hw
  obtain⟨_,rfl,hks⟩:=hw
  replace H:=Qji H ht
  rw[aE] at hn
  rw[TA] at E
  obtain⟨vr,kv,l,G,hx,hvr,Y,ho,rfl,q⟩:=E
  obtain⟨ra,rn,rc,rfl⟩:=AA hvr
  have hll:=HS q
  obtain⟨S,L,rfl,hrd,_⟩:=ho.rd
  rw[hll] at ho hF C hx ⊢
  rw[hx]
  have hL:a.length<=1000000:=ht.af.len
  have T:Hid (∀b∈gZ (.slice S a.length L)++G,D.ng<=b/\b<w.heap.size):=Lib.hid λb hb=>⟨(hF b hb).1,(Zax.1 hb).elim (vI ho b) (Uc _ _ _ q b)⟩
  have H1:=Lib.hid hx
  have H2:=Lib.hid ho
  have H3:=Lib.hid q
  have H4:=Lib.hid C
  have H5:=Lib.hid hF
  have H6:=Lib.hid H
  have H7:=Lib.hid ht
  have H8:=Lib.hid hll
  clear hx ho q C hF H ht hll hrd
  go_enter Tryz.func131,Tryz.ntmps131
  go_wp2_with fail
  have hzs:w.heap.size<w.heap.size+2:=ω
  go_loopg [3] a.length (λg i wr=>∃(k:Nat) (ld lr:List E8) (Gr:List Nat) (Mk:Pm D),k<=a.length/\g=a.length-k/\i=.int .i64 k/\
   wr.heap[w.heap.size]?=some (.cells #[.int .i64 op,.slice ra rn rc,.int .i64 mn,.int .i64 mx,.bool lz,.int .i64 cap,.int .i64 a.length,.slice S a.length L] 221 (0,0))/\
   wr.heap[w.heap.size+1]?=some (.cells #[.int .i64 0,.slice none 0 0,.int .i64 0,.int .i64 0,.bool false,.int .i64 0,.int .i64 0,.slice none 0 0] 221 (0,0))/\
   w.heap.size+2<=wr.heap.size/\SL M w a G (.slice S a.length L) k wr Mk ld lr Gr)
  case atStart=>
   refine⟨0,[],l,G,M,ω,rfl,rfl,?_,?_,by simp,?_⟩
   ·grind [Below.heap_alloc,heap_alloc_new]
   ·exact sr (by simp) _
   ·have hB:=((Below.refl w.heap.size w).alloc (Zah _) (.cells #[.int .i64 op,.slice ra rn rc,.int .i64 mn,.int .i64 mx,.bool lz,.int .i64 cap,.int .i64 a.length,.slice S a.length L] 221)).alloc (by simp) (.cells #[.int .i64 0,.slice none 0 0,.int .i64 0,.int .i64 0,.bool false,.int .i64 0,.int .i64 0,.slice none 0 0] 221)
    refine⟨ni H2.out λb _ hl=>hB.block b hl,rfl,⟨rfl,λi v v' e=>(by simp[EO] at e)⟩,qb (lY M) _ _ _ H3.out λb _ hl=>hB.block b hl,⟨[],rfl⟩,λc p=>(H5.out c p).2,λo=>?_,Qs.FM (jm hS hB 0)⟩
    cases e:M.sg (w.heap.size+1) o with
    | none=>rfl
    | some u=>have:=hS.slt e;omega
  case round=>
   obtain⟨k,ld,lr,Gr,Mk,hk,rfl,rfl,X,hz,dd,qG⟩:=hrel
   have d7:wr.cell? ⟨w.heap.size,7,none⟩=some (.slice S a.length L):=iS X 7
   have d0:wr.cell? ⟨w.heap.size,0,none⟩=some (.int .i64 op):=iS X 0
   have H9:=Lib.hid X
   have B:=Lib.hid hz
   have d:=Lib.hid qG
   have H12:=Lib.hid hks
   clear X hz qG hks
   by_cases Z:k<a.length
   ·obtain⟨f,P⟩:∃f,a[k]?=some f:=⟨_,Zaf Z⟩
    have hdk:a.drop k=f::a.drop (k+1):=by rw[Zaq Z,(Zam.1 P).2]
    have q:=d.out.af
    rw[hdk,KA] at q
    obtain⟨x1,lr',F1,F2,rfl,rfl,E,q⟩:=q
    obtain⟨g,kc',ek,_,hgl,_⟩:=d.out.own.form (by simp)
    have s:(ld++x1::lr').length=a.length:=by
     grind
    rw[s] at ek
    cases ek
    obtain⟨qa,qn,qc,pa,pn,pc,ex⟩:=xV E
    have hgw:g<w.heap.size:=vI H2.out g (ZaI.2 rfl)
    have hgn:g≠w.heap.size:=ω
    have hgm:w.heap.size≠g:=ω
    obtain⟨m,hfz,_⟩:=UZ d.out.own s d.out.len
    have hcall:Calls prog 131 #[.agg #[.int .i64 f.op,.slice qa qn qc,.int .i64 f.mn,.int .i64 f.mx,.bool f.lz,.int .i64 f.cap,.int .i64 f.nk,.slice pa pn pc]] wr.drew λe A=>∃(M1:Pm D) (sa:Option Addr) (sn sc:Nat) (ua:Option Addr) (un uc:Nat),
      e=.returned (.agg #[.int .i64 (fa f).op,.slice sa sn sc,.int .i64 (fa f).mn,.int .i64 (fa f).mx,.bool (fa f).lz,.int .i64 (fa f).cap,.int .i64 (fa f).nk,.slice ua un uc])/\
      VR M1 (.agg (D.ba 15 (fa f))) (.agg #[.int .i64 (fa f).op,.slice sa sn sc,.int .i64 (fa f).mn,.int .i64 (fa f).mx,.bool (fa f).lz,.int .i64 (fa f).cap,.int .i64 (fa f).nk,.slice ua un uc])/\
      Qs F1 Mk wr M1 A/\A.cell? ⟨w.heap.size,7,none⟩=some (.slice (some ⟨g,0,none⟩) a.length L)/\(A.cell? ⟨g,k*8,none⟩=some (.int .i64 f.op)/\A.cell? ⟨g,k*8+1,none⟩=some (.slice qa qn qc)/\A.cell? ⟨g,k*8+2,none⟩=some (.int .i64 f.mn)/\A.cell? ⟨g,k*8+3,none⟩=some (.int .i64 f.mx)/\A.cell? ⟨g,k*8+4,none⟩=some (.bool f.lz)/\A.cell? ⟨g,k*8+5,none⟩=some (.int .i64 f.cap)/\A.cell? ⟨g,k*8+6,none⟩=some (.int .i64 f.nk)/\A.cell? ⟨g,k*8+7,none⟩=some (.slice pa pn pc))/\(∀o,A.frozen? ⟨g,o,none⟩=false)/\g<A.heap.size:=by
     have e1:(#[.int .i64 f.op,.slice qa qn qc,.int .i64 f.mn,.int .i64 f.mx,.bool f.lz,.int .i64 f.cap,.int .i64 f.nk,.slice pa pn pc]:Array Value)=x1.1.toArray:=by rw[ex]
     have hfl:aB a=aB (a.take k)++(aE f++aB (a.drop (k+1))):=by rw[<-eB,<-hdk,<-cD,ZaO]
     have htr:dG f:=by
      have:=H7.out.af.get Z
      rwa [show((ai.mk op r mn mx lz cap (a.length:Int) a).af.getD k bD)=f by show a.getD k bD=f;rw[eG Z];exact(Zam.1 P).2] at this
     obtain⟨Gd,U⟩:=d.out.sub
     have C:=H4.out
     rw[U] at C
     have hnF:=(ZbR.1 (ZbR.1 (ZbR.1 C).2.1).2.1).1
     have hgF:g ∉ F1:=λe=>(ZbR.1 C).2.2 g (ZaI.2 rfl) g (ZaC _ (Zay _ e)) rfl
     have hin1:∀c∈F1,D.ng<=c/\c<w.heap.size:=λc p=>T.out c (ZaC _ (by rw[U];exact ZaC _ (Zay _ p)))
     rw[e1]
     refine(ih f x1 F1 Mk wr.drew (by rw[Zae,hfl,Zab,Zab] at hn;omega) ((pY a).1 H12.out f (ZaJ P)) htr (vH (lY Mk) _ _ _ E λ_ _ _=>rfl) hnF (λc p=>⟨(hin1 c p).1,d.out.un c (ZaC _ (Zay _ p))⟩) (cP.u_ d.out.qs.fJ 0).fJ λb hb=>(d.out.qs.pl b).trans (hT b hb)).mono ?_
     rintro e A ⟨M1,v',rfl,hv,O⟩
     have hq':Qs F1 Mk wr M1 A:=⟨O.le,O.fJ,O.pl,O.sb,O.size,O.aR,O.os,O.tape,O.output⟩
     obtain⟨sa,sn,sc,ua,un,uc,rfl⟩:=EP hv
     have hown:qp A (.slice (some ⟨g,0,none⟩) a.length L) (ld++x1::lr'):=ni d.out.own λb hb' hl=>hq'.aR b hl (by rw[ZaI.1 hb'];exact hgF)
     obtain⟨r1,r2,r3⟩:=UZ hown s d.out.len
     refine⟨M1,sa,sn,sc,ua,un,uc,rfl,hv,hq',?_,⟨r1 0 _ ω (by rw[ex];rfl),r1 1 _ ω (by rw[ex];rfl),r1 2 _ ω (by rw[ex];rfl),r1 3 _ ω (by rw[ex];rfl),r1 4 _ ω (by rw[ex];rfl),r1 5 _ ω (by rw[ex];rfl),r1 6 _ ω (by rw[ex];rfl),r1 7 _ ω (by rw[ex];rfl)⟩,r2,r3⟩
     rw[iS ((hq'.aR w.heap.size ω λe=>by have:=(hin1 _ e).2;omega).trans H9.out)]
     rfl
    have c0:=m 0 _ ω (by rw[ex];rfl)
    have c1:=m 1 _ ω (by rw[ex];rfl)
    have c2:=m 2 _ ω (by rw[ex];rfl)
    have c3:=m 3 _ ω (by rw[ex];rfl)
    have c4:=m 4 _ ω (by rw[ex];rfl)
    have c5:=m 5 _ ω (by rw[ex];rfl)
    have c6:=m 6 _ ω (by rw[ex];rfl)
    have c7:=m 7 _ ω (by rw[ex];rfl)
    have b0:(0:Int)<=(k:Int):=ω
    have b1:(k:Int)<(a.length:Int):=ω
    have H13:=Lib.hid q
    have H14:=Lib.hid E
    have H15:=Lib.hid P
    have H16:=Lib.hid ex
    have H17:=Lib.hid s
    clear q E P m hdk s
    simp only[Zbn] at c0
    go_wp2_with fail
    go_region_with
     (first | (go_at_call 131;refine hcall.mono ?_;rintro e A ⟨M1,sa,sn,sc,ua,un,uc,rfl,hv1,hq1,m0,⟨e0,e1,e2,e3,e4,e5,e6,e7⟩,m2,m3⟩))
    all_goals
     go_wp2_with fail
     go_roundg (a.length-(k+1))
     case measure=>omega
     case rel=>
      have hF1:∀c,w.heap.size<=c->c ∉ F1:=λc p e=>by
       obtain⟨Gd,U⟩:=d.out.sub
       have:=(T.out c (ZaC _ (by rw[U];exact ZaC _ (Zay _ e)))).2
       omega
      refine⟨k+1,_,lr',F2,M1,ω,rfl,by go_num,?_,?_,?_,SL.round d.out H13.out H15.out H17.out H4.out T.out dd hq1 hv1 (by simp[Value.oneCell'])⟩
      ·exact(l3 hgm).trans ((hq1.aR _ ω (hF1 _ ω)).trans H9.out)
      ·exact(l3 ω).trans ((hq1.aR _ ω (hF1 _ ω)).trans B.out)
      ·exact Zav dd (Zav hq1.size jT.size)
   ·obtain rfl:k=a.length:=ω
    obtain⟨R,V,Qjj⟩:∃R,Qs (gZ (.slice S a.length L)) Mk wr R wr/\VR R (.list 15 (cT a)) (.slice S a.length L):=by
     have hk0:=d.out.af
     rw[ZbH,KA] at hk0
     obtain⟨rfl,rfl⟩:=hk0
     have ho:=d.out.own
     have hr:=d.out.rows
     rw[Zaw] at ho
     rw[ZaA (by rw[n'];exact Zah _)] at hr
     exact UY d.out.qs.fJ ho hr (λc p=>d.out.un c (Zay _ p)) (by rw[d.out.len,n'])
    have hq2:Qs (gZ (.slice S a.length L)++G) M w R wr:=d.out.qs.trans V λc p=>.inl (Zay _ p)
    have hu2:∀o,R.sg (w.heap.size+1) o=none:=λo=>by
     cases e:R.sg (w.heap.size+1) o with
     | none=>rfl
     | some u=>
      rcases V.sb _ o (by rw[e];simp) with K | K | K
      ·exact absurd (d.out.un2 o) K
      ·omega
      ·have:=(T.out _ (Zay _ K)).2;omega
    have hu3:∀(I:Pm D) (w3:World),Qs [] R wr I w3->∀o,I.sg (w.heap.size+1) o=none:=λI w3 O o=>by
     cases e:I.sg (w.heap.size+1) o with
     | none=>rfl
     | some u=>
      rcases O.sb _ o (by rw[e];simp) with K | K | K
      ·exact absurd (hu2 o) K
      ·omega
      ·cases K
    have hT2:TF R 0:=λb hb=>(hq2.pl b).trans (hT b hb)
    have hA:VR R (.agg (D.ba 15 (.mk op r mn mx lz cap (a.length:Int) (cT a)))) (.agg #[.int .i64 op,.slice ra rn rc,.int .i64 mn,.int .i64 mx,.bool lz,.int .i64 cap,.int .i64 a.length,.slice S a.length L]):=by
     simp only[ZaW] at Y
     obtain⟨⟨⟨⟨i0,i2⟩,i3⟩,i5⟩,i6⟩:=Y
     exact VR.CJ (.cons (.int i0) (.cons (hvr.mono hq2.le) (.cons (.int i2) (.cons (.int i3) (.cons (.bool lz) (.cons (.int i5) (.cons (.int i6) (.cons Qjj .nil))))))))
    have N':=hS.mb.1.1
    have hcb:∀j,wr.cell? ⟨w.heap.size,j,none⟩=(#[.int .i64 op,.slice ra rn rc,.int .i64 mn,.int .i64 mx,.bool lz,.int .i64 cap,.int .i64 a.length,.slice S a.length L]:Array Value)[j]?:=λj=>iS H9.out j
    have hcz:∀j,wr.cell? ⟨w.heap.size+1,j,none⟩=z8[j]?:=λj=>iS B.out j
    have hfz:∀j,wr.frozen? ⟨w.heap.size+1,j,none⟩=false:=KI B.out
    have I1:=Lib.hid V
    have I2:=Lib.hid hq2
    have I3:=Lib.hid hu2
    have I4:=Lib.hid hu3
    have I5:=Lib.hid hA
    have I6:=Lib.hid Y
    have I7:=Lib.hid hT2
    clear V hq2 hu2 hu3 hA Y Qjj hT2 hvr d0 d7
    have hD:fa (.mk op r mn mx lz cap (a.length:Int) a)=byD (.mk op r mn mx lz cap (a.length:Int) (cT a)):=by rw[fa]
    have I8:=Lib.hid hD
    clear hD
    by_cases h3:op=3
    ·subst h3
     have p:=yg g1 (H6.out.1 rfl) I2.out.fJ I7.out I5.out B.out
     have N:=I8.out.trans ((Zac rfl).trans (aJ (Ib _)).symm)
     have J:=Lib.hid N
     clear N
     go_wp2_with (go_at_call 187;go_must (refine p.mono ?_;rintro e w3 ⟨I,sa,sn,sc,ua,un,uc,rfl,z,y,Q,Qjk,Qjl⟩))
     obtain⟨W,hW,hQ,hl⟩:=vO (I2.out.trans y (λc p=>nomatch p)) Q (I4.out I w3 y) N' z
     rw[<-hW]
     refine bodyPost_ret (qd rfl _ rfl hl) rfl ⟨I,_,rfl,?_,hQ⟩
     rw[J.out]
     exact z
    ·by_cases K:op=4
     ·subst K
      have p:=yg g2 (H6.out.2.1 rfl) I2.out.fJ I7.out I5.out B.out
      have N:=I8.out.trans ((Zaa h3).trans ((Zac rfl).trans (aJ (If _)).symm))
      have J:=Lib.hid N
      clear N
      go_wp2_with (go_at_call 188;go_must (refine p.mono ?_;rintro e w3 ⟨I,sa,sn,sc,ua,un,uc,rfl,z,y,Q,Qjk,Qjl⟩))
      obtain⟨W,hW,hQ,hl⟩:=vO (I2.out.trans y (λc p=>nomatch p)) Q (I4.out I w3 y) N' z
      rw[<-hW]
      refine bodyPost_ret (qd rfl _ rfl hl) rfl ⟨I,_,rfl,?_,hQ⟩
      rw[J.out]
      exact z
     ·by_cases h5:op=5
      ·subst h5
       have p:=yg g3 (H6.out.2.2 rfl) I2.out.fJ I7.out I5.out B.out
       have N:=I8.out.trans (((Zaa h3).trans (Zaa K)).trans ((Zac rfl).trans (aJ (cS _)).symm))
       have J:=Lib.hid N
       clear N
       go_wp2_with (go_at_call 189;go_must (refine p.mono ?_;rintro e w3 ⟨I,sa,sn,sc,ua,un,uc,rfl,z,y,Q,Qjk,Qjl⟩))
       obtain⟨W,hW,hQ,hl⟩:=vO (I2.out.trans y (λc p=>nomatch p)) Q (I4.out I w3 y) N' z
       rw[<-hW]
       refine bodyPost_ret (qd rfl _ rfl hl) rfl ⟨I,_,rfl,?_,hQ⟩
       rw[J.out]
       exact z
      ·have N:=I8.out.trans (((Zaa h3).trans (Zaa K)).trans (Zaa h5))
       have J:=Lib.hid N
       clear N
       go_wp2_with fail
       obtain⟨W,hW,hQ,hl⟩:=vO I2.out B.out I3.out N' I5.out
       rw[<-hW]
       refine bodyPost_ret (qd rfl _ rfl hl) rfl ⟨R,_,rfl,?_,hQ⟩
       rw[J.out]
       exact I5.out
end sx
namespace sx
open Go Go.RowKit cls syn sl
variable {M:Pm D} {w:World} {y:List Nd}
def Qs.Qbu {a:Pm D} {d:World} (h:Qs [] M w a d):cP H0 M w H0 a d 0 0:=
 ⟨h.fJ,λb _=>h.pl b,h.le.2,λb o e=>(h.sb b o e).imp_right (λk=>k.elim .inl λk=>(nomatch k)),h.size,λc f _=>h.aR c f (by simp),λ_ _ _ e=>(by cases e),λ_ e=>absurd rfl e,h.os,h.tape,h.output,Zah _⟩
def K_ {f:FuncId} {Y:Type} {yn:List (AV D.E)->St D.E->C Y} {pre:Y->Prop} {a r:Y->AV D.E} (h:Ok (bP f Y yn pre (λy=>[a y]) r)) {y:Y} (j:pre y) {v:Value} (g:dX M H0 w) (i:TF M 0) (d:VR M (a y) v):
  Calls prog f #[v] w λe m=>∃(b:Pm D) (u:Value),e=.returned u/\VR b (r y) u/\Qs [] M w b m:=
 h.2 y j M #[v] w (.cons d .nil) g i _ λc l _ k hs=>⟨c,l,rfl,k,Qs.FM hs⟩
def ε {t:ai} (h1:kA t) (q:y=aE t) (v:y.length<=480) {m:Option Addr} {n vc:Nat} (s:VR M (.list 7 y) (.slice m n vc)) (r:dX M H0 w):
  Calls prog 129 #[.slice m n vc,.int .i64 0] w λe p=>∃(x:E8) (F:List Nat) (g:Option Addr) (k j:Nat) (d:Option Addr) (f pc:Nat) (i:Int),
   e=.returned (.tuple #[.agg #[.int .i64 t.op,.slice g k j,.int .i64 t.mn,.int .i64 t.mx,.bool t.lz,.int .i64 t.cap,.int .i64 t.nk,.slice d f pc],.int .i64 i])/\
   (x.1=[.int .i64 t.op,.slice g k j,.int .i64 t.mn,.int .i64 t.mx,.bool t.lz,.int .i64 t.cap,.int .i64 t.nk,.slice d f pc])/\TA M p t x F/\F.Nodup/\(∀c∈F,w.heap.size<=c)/\Below w.heap.size w p:=by
 have a:1<=y.length:=by rw[q];exact sj t
 generalize hu:(Value.slice m n vc)=u at s;have h:∃(b o cap:Nat),u=.slice (some ⟨b,o,none⟩) y.length cap/\y.length<=cap/\Rd M w b o (aY (D:=D) 7 y)/\b<w.heap.size:=by
  cases s with
  | @list c b o cap xs hs C l=>exact⟨b,o,cap,rfl,l,pG gb r hs,r.slt (hs 0 a 0 _ rfl)⟩
  | dW=>exact absurd a (by decide)
 obtain⟨b,o,cap,e,l,z,A⟩:=h;rw[e];refine(ZF (Zav v (by decide)) l (aE t).length t 0 [] w (Zah _) h1 (by rw[Zaw,<-q];rfl) z A).mono ?_;rintro B p ⟨x,F,rfl,k1,k2,k3,k4⟩;obtain⟨g,k,j,d,f,pc,ex⟩:=xV k1;exact⟨x,F,g,k,j,d,f,pc,_,by rw[ex],ex,k1,k2,k3,k4⟩
def ζ {t:ai} {A:List Value} (h1:kA t) (n:dG t) {x:E8} {F:List Nat} {a:World} {o:Obj} (ex:x.1=A) (j:TA M a t x F) (i:F.Nodup) (f:∀c∈F,w.heap.size<=c) (k:Below w.heap.size w a) (g:dX M H0 w) (p:TF M 0):
  Calls prog 131 #[.agg A.toArray] (a.alloc o) λe m=>∃(b:Pm D) (v:Value),e=.returned v/\VR b (.agg (D.ba 15 (fa t))) v/\Qs [] M w b m:=by
 subst ex;have hs:=k.size;have h:Below w.heap.size w (a.alloc o):=k.alloc hs o;have l:Qs [] M w M (a.alloc o):=Qs.FM (jm g h 0);refine(Qd1 QiQ QiU QiV _ t x F M (a.alloc o) (Zah _) h1 n (vH (lY M) _ _ _ j λc _ hl=>Below.heap_alloc _ _ _ hl) i (λc d=>⟨Zav g.mb.1.1 (f c d),λo=>?_⟩) l.fJ p).mono ?_
 ·cases e:M.sg c o with
  | none=>rfl
  | some u=>have:=g.slt e;have:=f c d;omega
 ·rintro e m ⟨b,v,rfl,k1,k2⟩;exact⟨b,v,rfl,k1,l.trans k2 λc d=>.inr (f c d)⟩
set_option maxHeartbeats 4000000 in
theorem η (hm:Ok gW) (H:oo y) {v:Value} (C:dX M H0 w) (E:TF M 0) (q:VR M (.list 7 y) v):
  Calls prog 80 #[v] w λe w'=>∃(S:Pm D) (W:Value),e=.returned W/\VR S (.list 7 (lk (cL y))) W/\Qs [] M w S w':=by
 have G:Calls prog 128 #[v] w λe X=>∃(z:Pm D) (u:Value),e=.returned u/\VR z (.bool (dL y)) u/\Qs [] M w z X:=K_ (f:=128) (QaX hm) (y:=y) H C E q
 obtain⟨va,vn,vc,rfl⟩:=AA q
 by_cases d:dL y=true
 ·obtain⟨t,h1,A,B⟩:=jq d
  have k:cL y=aE (fa t):=by
   unfold cL
   rw[Zac d,A,pe h1,AK h1]
  have I:=Lib.hid k
  have r:=Lib.hid h1
  rw[d] at G
  have hlen:=B
  have V:1<=y.length:=by rw[A];exact sj t
  have O:=Lib.hid A
  have Y:=Lib.hid H
  have Z:=Lib.hid q
  have H5:=Lib.hid C
  have H6:=Lib.hid E
  clear k h1 A H q C E d
  go_enter Tryz.func80,Tryz.ntmps80
  go_wp2_with (go_at_call 128;go_must (refine G.mono ?_;rintro e w1 ⟨s,u,rfl,hu,a⟩;obtain rfl:=nU hu;clear hu))
  have m:TF s 0:=λb L=>(a.pl b).trans (H6.out b L)
  have P:=Lib.hid m
  have Q:=Lib.hid a
  have J:=ε r.out O.out B (Z.out.mono a.le) a.fJ
  refine J.mono ?_
  rintro e w2 ⟨x,F,qa,qn,qc,pa,pn,pc,i,rfl,ex,k1,k2,k3,k4⟩
  have g:dG t:=by
   have h:=O.out
   have U:=Y.out
   rw[h] at U B
   exact⟨Zav B (by decide),U⟩
  have K4:=ζ (o:=.cells #[.int .i64 t.op,.slice qa qn qc,.int .i64 t.mn,.int .i64 t.mx,.bool t.lz,.int .i64 t.cap,.int .i64 t.nk,.slice pa pn pc] 221) r.out g ex k1 k2 k3 k4 Q.out.fJ P.out
  have R:=Lib.hid g
  have K6:=Lib.hid J
  clear k1 k2 k3 k4 ex m a g J
  go_wp2_with (go_at_call 131;go_must (refine K4.mono ?_;rintro e X ⟨z,u,rfl,hu,j⟩))
  have K:TF z 0:=λb L=>(j.pl b).trans (P.out b L)
  have hk:dG (fa t):=by
   have a1:=AK r.out
   have a2:=(pX t (Ei t r.out) ⟨Zah _,R.out.2⟩).2
   rw[<-a1] at a2
   exact⟨Zav a2.1 R.out.1,a2.2⟩
  have hl:=K_ Qbr hk j.fJ K hu
  refine hl.mono ?_
  rintro e w4 ⟨T,u4,rfl,p,N⟩
  have K7:=Lib.hid p
  clear p hl hk
  go_wp2_with fail
  go_ret
  refine⟨T,_,rfl,?_,(Q.out.trans j λc d=>(nomatch d)).trans N λc d=>(nomatch d)⟩
  have e:dc (fa t)=lk (cL y):=by rw[aJ,I.out];unfold dc;rw[aJ]
  have hz:∀l:List Nd,dc (fa t)=l->VR T (.list 7 l) u4:=λl h=>by subst h;exact K7.out
  exact hz _ e
 ·have n:dL y=false:=by simpa using d
  rw[n] at G
  have hs:cL y=[]:=by unfold cL;rw[Zaa d]
  have I:=Lib.hid hs
  clear hs d n q C E H
  go_enter Tryz.func80,Tryz.ntmps80
  go_wp2_with (go_at_call 128;go_must (refine G.mono ?_;rintro e w1 ⟨s,u,rfl,hu,a⟩;obtain rfl:=nU hu;clear hu))
  go_ret
  refine⟨s,_,rfl,?_,a⟩
  have hz:∀l:List Nd,l=[]->VR s (.list 7 l) (.slice none 0 0):=λl h=>by subst h;exact .dW
  exact hz _ ((aJ _).trans I.out)
def Qjm (i:Ok gW):Ok Z6:=by
 refine⟨⟨f80,_,by kernel_rfl,cI (by kernel_rfl)⟩,λy k M A w c f g R d=>?_⟩;obtain⟨v,rfl,j⟩:=xl c;exact(η i k f g j).mono λe m ⟨a,l,h,h1,b⟩=>by rw[h];exact d a l m h1 b.Qbu
end sx
namespace sx
open Go Go.RowKit Go.Maps cls syn
set_option maxRecDepth 100000
variable {M:Pm D} {w:World} {b o i:Nat} {v:Value} {E:DataW Unit} {Z:bA}
theorem sC {xs:List (D.E b)} (hz:∀x:D.E b,∃u,(D.ba b x)[0]?=some u) (d:dX M H0 w) (h:VR M (.list b xs) v):
  ∃a cap,v=.slice a xs.length cap/\(0<xs.length->∃c o,a=some ⟨c,o,none⟩/\Rd M w c o (aY (D:=D) b xs)/\c<w.heap.size):=by
 cases h with
 | @list b c o cap xs hs g f=>exact⟨_,cap,rfl,λe=>let ⟨u,hu⟩:=hz xs[0];⟨c,o,rfl,pG gb d hs,d.slt (hs 0 e 0 u hu)⟩⟩
 | dW=>exact⟨_,_,rfl,λh=>absurd h (Nat.lt_irrefl 0)⟩
theorem Qd2 {p:ej} (h:VR M (yp p) v):∃c s,v=.agg #[c,s]/\VR M (.list 8 p.ae) c/\VR M (.list 5 p.aj) s:=by
 cases h with | @agg _ A h1 a=>?_
 obtain⟨l⟩:=A;obtain⟨c,s,e,b,d⟩:=DO ⟨h1,a⟩;grind
def θ {l:b5} (h:VR M (.agg (D.ba 2 l)) v):∃t,v=.agg #[.bool l.done,.int .i64 l.c0,.int .i64 l.c1,.int .i64 l.c2,.int .i64 l.c3,.int .i64 l.c4,.int .i64 l.c5,.int .i64 l.c6,.int .i64 l.c7,.int .i64 l.c8,.int .i64 l.c9,t]/\VR M (.list 1 l.aL) t:=by
 cases h with | @agg _ A h1 g=>?_
 obtain⟨A⟩:=A;have h:LR M (D.ba 2 l) A:=⟨h1,g⟩;cases l;obtain⟨i,A,rfl,a0,h⟩:=h.aP;obtain⟨j,A,rfl,c,h⟩:=h.aP;obtain⟨k,A,rfl,a2,h⟩:=h.aP;obtain⟨v3,A,rfl,a3,h⟩:=h.aP;obtain⟨m,A,rfl,a4,h⟩:=h.aP;obtain⟨v5,A,rfl,a5,h⟩:=h.aP;obtain⟨n,A,rfl,d,h⟩:=h.aP;obtain⟨o,A,rfl,e,h⟩:=h.aP;obtain⟨p,A,rfl,f,h⟩:=h.aP;obtain⟨v9,A,rfl,a9,h⟩:=h.aP;obtain⟨v10,A,rfl,a,h⟩:=h.aP;obtain⟨v11,A,rfl,b,h⟩:=h.aP;obtain rfl:=h.jD;obtain rfl:=nU a0;obtain rfl:=fF c;obtain rfl:=fF a2;obtain rfl:=fF a3;obtain rfl:=fF a4;obtain rfl:=fF a5;obtain rfl:=fF d;obtain rfl:=fF e;obtain rfl:=fF f;obtain rfl:=fF a9;obtain rfl:=fF a;exact⟨_,rfl,b⟩
def La {f:FuncId} {Y:Type} {yn:List (AV D.E)->St D.E->C Y} {pre:Y->Prop} {a b r:Y->AV D.E} (h:Ok (bP f Y yn pre (λy=>[a y,b y]) r)) {y:Y} (l:pre y) {u:Value} (j:dX M H0 w) (k:TF M 0) (g:VR M (a y) v) (i:VR M (b y) u):
  Calls prog f #[v,u] w λe o=>∃(c:Pm D) (z:Value),e=.returned z/\VR c (r y) z/\Qs [] M w c o:=
 h.2 y l M #[v,u] w (.cons g (.cons i .nil)) j k _ λd n _ m hs=>⟨d,n,rfl,m,Qs.FM hs⟩
def Qjn {ae:List aV} (h:Rd M w b o (aY (D:=D) 8 ae)) (hi:i<ae.length):w.cell? ⟨b,o+i*4,none⟩=some (.int .i64 (ae.getD i ⟨0,0,0,[]⟩).op):=by
 obtain⟨v,h1,a⟩:=kx gb h hi 0 _ rfl;obtain rfl:=fF a;rw[Zag,Zaf hi];exact h1
def Qjo {a:List Bool} (h:Rd M w b o (aY (D:=D) 17 a)) (hi:i<a.length):w.cell? ⟨b,o+i,none⟩=some (.bool (a.getD i false)):=by
 obtain⟨v,h1,c⟩:=kx gb h hi 0 _ rfl;obtain rfl:=nU c;rw[Zag,Zaf hi];rw[show o+i=o+i*D.size 17+0 by show _=o+i*1+0;omega];exact h1
def Qjp {xs:List Int} {x:Int} (h:Rd M w b o (aY (D:=D) 5 xs)) (d:xs[i]?=some x):w.cell? ⟨b,o+i,none⟩=some (.int .i64 x)/\jv .i64 x:=by
 obtain⟨hi,rfl⟩:=Zam.1 d;obtain⟨v,h1,a⟩:=kx gb h hi 0 _ rfl;obtain⟨rfl,c⟩:=ei a;rw[show o+i=o+i*D.size 5+0 by show _=o+i*1+0;omega];exact⟨h1,c⟩
def Iw {H:Type} {P:Program} (w:World) {ops:Array Oper} {rest:List Oper} {o:Oper} {a:Act} {Q:Exit->Act->World->Prop} (r:o.guard=none) (m x v:Operand) (t:TypeId) (l:o.op=Op.insert t m x v)
  (k e:TypeId) (K:Keyed P k) (ht:P.underlying t=some (.map k e)) (R:Value->Option (DataW H×List MemPlace)) (b n:Nat) (D:DataW H) (s:a.eval m=.map (some b)) (f:w.ownsMap P k R b n D) (u:n<maxLen) (key val:Value) (p:Lit)
  (z:a.eval x=key) (y:a.eval v=val) (c:keyOf P k key=some p) (d:DataW H) (A:List MemPlace) (h:R val=some (d,A))
  (q:∀i,i.ownsMap P k R b (n+1) (D.put p d)->w.grownBy i (some b)->wpList P ops Q rest (a.put o.dst Go.undef) i):wpList P ops Q (o::rest) a w:=by
 refine wpList_plain r λE j=>?_
 obtain⟨i,g,B,C⟩:=f.update K ht u c h;unfold Oper.wp;simp[execOp,l,s,z,y,g,Result.andThen];exact j _ _ (q i B C)
def Mp (E:DataW Unit) (F:Int->Bool):Prop:=IsMap E/\∀j:Int,E.atKey (.int .i64 j) (.lit (.int .i64 0))=.lit (.int .i64 (if F j=true then 1 else 0))
theorem Mp.nil:Mp (.map []) λ_=>false:=⟨⟨_,rfl⟩,λ_=>rfl⟩
theorem Mp.put {F:Int->Bool} (h:Mp E F) (j:Int) (b:Bool):Mp (E.put (.int .i64 j) (.lit (.int .i64 (if b=true then 1 else 0)))) λk=>if k=j then b else F k:=by
 refine⟨h.1.put _ _,λk=>?_⟩;by_cases e:k=j
 ·subst e;simp only[Zbv];exact atKey_put_same h.1 (by simp[WideAt.IsKeyLit]) _ _
 ·rw[atKey_put_other (by grind),h.2 k];grind
def Qjq {xs:List bA} (h:Rd M w b o (aY (D:=D) 1 xs)) (ht:xs[i]?=some Z):
  w.cell? ⟨b,o+i*11,none⟩=some (.int .i64 Z.pc)/\w.cell? ⟨b,o+i*11+1,none⟩=some (.int .i64 Z.c0)/\w.cell? ⟨b,o+i*11+2,none⟩=some (.int .i64 Z.c1)/\w.cell? ⟨b,o+i*11+3,none⟩=some (.int .i64 Z.c2)/\w.cell? ⟨b,o+i*11+4,none⟩=some (.int .i64 Z.c3)/\
  w.cell? ⟨b,o+i*11+5,none⟩=some (.int .i64 Z.c4)/\w.cell? ⟨b,o+i*11+6,none⟩=some (.int .i64 Z.c5)/\w.cell? ⟨b,o+i*11+7,none⟩=some (.int .i64 Z.c6)/\w.cell? ⟨b,o+i*11+8,none⟩=some (.int .i64 Z.c7)/\w.cell? ⟨b,o+i*11+9,none⟩=some (.int .i64 Z.c8)/\w.cell? ⟨b,o+i*11+10,none⟩=some (.int .i64 Z.c9)/\
  jv .i64 Z.pc/\∀x∈oq Z,jv .i64 x:=by
 obtain⟨hi,rfl⟩:=Zam.1 ht;have k:=kx gb h hi;obtain⟨G,a0,j⟩:=k 0 _ rfl;obtain⟨H,d,b1⟩:=k 1 _ rfl;obtain⟨I,a2,l⟩:=k 2 _ rfl;obtain⟨v3,a3,m⟩:=k 3 _ rfl;obtain⟨J,a4,n⟩:=k 4 _ rfl;obtain⟨v5,a5,p⟩:=k 5 _ rfl;obtain⟨K,e,q⟩:=k 6 _ rfl;obtain⟨L,f,r⟩:=k 7 _ rfl;obtain⟨N,g,b8⟩:=k 8 _ rfl;obtain⟨v9,a9,s⟩:=k 9 _ rfl;obtain⟨v10,a,c⟩:=k 10 _ rfl;obtain⟨rfl,u⟩:=ei j;obtain⟨rfl,v⟩:=ei b1;obtain⟨rfl,y⟩:=ei l;obtain⟨rfl,z⟩:=ei m;obtain⟨rfl,A⟩:=ei n;obtain⟨rfl,B⟩:=ei p;obtain⟨rfl,C⟩:=ei q;obtain⟨rfl,E⟩:=ei r;obtain⟨rfl,d8⟩:=ei b8;obtain⟨rfl,F⟩:=ei s;obtain⟨rfl,d10⟩:=ei c;exact⟨a0,d,a2,a3,a4,a5,e,f,g,a9,a,u,by simp[oq];exact⟨v,y,z,A,B,C,E,d8,F,d10⟩⟩
def ι (ht:∀x∈oq Z,jv .i64 x):VR M (.agg [.int .i64 Z.c0,.int .i64 Z.c1,.int .i64 Z.c2,.int .i64 Z.c3,.int .i64 Z.c4,.int .i64 Z.c5,.int .i64 Z.c6,.int .i64 Z.c7,.int .i64 Z.c8,.int .i64 Z.c9])
  (.agg #[.int .i64 Z.c0,.int .i64 Z.c1,.int .i64 Z.c2,.int .i64 Z.c3,.int .i64 Z.c4,.int .i64 Z.c5,.int .i64 Z.c6,.int .i64 Z.c7,.int .i64 Z.c8,.int .i64 Z.c9]):=by
 simp only[oq,Zbf,Zds,Zdt,forall_eq_or_imp,forall_eq] at ht;obtain⟨h0,h1,a,b,c,d,e,f,g,i⟩:=ht;have h:LR M [.int .i64 Z.c0,.int .i64 Z.c1,.int .i64 Z.c2,.int .i64 Z.c3,.int .i64 Z.c4,.int .i64 Z.c5,.int .i64 Z.c6,.int .i64 Z.c7,.int .i64 Z.c8,.int .i64 Z.c9] [.int .i64 Z.c0,.int .i64 Z.c1,.int .i64 Z.c2,.int .i64 Z.c3,.int .i64 Z.c4,.int .i64 Z.c5,.int .i64 Z.c6,.int .i64 Z.c7,.int .i64 Z.c8,.int .i64 Z.c9]:=
  .cons (.int h0) <| .cons (.int h1) <| .cons (.int a) <| .cons (.int b) <| .cons (.int c) <| .cons (.int d) <| .cons (.int e) <| .cons (.int f) <| .cons (.int g) <| .cons (.int i) .nil
 exact .agg h.1 h.2
def AN {a:World} {k:TypeId} {R:Value->Option (DataW Unit×List MemPlace)} (h:w.ownsMap prog k R b o E) (e:a.heap[b]?=w.heap[b]?):a.ownsMap prog k R b o E:=by
 obtain⟨es,clock,c,r⟩:=h;exact⟨es,clock,e.trans c,r⟩
def NG:Keyed prog 3:=int_keyed Tryz.underlying3
def U0 (w:World):(zeroValue 3).run prog w=.ok (.int .i64 0) w:=by kernel_rfl
set_option maxHeartbeats 4000000 in
theorem κ {p:ej} {l:b5} {m st:Int} (hr:b<p.aj.length) (hst:p.aj[b]?=some st) (pv:Mo (p.ae,st)) (hn:l.aL.length<=1000000) {lv:Value} (hS:dX M H0 w) (hT:TF M 0)
  (hm:jv .i64 m=true) (hp:VR M (yp p) v) (hl:VR M (.agg (D.ba 2 l)) lv):
  Calls prog 208 #[v,.int .i64 b,lv,.int .i64 m] w λe w'=>∃(M':Pm D),e=.returned (.bool (uQ ⟨p,b,l,m⟩))/\Qs [] M w M' w':=by
 obtain⟨cv,sv,rfl,hcv,hsv⟩:=Qd2 hp
 obtain⟨tv,rfl,htv⟩:=θ hl
 obtain⟨sa,X,rfl,P⟩:=sC (λx=>⟨_,rfl⟩) hS hsv
 obtain⟨sb,so,rfl,hsr,hsb⟩:=P (Nat.lt_of_le_of_lt (Zaj _) hr)
 have hcs:=Qjp hsr hst
 obtain⟨hcs,hin⟩:=hcs
 obtain⟨ca,A,rfl,hc2⟩:=sC (λx=>⟨_,rfl⟩) hS hcv
 have hb0:(0:Int)<=(b:Int):=ω
 have lD:(b:Int)<(p.aj.length:Int):=ω
 obtain⟨ta,Qjr,rfl,ht2⟩:=sC (λx=>⟨_,rfl⟩) hS htv
 have G8:=Lib.hid ht2
 have hpos:0<p.ae.length:=by have h1:0<=st:=pv.2.1;have Q:st<p.ae.length:=pv.2.2;omega
 obtain⟨cb,co,rfl,hcr,hcb⟩:=hc2 hpos
 have hcall:∀W:World,Below w.heap.size w W->Calls prog 243 #[.slice (some ⟨cb,co,none⟩) p.ae.length A,.int .i64 st] W λe w3=>∃(M3:Pm D) (z:Value),e=.returned z/\VR M3 (.list 17 (lF p.ae st)) z/\Qs [] M W M3 w3:=
  λW hb=>La QaC (y:=(p.ae,st)) pv (jm hS hb 0).fJ hT hcv (.int hin)
 have hcl:p.ae.length<=1000:=pv.1.1
 have hs0:0<=st:=pv.2.1
 have hs9:st<1000:=by have h1:=pv.1.1;have Q:=pv.2.2;simp only at h1 Q;omega
 have hkey:keyOf prog 3 (.int .i64 st)=some (.int .i64 st):=keyOf_int_mk Tryz.underlying3 (WalkArith.wf_i64 ω)
 have G1:=Lib.hid hcv
 have G2:=Lib.hid htv
 have G3:=Lib.hid hS
 have G4:=Lib.hid hT
 have G5:=Lib.hid pv
 have G6:=Lib.hid hcr
 have G7:=Lib.hid hst
 have hgs:ZB ⟨p,b,l,m⟩=st:=by show p.aj.getD (Int.toNat b) 0=st;rw[Zad,Zag,hst];rfl
 have GS:=Lib.hid hgs
 clear hgs
 clear hcv htv ht2 hS hT pv hc2 hcr P hp hl hsv hst hsr
 go_enter Tryz.func208,Tryz.ntmps208
 go_wp2_with fail
 go_region_with (go_at_call 243;refine(hcall _ (((Below.refl _ _).alloc (Zah _) _).alloc (by simp) _).drew).mono ?_;rintro e f ⟨M1,z,rfl,hz,s⟩)
 all_goals
  have hmm:=@run_makeMap prog
  obtain⟨za,QuL,hzv,hz2⟩:=sC (λx=>⟨_,rfl⟩) s.fJ hz
  rw[show List.length (α:=D.E 17) (lF p.ae st)=p.ae.length from mR _ _] at hzv
  obtain⟨zb,zo,rfl,hzr,hzb⟩:=hz2 (show 0<(lF p.ae st).length by rw[mR];exact hpos)
  subst hzv
  have T:∀c,c<w.heap.size+2->f.heap[c]?=((w.alloc (Obj.cells #[Value.slice (some ⟨cb,co,none⟩) p.ae.length A,Value.slice (some { block:=sb,off:=so }) p.aj.length X] 88)).alloc (Obj.cells #[Value.bool l.done,Value.int IntKind.i64 l.c0,Value.int IntKind.i64 l.c1,Value.int IntKind.i64 l.c2,Value.int IntKind.i64 l.c3,Value.int IntKind.i64 l.c4,Value.int IntKind.i64 l.c5,Value.int IntKind.i64 l.c6,Value.int IntKind.i64 l.c7,Value.int IntKind.i64 l.c8,Value.int IntKind.i64 l.c9,.slice ta (List.length (α:=D.E 1) l.aL) Qjr] 106)).heap[c]?:=λc pv=>s.aR c (by simpa using pv) (by simp)
  have hs1:w.heap.size+2<=f.heap.size:=by have:=s.size;simpa using this
  have P:w.heap.size<f.heap.size:=ω
  have hs3:sb<f.heap.size:=ω
  have k0:f.heap[w.heap.size]?=some (Obj.cells #[Value.slice (some ⟨cb,co,none⟩) p.ae.length A,Value.slice (some { block:=sb,off:=so }) p.aj.length X] 88):=(T _ ω).trans (by rw[Below.heap_alloc _ _ _ (by simp)];exact heap_alloc_new _ _)
  have k1:f.cell? ⟨w.heap.size,1,none⟩=some (.slice (some ⟨sb,so,none⟩) p.aj.length X):=by rw[iS k0];rfl
  have k2:f.cell? ⟨sb,so+b,none⟩=some (.int .i64 st):=(gi ((T sb ω).trans (by grind [Below.heap_alloc]))).trans hcs
  have hk4:∀c,c<w.heap.size->f.heap[c]?=w.heap[c]?:=λc pv=>(T c ω).trans (by grind [Below.heap_alloc])
  have K4:=Lib.hid hk4
  have hfin:∀Z,Below f.heap.size f Z->Qs [] M w M1 Z:=λZ hb=>((Qs.FM (F:=[]) (jm G3.out ((((Below.refl _ _).alloc (Zah _) _).alloc (by simp) _).drew) 0)).trans s λc pv=>nomatch pv).trans (Qs.FM (F:=[]) (jm s.fJ hb 0)) λc pv=>nomatch pv
  have KF:=Lib.hid hfin
  have hpl:∀(t:bA) (Z:World),(∀x∈oq t,jv .i64 x=true)->Below f.heap.size f Z->Calls prog 207 #[.agg #[.int .i64 t.c0,.int .i64 t.c1,.int .i64 t.c2,.int .i64 t.c3,.int .i64 t.c4,.int .i64 t.c5,.int .i64 t.c6,.int .i64 t.c7,.int .i64 t.c8,.int .i64 t.c9],.int .i64 m] Z λe w3=>e=.returned (.bool (fp t m))/\Below Z.heap.size Z w3:=λt Z ht hb=>by
   refine(La Qbp (y:=(t,m)) trivial (jm s.fJ hb 0).fJ (λr hb=>(s.pl r).trans (G4.out r hb)) (ι ht) (.int hm)).mono ?_
   ·rintro e w3 ⟨M3,u,rfl,hu,hq⟩
    exact⟨by rw[nU hu],hq.os,hq.tape,hq.output,hq.size,λc pv=>hq.aR c pv (by simp)⟩
  have KP:=Lib.hid hpl
  have K1:=Lib.hid T
  have K2:=Lib.hid hzr
  have K3:=Lib.hid s
  clear T hk4 hfin hpl hz s hz2 hzr
  go_wp2_with (refine Iw (H:=Unit) _ rfl _ _ _ 328 rfl 3 3 NG Tryz.underlying328 (plainElem prog 3) f.heap.size 0 _ rfl (World.ownsMap_made _ _ _ _) (by unfold maxLen;omega) _ _ _ rfl rfl hkey _ [] (plainElem_int Tryz.underlying3 (WalkArith.wf_i64 ω)) ?_;intro w2 hown2 I)
  generalize hB:f.heap.size=B at*
  have KB:=Lib.hid hB
  have Qrx:Below B f w2:=((Below.refl _ _).alloc (Zd1 hB.symm) _).grown I (by simp;omega) λj hj=>by grind
  clear hB I k1 k2
  have Qry:f.cell? ⟨w.heap.size,0,none⟩=some (.slice (some ⟨cb,co,none⟩) p.ae.length A):=by rw[iS k0];rfl
  clear k0
  go_loopg [32] p.ae.length (λg i wr=>∃(k:Nat) (E:DataW Unit) (a:Nat),k<=p.ae.length/\g=p.ae.length-k/\i=.int .i64 k/\wr.ownsMap prog 3 (plainElem prog 3) B a E/\a<=k+1/\
   Mp E (KG p.ae (lF p.ae st) k λj=>if j=st then true else false)/\Below B f wr)
  case atStart=>exact⟨0,_,1,Zaj _,ω,rfl,hown2,Zah _,Mp.nil.put st true,Qrx⟩
  case round=>
   obtain⟨k,E,a,hk,rfl,rfl,C,hcnt,U,S⟩:=hrel
   have J1:=Lib.hid C
   have J2:=Lib.hid U
   have Y:=Lib.hid S
   clear C U S
   by_cases hlt:k<p.ae.length
   ·have z1:wr.cell? ⟨zb,zo+k,none⟩=some (.bool ((lF p.ae st).getD k false)):=(Y.out.cell (by exact hzb)).trans (Qjo K2.out (by rw[mR];exact hlt))
    have z2:wr.cell? ⟨w.heap.size,0,none⟩=some (.slice (some ⟨cb,co,none⟩) p.ae.length A):=(Y.out.cell (by exact P)).trans Qry
    have z3:wr.cell? ⟨cb,co+k*4,none⟩=some (.int .i64 (p.ae.getD k ⟨0,0,0,[]⟩).op):=(Y.out.cell (show cb<B from Nat.lt_trans hcb P)).trans ((gi (K4.out cb hcb)).trans (Qjn G6.out hlt))
    have c1:(0:Int)<=(k:Int):=ω
    have c2:(k:Int)<(p.ae.length:Int):=ω
    cases O:(lF p.ae st).getD k false with
    | false=>
     rw[O] at z1
     have J4:=Lib.hid O
     clear O
     go_wp2_with fail
     go_roundg (p.ae.length-(k+1))
     case measure=>omega
     case rel=>exact⟨k+1,E,a,ω,rfl,by go_num,J1.out,ω,by rw[KG,Zaa (by rw[J4.out];simp)];exact J2.out,Y.out⟩
    | true=>
     rw[O] at z1
     have J4:=Lib.hid O
     clear O
     by_cases L:(p.ae.getD k ⟨0,0,0,[]⟩).op=1
     ·rw[L] at z3
      have J5:=Lib.hid L
      clear L
      have Qjs:keyOf prog 3 (.int .i64 ((k:Int)+1))=some (.int .i64 ((k:Int)+1)):=keyOf_int_mk Tryz.underlying3 (WalkArith.wf_i64 ω)
      go_wp2_with (at_mapUpdate;refine wpList_mapUpdate_own (H:=Unit) _ rfl _ _ _ 328 rfl 3 3 NG Tryz.underlying328 (plainElem prog 3) B a E rfl J1.out (by unfold maxLen;omega) _ _ _ rfl rfl Qjs _ [] (plainElem_int Tryz.underlying3 (WalkArith.wf_i64 ω)) ?_;intro w3 hown3 hgrow3)
      go_roundg (p.ae.length-(k+1))
      case measure=>omega
      case rel=>exact⟨k+1,_,a+1,ω,rfl,by go_num,hown3,ω,by rw[KG,Zac ⟨J4.out,J5.out⟩];exact J2.out.put ((k:Int)+1) true,Y.out.grown hgrow3 (Zav (Zd1 KB.out.symm) Y.out.size) (λj hj=>by grind)⟩
     ·generalize hg:(p.ae.getD k ⟨0,0,0,[]⟩).op=q at z3 L
      have J5:=Lib.hid hg
      have q1:(q==1)=false:=by simpa using L
      have q2:decide (q=1)=false:=by assumption
      clear hg
      go_wp2_with fail
      go_roundg (p.ae.length-(k+1))
      case measure=>omega
      case rel=>exact⟨k+1,E,a,ω,rfl,by go_num,J1.out,ω,by rw[KG,Zaa (by rw[J5.out];exact λh=>L h.2)];exact J2.out,Y.out⟩
   ·obtain rfl:k=p.ae.length:=ω
    have k5:wr.cell? ⟨w.heap.size+1,11,none⟩=some (.slice ta (List.length (α:=D.E 1) l.aL) Qjr):=(Y.out.cell (show w.heap.size+1<B by omega)).trans (by rw[iS ((K1.out _ ω).trans (sr (by simp) _))];rfl)
    have c2:¬((p.ae.length:Int)<(p.ae.length:Int)):=ω
    go_wp2_with fail
    clear k5
    go_loopg [54] l.aL.length (λg i wr=>∃(q:Nat) (E:DataW Unit) (a:Nat) (F:Int->Bool),q<=l.aL.length/\g=l.aL.length-q/\i=.int .i64 q/\wr.ownsMap prog 3 (plainElem prog 3) B a E/\a<=1001+q/\
     Mp E F/\Below B f wr/\We m (l.aL.drop q) F=uQ ⟨p,b,l,m⟩)
    case atStart=>exact⟨0,E,a,_,Zaj _,ω,rfl,J1.out,ω,J2.out,Y.out,by rw[ZbQ,uQ,show ZB ⟨p,b,l,m⟩=st from GS.out]⟩
    case round=>
     obtain⟨q,E2,d,F,hq,rfl,rfl,C,hcnt2,U,S,hwt⟩:=hrel
     have N1:=Lib.hid C
     have N2:=Lib.hid U
     have N3:=Lib.hid S
     have N4:=Lib.hid hwt
     clear C U S hwt
     by_cases J:q<l.aL.length
     ·obtain⟨t,ht⟩:∃t,l.aL[q]?=some t:=⟨_,Zaf J⟩
      obtain⟨tb,tO,rfl,htr,htb⟩:=G8.out (Nat.lt_of_le_of_lt (Zaj _) J)
      obtain⟨e0,e1,e2,e3,e4,e5,e6,e7,e8,e9,e10,f0,f1⟩:=Qjq htr ht
      have tw:∀o,(wr.cell? ⟨tb,o,none⟩)=w.cell? ⟨tb,o,none⟩:=λo=>(N3.out.cell (show tb<B from Nat.lt_trans htb P)).trans (gi (K4.out tb htb))
      rw[<-tw] at e0 e1 e2 e3 e4 e5 e6 e7 e8 e9 e10
      have c3:(0:Int)<=(q:Int):=ω
      have c4:(q:Int)<(l.aL.length:Int):=ω
      have hns:B<wr.heap.size:=by obtain⟨es,clock,hb,_⟩:=N1.out;exact(ZbU.1 hb).1
      have P1:=Lib.hid ht
      have wfp:(Lit.int .i64 t.pc).wf=true:=WalkArith.wf_i64 (cH.1 f0)
      have n:keyOf prog 3 (.int .i64 t.pc)=some (.int .i64 t.pc):=keyOf_int_mk Tryz.underlying3 wfp
      have V:∀o,(wr.alloc o).ownsMap prog 3 (plainElem prog 3) B d E2:=λo=>AN N1.out (Below.heap_alloc _ _ _ hns)
      have hbX:∀o,Below B f (wr.alloc o):=λo=>N3.out.alloc (Zcx hns) o
      have Qjt:uQ ⟨p,b,l,m⟩=(F t.pc&&fp t m&&We m (l.aL.drop (q+1)) λk=>if k=t.pc then false else F k):=by
       rw[<-N4.out,Zaq J,We]
       have:l.aL[q]=t:=by rw[Zaf J] at ht;exact ZbN ht
       rw[this]
      have P3:=Lib.hid f1
      have P4:=Lib.hid V
      have P5:=Lib.hid hbX
      have P6:=Lib.hid Qjt
      clear ht f0 f1 tw htr V hbX Qjt
      cases hF:F t.pc with
      | false=>
       have Q1:=Lib.hid hF
       clear hF
       go_wp2_with (at_lookup;refine wpList_lookup_own_int (H:=Unit) _ rfl _ _ 328 rfl 3 3 .i64 NG Tryz.underlying328 Tryz.underlying3 (U0 _) B d E2 rfl (P4.out _) _ _ rfl n ?_;intro c R hwc;obtain rfl:c=0:=by(have Q:=N2.out.2 t.pc;rw[R,Q1.out] at Q;simpa using Q))
       go_ret
       refine⟨M1,?_,KF.out _ (P5.out _)⟩
       rw[P6.out,Q1.out]
       rfl
      | true=>
       have Q1:=Lib.hid hF
       clear hF
       have G:=KP.out t _ P3.out (P5.out (Obj.cells #[.int .i64 t.pc,.int .i64 t.c0,.int .i64 t.c1,.int .i64 t.c2,.int .i64 t.c3,.int .i64 t.c4,.int .i64 t.c5,.int .i64 t.c6,.int .i64 t.c7,.int .i64 t.c8,.int .i64 t.c9] 179))
       cases N:fp t m with
       | false=>
        rw[N] at G
        have Q2:=Lib.hid N
        clear N
        go_wp2_with (first | (at_lookup;refine wpList_lookup_own_int (H:=Unit) _ rfl _ _ 328 rfl 3 3 .i64 NG Tryz.underlying328 Tryz.underlying3 (U0 _) B d E2 rfl (P4.out _) _ _ rfl n ?_;intro c R hwc;obtain rfl:c=1:=by(have Q:=N2.out.2 t.pc;rw[R,Q1.out] at Q;simpa using Q)) | (go_at_call 207;refine G.mono ?_;rintro e w3 ⟨rfl,K⟩))
        go_ret
        refine⟨M1,?_,KF.out _ ((P5.out _).trans (K.mono (by simp;omega)))⟩
        rw[P6.out,Q1.out,Q2.out]
        rfl
       | true=>
        rw[N] at G
        have Q2:=Lib.hid N
        clear N
        go_wp2_with (first | (at_lookup;refine wpList_lookup_own_int (H:=Unit) _ rfl _ _ 328 rfl 3 3 .i64 NG Tryz.underlying328 Tryz.underlying3 (U0 _) B d E2 rfl (P4.out _) _ _ rfl n ?_;intro c R hwc;obtain rfl:c=1:=by(have Q:=N2.out.2 t.pc;rw[R,Q1.out] at Q;simpa using Q)) | (go_at_call 207;refine G.mono ?_;rintro e w3 ⟨rfl,K⟩;have w3c:w3.cell? ⟨wr.heap.size,0,none⟩=some (.int .i64 t.pc):=(K.cell (by simp)).trans (by rw[iS (sr rfl _)];rfl)) | (at_mapUpdate;refine wpList_mapUpdate_own (H:=Unit) _ rfl _ _ _ 328 rfl 3 3 NG Tryz.underlying328 (plainElem prog 3) B d E2 rfl (AN (P4.out _) (K.block B (by simp;omega))) (by unfold maxLen;omega) _ _ _ rfl rfl n _ [] (plainElem_int Tryz.underlying3 (WalkArith.wf_i64 ω)) ?_;intro w4 hown4 hgrow4))
        go_roundg (l.aL.length-(q+1))
        case measure=>omega
        case rel=>
         have hb4:Below B f w4:=((P5.out _).trans (K.mono (by simp;omega))).grown hgrow4 (by have:=K.size;simp at this;omega) λj hj=>by cases hj;exact Zah _
         exact⟨q+1,_,d+1,_,ω,rfl,by go_num,hown4,ω,N2.out.put t.pc false,hb4,by rw[P6.out,Q1.out,Q2.out];rfl⟩
     ·obtain rfl:q=l.aL.length:=ω
      have c4:¬((l.aL.length:Int)<(l.aL.length:Int)):=ω
      go_wp2_with fail
      go_ret
      refine⟨?_,M1,KF.out _ N3.out⟩
      have e:uQ ⟨p,b,l,m⟩=true:=by rw[<-N4.out,ZbH];rfl
      rw[e]
      rfl
theorem Qju:Ok QiG:=by
 refine⟨⟨f208,_,by kernel_rfl,cI (by kernel_rfl)⟩,λy t M A w a i j R h=>?_⟩;obtain⟨p,r,l,m⟩:=y;obtain⟨k,h0,h1,g⟩:=t;obtain⟨A⟩:=A;obtain⟨v,A,rfl,a0,a⟩:=LR.aP a;obtain⟨x,A,rfl,f,a⟩:=a.aP;obtain⟨z,A,rfl,a2,a⟩:=a.aP;obtain⟨v3,A,rfl,a3,a⟩:=a.aP;obtain rfl:=a.jD;obtain rfl:=fF f;obtain⟨rfl,q⟩:=ei a3;obtain⟨n,rfl⟩:=Zau h0;have b:n<p.aj.length:=Zd0.1 h1;have c:p.aj[n]?=some (ZB ⟨p,n,l,m⟩):=by
  show _=some (p.aj.getD (Int.toNat n) 0)
  grind
 exact(κ b c k g i j q a0 a2).mono λe u ⟨d,o,s⟩=>by rw[o];exact h d _ u (.bool _) s.Qbu
end sx
set_option maxRecDepth 100000
set_option maxHeartbeats 4000000
namespace sx
noncomputable section
open Go Go.RowKit cls syn
structure fZ where
 p:ej
 m:Int
 L:List b5
def NH (l:b5):bA:=⟨0,l.c0,l.c1,l.c2,l.c3,l.c4,l.c5,l.c6,l.c7,l.c8,l.c9⟩
def wlN (l:b5):Bool:=(oq (NH l)).all λx=>decide (x= -1)
def uq (y:fZ) (i:Nat):Bool:=!(!(y.L.getD i fl).done&&!wlN (y.L.getD i fl))&&fp (NH (y.L.getD i fl)) y.m&&uQ ⟨y.p,i,y.L.getD i fl,y.m⟩
def f_ (y:fZ):Nat->Bool
 | 0=>true
 | k+1=>f_ y k&&uq y k
def gC (y:fZ):Bool:=lk (decide (0<=y.m)&&decide (y.m<=1099511627776)&&decide (y.L.length=y.p.aj.length)&&f_ y y.L.length)
def pz (y:fZ):Prop:=qP y.p/\y.L.length<=1000/\∀l∈y.L,l.aL.length<=1000000
def mcA (y:fZ):AV D.E:=.agg [.int .i64 y.m,.list 2 y.L]
def Qjw (v:AV D.E) (s:St D.E):C (Int×List b5):=aA (asAgg v) λcs=>match cs with
 | [m,l]=>aQ (da m) λ_ m=>aA (aW D s 2 l) λl=>.ret (m,(l:List b5))
 | _=>.fail
def Qjx (a:List (AV D.E)) (s:St D.E):C fZ:=match a with
 | [p,m]=>aA (DC p s) λp=>aQ (Qjw m s) λm l=>.ret ⟨p,m,l⟩
 | _=>.fail
def Ix:bk D:=bP 165 fZ Qjx pz (λy=>[yp y.p,mcA y]) λy=>.bool (gC y)
def Qrz (y:Ix.Y):cU D:=⟨[],[],[(58,⟨Nat,[30,31],λk=>[(2,.ptr 0 0),(3,.ptr 1 0),(32,QtJ k)],[],λ_=>[Ob (fZ.p y),(1,.cells [QtJ (fZ.m y),.list 2 (fZ.L y)] 31 false)],2,λk=>k<=(fZ.L y).length/\f_ y k,λk=>(fZ.L y).length-k⟩)],[],1,[]⟩
def U1 (y:fZ):Prop:=let d:=ah y.L;let q1:=y.L.length;let k:=az 1099511627776 y.m;let l:=!(aC d (ah y.p.aj));let e:=λp:Prop=>RAQ y.L d p;let f:=λp:Prop=>RAQ y.m y.L (RA2 y.p p);let n:Prop:=(RAP y.m (false=gC y/\True));Iv (qP y.p)/\RA2 y.p (ak (az y.m 0) (false=gC y/\True) (ak k (false=gC y/\True) (ak l (false=gC y/\True) ((∃z:Nat,e (0=(z:Int)/\f ((Iv (z<=q1/\f_ y z)))))/\(∀x:Nat,let a:=gt (b5.mk false 0 0 0 0 0 0 0 0 0 0 []) y.L (x:Int).toNat;let c:=B'.mk y.p (x:Int) a y.m;let h:=!(fp (bA.mk 0 a.c0 a.c1 a.c2 a.c3 a.c4 a.c5 a.c6 a.c7 a.c8 a.c9) y.m);let g:=!((aC a.c0 (-1))&&((aC a.c1 (-1))&&((aC a.c2 (-1))&&((aC a.c3 (-1))&&((aC a.c4 (-1))&&((aC a.c5 (-1))&&((aC a.c6 (-1))&&((aC a.c7 (-1))&&((aC a.c8 (-1))&&(aC a.c9 (-1)))))))))));let b:=λp:Prop=>aa [a.c0,a.c1,a.c2,a.c3,a.c4,a.c5,a.c6,a.c7,a.c8,a.c9,y.m] p;let i:Prop:=(b (false=gC y/\True));let j:Prop:=(aa [a.c0,a.c1,a.c2,a.c3,a.c4,a.c5,a.c6,a.c7,a.c8,a.c9,y.m] (aa [y.p.ae] (aa [y.p.aj] (aa [a.done] (aa [a.c0,a.c1,a.c2,a.c3,a.c4,a.c5,a.c6,a.c7,a.c8,a.c9] (aa [a.aL] (aa [y.m] (ak (!(uQ c)) (false=gC y/\True) (∃z:Nat,e (aD .i64 (x:Int) 1=(z:Int)/\f ((Iv ((z<=q1/\f_ y z)/\(q1-z)<(q1-x))))))))))))));(Iv (x<=q1/\f_ y x))->ak (az (x:Int) d) (aI 0 (x:Int)/\az (x:Int) d/\ak (!a.done) (Iv True/\ak g (aa [a.done] (aa [a.c0,a.c1,a.c2,a.c3,a.c4,a.c5,a.c6,a.c7,a.c8,a.c9,a.c0,a.c1,a.c2,a.c3,a.c4,a.c5,a.c6,a.c7,a.c8,a.c9] (false=gC y/\True))) (Iv True/\b (ak h (aa [a.done] (aa [a.c0,a.c1,a.c2,a.c3,a.c4,a.c5,a.c6,a.c7,a.c8,a.c9,a.c0,a.c1,a.c2,a.c3,a.c4,a.c5,a.c6,a.c7,a.c8,a.c9,a.c0,a.c1,a.c2,a.c3,a.c4,a.c5,a.c6,a.c7,a.c8,a.c9,y.m] (false=gC y/\True))) (Iv (wtP c)/\aa [y.p.ae] (aa [y.p.aj] (aa [(x:Int)] (aa [a.done] (aa [a.c0,a.c1,a.c2,a.c3,a.c4,a.c5,a.c6,a.c7,a.c8,a.c9] (aa [a.aL] (aa [y.m] (aa [a.done] (aa [a.c0,a.c1,a.c2,a.c3,a.c4,a.c5,a.c6,a.c7,a.c8,a.c9,a.c0,a.c1,a.c2,a.c3,a.c4,a.c5,a.c6,a.c7,a.c8,a.c9,a.c0,a.c1,a.c2,a.c3,a.c4,a.c5,a.c6,a.c7,a.c8,a.c9,y.m] (aa [y.p.ae] (aa [y.p.aj] (aa [a.done] (aa [a.c0,a.c1,a.c2,a.c3,a.c4,a.c5,a.c6,a.c7,a.c8,a.c9] (aa [a.aL] (aa [y.m] (ak (!(uQ c)) (false=gC y/\True) (∃z:Nat,e (aD .i64 (x:Int) 1=(z:Int)/\f ((Iv ((z<=q1/\f_ y z)/\(q1-z)<(q1-x))))))))))))))))))))))))) (Iv True/\b (ak h (aa [a.done] (aa [a.c0,a.c1,a.c2,a.c3,a.c4,a.c5,a.c6,a.c7,a.c8,a.c9,y.m] (false=gC y/\True))) (Iv (wtP c)/\aa [y.p.ae] (aa [y.p.aj] (aa [(x:Int)] (aa [a.done] (aa [a.c0,a.c1,a.c2,a.c3,a.c4,a.c5,a.c6,a.c7,a.c8,a.c9] (aa [a.aL] (aa [y.m] (aa [a.done] (aa [a.c0,a.c1,a.c2,a.c3,a.c4,a.c5,a.c6,a.c7,a.c8,a.c9,y.m] (aa [y.p.ae] (aa [y.p.aj] (aa [a.done] (aa [a.c0,a.c1,a.c2,a.c3,a.c4,a.c5,a.c6,a.c7,a.c8,a.c9] (aa [a.aL] (aa [y.m] (ak (!(uQ c)) (false=gC y/\True) (∃z:Nat,e (aD .i64 (x:Int) 1=(z:Int)/\f ((Iv ((z<=q1/\f_ y z)/\(q1-z)<(q1-x))))))))))))))))))))))))) (true=gC y/\True))))))
theorem ER {y:fZ}:∀{n k:Nat},k<=n->f_ y n->f_ y k
 | 0,k,h,e=>by
  obtain rfl:k=0:=ω;exact e
 | n+1,k,h,e=>by
  rw[f_,ZaW] at e;by_cases hk:k=n+1
  ·grind [f_]
  ·exact ER ω e.1
theorem kr (y:fZ):gC y=(decide (0<=y.m)&&decide (y.m<=1099511627776)&&decide (y.L.length=y.p.aj.length)&&f_ y y.L.length):=aJ _
theorem Iy {y:fZ} {x:Nat} (a:x<y.L.length) (h:uq y x=false):false=gC y:=by
 rw[kr];cases e:f_ y y.L.length with
 | false=>simp
 | true=>
  have:=ER (show x+1<=y.L.length by omega) e;grind [f_]
def U2 (l:b5):wlN l=decide (l.c0= -1/\l.c1= -1/\l.c2= -1/\l.c3= -1/\l.c4= -1/\l.c5= -1/\l.c6= -1/\l.c7= -1/\l.c8= -1/\l.c9= -1):=by simp[wlN,NH,oq]
theorem QrB (y:fZ) (j:pz y):U1 y:=by
 unfold U1;have⟨h,q,i⟩:=j;have⟨s,u,v,w,k,l⟩:=h;simp only[bN,bh,aw,di,Zad,Zan,Zao];refine⟨h,λk1=>?_,λk1=>⟨λk2=>?_,λk2=>⟨λk3=>?_,λk3=>⟨⟨0,rfl,Zaj _,rfl⟩,λx r=>⟨λk4=>?_,λk4=>?_⟩⟩⟩⟩⟩
 ·grind [kr]
 ·grind [kr]
 ·grind [kr]
 ·have b:x<y.L.length:=ω;have d:x<y.p.aj.length:=ω;have ht:y.L.getD x fl∈y.L:=by grind
  have hw:wtP ⟨y.p,↑x,y.L.getD x fl,y.m⟩:=by
   have⟨n,o,_⟩:=l x d;exact⟨⟨k,n,o⟩,ZaF _,Zd0.2 d,i _ ht⟩
  have hi:aD .i64 ↑x 1=((x+1:Nat):Int):=bG ω ω;have g:uq y x->f_ y (x+1):=λe=>by grind [f_]
  have f:(⟨false,0,0,0,0,0,0,0,0,0,0,[]⟩:b5)=fl:=rfl;have c:∀e:uq y x,∃z:Nat,aD .i64 ↑x 1=↑z/\(z<=y.L.length/\f_ y z)/\y.L.length-z<y.L.length-x:=λe=>⟨x+1,hi,⟨b,g e⟩,ω⟩
  have a:=Iy b;simp only[f];have hu:uq y x=(!(!(y.L.getD x fl).done&&!wlN (y.L.getD x fl))&&fp (NH (y.L.getD x fl)) y.m&&uQ ⟨y.p,x,y.L.getD x fl,y.m⟩):=rfl;rw[U2] at hu;unfold NH at hu;generalize uQ ⟨y.p,x,y.L.getD x fl,y.m⟩=W at*
  generalize fp ⟨0,(y.L.getD x fl).c0,(y.L.getD x fl).c1,(y.L.getD x fl).c2,(y.L.getD x fl).c3,(y.L.getD x fl).c4,(y.L.getD x fl).c5,(y.L.getD x fl).c6,(y.L.getD x fl).c7,(y.L.getD x fl).c8,(y.L.getD x fl).c9⟩ y.m=PP at*
  generalize y.L.getD x fl=t at*
  refine⟨ω,ω,λk5=>⟨λk6=>a ?_,λk6=>⟨λk7=>a ?_,λk7=>⟨hw,λk8=>a ?_,λk8=>c ?_⟩⟩⟩,λk5=>⟨λk7=>a ?_,λk7=>⟨hw,λk8=>a ?_,λk8=>c ?_⟩⟩⟩
  all_goals rw[hu]
  all_goals simp_all [aC]
 ·grind [kr]
def Qbv (a:Ok cK):Ok Ix:=okZ [Gx,Me,T9,QiG] f165 Qrz ⟨QaD a,Qav,Qbp,Qju⟩ QrB
def ν (x:aV) (i:Int):List Int:=if x.op=2 then[x.x,x.y] else if x.op=3 then[x.x] else if x.op=7 then[] else[i+1]
def tz (ae:List aV) (i:Int):List Int:=ν (ae.getD i.toNat cV) i
def U3 (a:List (AV D.E)) (s:St D.E):C (ej×Int):=match a with
 | [p,i]=>aA (DC p s) λp=>aQ (da i) λ_ i=>.ret (p,i)
 | _=>.fail
def Qd3 (y:ej×Int):Prop:=0<=y.2/\y.2<y.1.ae.length/\y.1.ae.length<=1000
def ξ:bk D:=bP 238 (ej×Int) U3 Qd3 (λy=>[yp y.1,QtJ y.2]) λy=>.list 5 (tz y.1.ae y.2)
def uU (y:ej×Int):Int:=y.1.aj.getD y.2.toNat 0
def ο (y:ej×Int):Prop:=Mo (y.1.ae,uU y)/\0<=y.2/\y.2<y.1.aj.length
def NI:bk D:=bP 200 (ej×Int) U3 ο (λy=>[yp y.1,QtJ y.2]) λy=>.list 17 (lF y.1.ae (uU y))
def QrD (y:NI.Y):cU D:=⟨[],[3,4],[(124,⟨rY,[],λx=>[(2,.ptr 0 0),(5,.own 1 1 (ah x.s)),(6,.own 2 1 (ah x.l))],[],λx=>[Ob (Prod.fst (α:=ej) y),(1,.arr 17 x.s 4 false),(2,.arr 5 x.l 3 false)],3,qi ((Prod.fst (α:=ej) y).ae,uU y),λx=>x.f⟩)],[],1,[]⟩
def Qd4 (y:ej×Int):Prop:=Xn y/\Gv y.1 y.2
def π:bk D:=bP 237 (ej×Int) U3 Qd4 (λy=>[yp y.1,QtJ y.2]) λ_=>.lit true
def U4:bk D:={ Gx with f:=198 }
def QrG (y:U4.Y):cU D:=⟨[],[],[(58,⟨Nat,[],λk=>[(1,.ptr 0 0),(3,QtJ k)],[],λ_=>[Ob y],1,λk=>k<=(ej.ae y).length,λk=>(ej.ae y).length-k⟩),
 (122,⟨Nat,[],λk=>[(1,.ptr 0 0),(4,QtJ k)],[],λ_=>[Ob y],1,λk=>k<=(ej.aj y).length,λk=>(ej.aj y).length-k⟩),
 (250,⟨Nat,[],λk=>[(1,.ptr 0 0),(5,QtJ k)],[],λ_=>[Ob y],1,λk=>k<=(ej.aj y).length,λk=>(ej.aj y).length-k⟩)],[],1,
 [(32038,⟨Nat,λr=>⟨Nat,[5,6],λk=>[(1,.ptr 0 0),(7,QtJ k)],[],λ_=>[Ob y],1,λk=>k<=(ej.ae y).length/\r<(ej.aj y).length,λk=>(ej.ae y).length-k⟩,none⟩)]⟩
def ρ:bk D:={ Me with f:=99 }
def Qjy:bk D:={ T9 with f:=199 }
def Qbw (y:ej×Int):Prop:=let a:=tz y.1.ae y.2;let q1:=gt (aV.mk 0 0 0 []) y.1.ae y.2.toNat;aI 0 y.2/\az y.2 (ah y.1.ae)/\ak (aC q1.op 2) (([q1.x,q1.y]:List Int)=a/\True) (ak (aC q1.op 3) (([q1.x]:List Int)=a/\True) (ak (aC q1.op 7) ([]=a/\True) (([aD .i64 y.2 1]:List Int)=a/\True)))
def Qbx (y:ej×Int):Prop:=let d:=ah y.1.ae;let q1:=lF y.1.ae (uU y);let e:=mf d false;let m:=aI (ah y.1.aj) y.2;let k:=([gt 0 y.1.aj y.2.toNat]:List Int);let j:=λp:Prop=>RA2 y.1 p;aI 0 d/\aI d d/\bF d 1/\ak (az y.2 0) (e=q1/\True) (ak m (e=q1/\True) (aI 0 y.2/\az y.2 (ah y.1.aj)/\(∃z:rY,ah e=ah z.s/\ah k=ah z.l/\k=z.l/\e=z.s/\j ((Iv (qi (y.1.ae,uU y) z))))/\(∀x:rY,let g:=ah x.l;let b:=cQ .i64 g 1;let i:=(y.1.ae,uU y);let a:=gt 0 x.l b.toNat;let h:=gt false x.s a.toNat;let c:=bM (dv x.l b) (tz y.1.ae a);(Iv (qi i x))->ak (az 0 g) (aI 0 b/\az b g/\aI 0 b/\aI b g/\aI 0 a/\az a (ah x.s)/\ak h (∃z:rY,ah x.s=ah z.s/\b=ah z.l/\dv x.l b=z.l/\x.s=z.s/\j ((Iv (qi i z/\z.f<x.f)))) (aI 0 a/\az a (ah x.s)/\Iv (Qd3 (y.1,a))/\RA2 y.1 (RAP a (bF (ah c) 8/\∃z:rY,ah x.s=ah z.s/\ah c=ah z.l/\c=z.l/\cO x.s a.toNat true=z.s/\j ((Iv (qi i z/\z.f<x.f))))))) (x.s=q1/\True))))
def Qby (y:ej×Int):Prop:=let a:=ah y.1.ae;let q1:=gt (aV.mk 0 0 0 []) y.1.ae y.2.toNat;let c:=ah q1.bm;let i:=aI (ah y.1.aj) q1.x;let j:=!(decide (q1.bm=aX q1.bm));let d:Prop:=(az (aD .i64 y.2 1) a/\True);let e:Prop:=(ak (aC c 0) (True) (False));let f:Prop:=(ak (aC q1.y 0) (ak (aC c 0) (d) (False)) (False));let g:Prop:=(ak (aC q1.x 0) (f) (False));let h:Prop:=(ak (aC q1.x q1.x) (ak (aC q1.y 0) (e) (False)) (False));let b:Prop:=(ak (aC q1.op 7) (ak (az q1.x 0) (False) (ak i (False) (h))) (False));aI 0 y.2/\az y.2 a/\ak (aC q1.op 1) (Iv (q1.bm.length<=2000000)/\RAP q1.bm (ak j (False) (ak (aC q1.x 0) (ak (aC q1.y 0) (ak (aC c c) (d) (False)) (False)) (False)))) (ak (aC q1.op 2) (RAR q1.x q1.y q1.y (ak (az q1.x 0) (False) (ak (aI a q1.x) (False) (ak (az q1.y 0) (False) (ak (aI a q1.y) (False) (ak (aC q1.x q1.x) (ak (aC q1.y q1.y) (e) (False)) (False))))))) (ak (aC q1.op 3) (ak (az q1.x 0) (False) (ak (aI a q1.x) (False) (h))) (ak (aC q1.op 4) (ak (az q1.x 0) (False) (ak (aI 10 q1.x) (False) (ak (aC q1.x q1.x) (f) (False)))) (ak (aC q1.op 5) (ak (aC q1.op 5) (g) (b)) (ak (aC q1.op 6) (g) (b))))))
def Qbz (y:ej):Prop:=let b:=y.ae.length;let q1:=ah y.aj;let a:=y.aj.length;let m:=ah y.ae;let h:=λp:Prop=>RA2 y p;let s:Prop:=(∃z:Nat,0=(z:Int)/\h ((Iv (z<=a))));ak (az 400 m) (False) (ak (az 8 q1) (False) ((∃z:Nat,0=(z:Int)/\h ((Iv (z<=b))))/\(∀x:Nat,(Iv (x<=b))->ak (az (x:Int) m) (Iv (Qd4 (y,(x:Int)))/\RA2 y (RAP (x:Int) (∃z:Nat,aD .i64 (x:Int) 1=(z:Int)/\h ((Iv (z<=b/\(b-z)<(b-x))))))) ((s)/\(∀i:Nat,let q:=az (i:Int) q1;let k:=gt 0 y.aj (i:Int).toNat;(Iv (i<=a))->ak q (aI 0 (i:Int)/\q/\ak (az k 0) (RAQ y.aj k (False)) (aI 0 (i:Int)/\q/\RAU y.aj k y.aj k y.ae (ak (aI m k) (False) (∃z:Nat,aD .i64 (i:Int) 1=(z:Int)/\h ((Iv (z<=a/\(a-z)<(a-i)))))))) ((s)/\(∀e:Nat,let t:=az (e:Int) q1;let r:=lF y.ae (uU (y,(e:Int)));let l:=λp:Prop=>RAQ (e:Int) r p;(Iv (e<=a))->ak t (Iv (ο (y,(e:Int)))/\RA2 y (RAP (e:Int) (∃z:Nat,(∃d:Nat,l (0=(d:Int)/\h ((Iv (d<=b/\z<a)))))/\(∀c:Nat,let f:=az (c:Int) m;let n:=gt false r (c:Int).toNat;let j:=gt (aV.mk 0 0 0 []) y.ae (c:Int).toNat;let o:=!(aC j.x (e:Int));let g:Prop:=(∃d:Nat,l (aD .i64 (c:Int) 1=(d:Int)/\h ((Iv ((d<=b/\z<a)/\(b-d)<(b-c))))));(Iv (c<=b/\z<a))->ak f (aI 0 (c:Int)/\az (c:Int) (ah r)/\ak n (aI 0 (c:Int)/\f/\ak (aC j.op 7) (aI 0 (c:Int)/\f/\ak o (False) (g)) (g)) (g)) (∃d:Nat,aD .i64 (e:Int) 1=(d:Int)/\h ((Iv (d<=a/\(a-d)<(a-e))))))))) (True))))))))
theorem Qjz:Ok ξ:=okZ (V:=Qbw) [] f238 (λ_=>dr ()) trivial λy a=>by
 have⟨h1,b,c⟩:Qd3 y:=a;have hi:aD .i64 y.2 1=y.2+1:=bG ω ω;have e:gt (aV.mk 0 0 0 []) y.1.ae y.2.toNat=y.1.ae.getD y.2.toNat cV:=rfl;unfold Qbw tz ν;rw[hi,e];simp only[bh,bN,aw];grind
theorem Lb {ae:List aV} {i:Int} (a:tgP ae) (h0:0<=i) (h1:i<ae.length):(tz ae i).length<=2/\∀j∈tz ae i,0<=j/\j<(ae.length:Int):=by
 obtain⟨n,rfl⟩:=Zau h0;obtain⟨b,c,d⟩:=a.2 n ω;unfold tz;simp only[Zad];generalize ae.getD n cV=x at*
 unfold ν;grind
theorem NJ {y:List aV×Int} {f:Nat} {s:List Bool} {l:List Int} {m:Nat} (o:tgP y.1) (r:qi y ⟨f+1,s,l⟩) (q:l.length=m+1):(0<=l.getD m 0/\l.getD m 0<y.1.length)/\(s.getD (l.getD m 0).toNat false->qi y ⟨f,s,l.take m⟩)/\(s.getD (l.getD m 0).toNat false=false->qi y ⟨f,s.set (l.getD m 0).toNat true,l.take m++tz y.1 (l.getD m 0)⟩):=by
 obtain⟨c,e2,g,n,a⟩:=r;simp only at c e2 g n a;have hi:=e2 (l.getD m 0) (by grind);have hk:∀i∈l.take m,0<=i/\i<(y.1.length:Int):=λi hi=>e2 i (Zcg hi)
 have d:(l.take m).length=m:=by grind
 rw[j8,Zaa ω,q,Zde] at a;simp only at a;obtain⟨q1,e⟩:=Lb o hi.1 hi.2;generalize l.getD m 0=i at hi a q1 e ⊢;generalize l.take m=k at hk d a ⊢;have b:=ud s i.toNat ω;refine⟨hi,λh=>?_,λh=>?_⟩
 ·rw[Zac h] at a;exact⟨c,hk,by show 3*s.count false+k.length<=f;omega,by show f<=_;omega,a⟩
 ·rw[Zaa (by rw[h];decide)] at a;have b:=b h;refine⟨List.length_set.trans c,λj p=>(Zax.1 p).elim (hk j) (e j),?_,by show f<=_;omega,?_⟩
  ·show 3*(s.set i.toNat true).count false+(k++tz y.1 i).length<=f
   rw[Zab];omega
  ·show j8 y.1 f (s.set i.toNat true) (k++tz y.1 i)=_
   rw[<-a];unfold tz ν;grind
theorem QbA:Ok NI:=okZ (V:=Qbx) [ξ] f200 QrD Qjz λy v=>by
 obtain⟨⟨c1,B,C⟩,w,z⟩:ο y:=v;have c0:y.1.ae.length<=1000:=c1.1;unfold Qbx;simp only[bN,bh,aw,cO,br,a8];refine⟨ω,ω,ω,λh=>ω,λ_=>⟨λh=>ω,λ_=>⟨w,z,⟨⟨3*y.1.ae.length+1,JX y.1.ae.length,[uU y]⟩,rfl,rfl,rfl,rfl,by unfold JX;simp,λi hi=>?_,?_,Zah _,rfl⟩,λx d=>⟨λh=>?_,λh=>?_⟩⟩⟩⟩
 ·grind
 ·unfold JX;simp
 ·obtain⟨f,s,l⟩:=x;simp only at d h ⊢;have⟨p,e2,q,r,c⟩:=d;simp only at p e2 q r c;obtain⟨m,t⟩:∃m,l.length=m+1:=⟨l.length-1,ω⟩;obtain⟨f,rfl⟩:∃g,f=g+1:=⟨f-1,ω⟩;have u:cQ .i64 (l.length:Int) 1=(m:Int):=by
   grind
  obtain⟨q1,j,n⟩:=NJ c1 d t;have e:dv l (m:Int)=l.take m:=rfl;have a:(l.take m).length=m:=by grind
  rw[u,Zad,di,e];obtain⟨o,A⟩:=Lb c1 q1.1 q1.2;replace q1:0<=l.getD m 0/\l.getD m 0<(y.1.ae.length:Int):=q1;replace o:(tz y.1.ae (l.getD m 0)).length<=2:=o;generalize l.getD m 0=i at q1 j n o A ⊢;generalize l.take m=k at j n a ⊢;refine⟨ω,ω,ω,ω,q1.1,ω,λb=>⟨⟨f,s,k⟩,rfl,by rw[a],rfl,rfl,j b,Zbr _⟩,λb=>⟨q1.1,ω,⟨q1.1,q1.2,c0⟩,?_,⟨f,s.set i.toNat true,k++tz y.1.ae i⟩,by rw[Zbb],rfl,rfl,rfl,n b,Zbr _⟩⟩;rw[Zab];omega
 ·obtain⟨f,s,l⟩:=x;obtain⟨p,e2,q,r,c⟩:=d;simp only at c h ⊢;rw[<-c];cases f with
  | zero=>rfl
  | succ f=>rw[j8,Zac ω]
theorem QjA (g:Ok gW):Ok π:=okZ (V:=Qby) [xh] f237 (λ_=>dr ()) (QY g) λy i=>by
 obtain⟨⟨h1,e,j,f⟩,c⟩:Qd4 y:=i;have hi:aD .i64 y.2 1=y.2+1:=bG ω ω;have h:(gt (aV.mk 0 0 0 []) y.1.ae y.2.toNat).bm.length<=1000000:=by
  grind
 have d:Gv y.1 y.2=DL (gt (aV.mk 0 0 0 []) y.1.ae y.2.toNat) (az (y.2+1) (ah y.1.ae)) (ah y.1.ae) (ah y.1.aj):=rfl;have a:az y.2 (ah y.1.ae):=eV.2 e;rw[d] at c;unfold Qby;rw[hi];generalize gt (aV.mk 0 0 0 []) y.1.ae y.2.toNat=x at h c ⊢;simp only[bh,gx];refine⟨h1,a,?_⟩;unfold DL ia at c;clear f d a;generalize ah y.1.ae=n at*
 generalize ah y.1.aj=m at*
 generalize az (y.2+1) n=b at*
 have k:(0<x.bm.length)=¬x.bm.length=0:=by grind
 simp only[bN,aw] at c ⊢;clear hi
 with_reducible repeat' first | apply And.intro | intro _
 all_goals grind
def QjB (f:Ok gW):Ok U4:=okZ (V:=Qbz) [π,NI] f198 QrG ⟨QjA f,QbA⟩ λ(y:ej) j=>by
 obtain⟨p1,p2,p3,p4,p5,p6⟩:qP y:=j;unfold Qbz;simp only[bN,bh,aw,Zad,di,Zan,Zao];have up:∀{n x:Nat},x<n->n<=1000->∃z:Nat,aD .i64 (x:Int) 1=(z:Int)/\z<=n/\n-z<n-x:=λh m=>⟨_+1,bG ω ω,ω,ω⟩
 refine⟨λh=>ω,λh=>⟨λh=>ω,λh=>⟨⟨0,rfl,Zaj _⟩,λx i=>⟨λk=>?_,λk=>⟨⟨0,rfl,Zaj _⟩,λr g=>⟨λk=>?_,λk=>⟨⟨0,rfl,Zaj _⟩,λr g=>⟨λk=>?_,λk=>trivial⟩⟩⟩⟩⟩⟩⟩⟩
 ·have b:x<y.ae.length:=ω;exact⟨⟨⟨by show(0:Int)<=x;omega,k,by show y.ae.length<=1000;omega,p4⟩,p3 x b⟩,up b ω⟩
 ·have a:r<y.aj.length:=ω;obtain⟨d,a2,a3⟩:=p6 r a;exact⟨ω,k,λh=>ω,λ_=>⟨ω,k,λh=>ω,λ_=>up a ω⟩⟩
 ·have a:r<y.aj.length:=ω;obtain⟨d,a2,a3⟩:=p6 r a;have e:uU (y,↑r)=y.aj.getD r 0:=rfl;rw[e];refine⟨⟨⟨p5,d,a2⟩,by show(0:Int)<=r;omega,k⟩,r,⟨0,rfl,Zaj _,a⟩,λx i=>⟨λk2=>?_,λ_=>up a ω⟩⟩;have b:x<y.ae.length:=ω;obtain⟨z,l,z2,z3⟩:=up b ω;have c:∃z:Nat,aD .i64 (x:Int) 1=(z:Int)/\(z<=y.ae.length/\r<y.aj.length)/\y.ae.length-z<y.ae.length-x:=⟨z,l,⟨z2,a⟩,z3⟩;exact⟨ω,by rw[mR];exact k2,λs=>⟨ω,k2,λo=>⟨ω,k2,λh=>h (a3 x b s o),λ_=>c⟩,λ_=>c⟩,λ_=>c⟩
theorem U5:Ok ρ:=okZ (V:=JR) [] f99 (λ_=>⟨[],[],[],[],11,[]⟩) trivial λy a=>by
 grind [JR]
def QjC:Ok Qjy:=okZ (V:=KH) [] f199 (λ_=>⟨[],[],[],[],11,[]⟩) trivial λy _=>QiH y
def U6:bk D:=⟨166,List b5,λa s=>match a with
 | [l]=>aA (aW D s 2 l) λl=>.ret (l:List b5)
 | _=>.fail,qR,λy=>[.list 2 y],λ_=>[],λy=>.own 0 12 (ah y),λy=>[lsO 0 y],0,1⟩
def QrI (y:U6.Y):cU D:=⟨[],[6],[(58,⟨Nat,[6,7],λk=>[(3,.own 0 12 (ah (List.take k (y:List b5)))),(8,QtJ k)],[],λk=>[lsO 0 (List.take k (y:List b5))],1,λk=>k<=List.length (y:List b5),λk=>List.length (y:List b5) -k⟩)],[],1,[]⟩
def QjD (y:fZ):kz:=⟨y.p,y.m,y.L,⟨qM y.p.ae.length,fe⟩⟩
def QjE (y:fZ):Prop:=pz y/\gC y
def ψ:bk D:=⟨101,fZ,Qjx,QjE,λy=>[yp y.p,mcA y],λ_=>[],λ_=>.tuple [.ptr 0 0,.num .i64 0],λy=>vmR 0 3 5 (QjD y),0,6⟩
structure ja where
 v:fZ
 h:By
def swA (y:ja):AV D.E:=.agg [.list 0 y.h,.int .i64 y.v.m,.list 2 y.v.L]
def QjF (p v:AV D.E) (s:St D.E):C ja:=aA (DC p s) λp=>aA (asAgg v) λcs=>match cs with
 | [h,m,l]=>aA (aW D s 0 h) λh=>aQ (da m) λ_ m=>aA (aW D s 2 l) λl=>.ret ⟨⟨p,m,(l:List b5)⟩,(h:By)⟩
 | _=>.fail
def QjG (a:List (AV D.E)) (s:St D.E):C ja:=match a with
 | [p,v]=>QjF p v s
 | _=>.fail
def uV (h:By):Bool:=decide (h=[])||h_ h
def uxC:bk D:=⟨102,By×Bool,λa s=>aA (F9 a s) λh=>.split (uV h) (.ret (h,true)) (.ret (h,false)),λy=>y.2=uV y.1,λy=>[.list 0 y.1],λ_=>[],λy=>match y.2 with
 | true=>.tuple [.ptr 0 0,.num .i64 0]
 | false=>.tuple [.fC,.num .i64 4],λy=>match y.2 with
 | true=>dcO (ue y.1)
 | false=>[],0,1⟩
def Cs (y:ja):Prop:=pz y.v
def ES (y:ja):Bool:=gC y.v&&uV y.h
def U7:bk D:=bP 104 ja QjG Cs (λy=>[yp y.v.p,swA y]) λy=>.bool (ES y)
def gJ (y:ja):Prop:=Cs y/\ES y
def Γ (y:ja):qk:=⟨ue y.h,QjD y.v⟩
def Δ:bk D:=⟨60,ja,QjG,gJ,λy=>[yp y.v.p,swA y],λ_=>[],λ_=>.tuple [.ptr 0 0,.num .i64 0],λy=>Wb 0 5 7 (Γ y),0,8⟩
def lx (y:ja×Int):Bool:=ES y.1&&aC (aD .i64 y.1.v.m (ah y.1.h)) y.2
def U8:bk D:=bP 64 (ja×Int) (λa s=>match a with
 | [p,v,n]=>aA (QjF p v s) λy=>aQ (da n) λ_ n=>.ret (y,n)
 | _=>.fail) (λy=>Cs y.1) (λy=>[yp y.1.v.p,swA y.1,QtJ y.2]) λy=>.bool (lx y)
def U9 (y:List b5):Prop:=(∃z:Nat,RAQ y (ah y) (0=ah (List.take z y)/\0=(z:Int)/\[]=List.take z y/\(Iv (z<=y.length))))/\(∀x:Nat,let a:=y.length;let q1:=List.take x y;let c:=az (x:Int) (ah y);let b:=gt (b5.mk false 0 0 0 0 0 0 0 0 0 0 []) y (x:Int).toNat;let d:=ah (bM q1 [b]);(Iv (x<=a))->ak c (aI 0 (x:Int)/\c/\bF (ah b.aL) 88/\bF d 112/\∃z:Nat,RAQ y (ah y) (d=ah (List.take z y)/\aD .i64 (x:Int) 1=(z:Int)/\bM q1 [b]=List.take z y/\(Iv (z<=a/\(a-z)<(a-x))))) (ah q1=ah y/\q1=y/\True))
def QbB (y:fZ):Prop:=let a:=qM (y.p.ae.length:Int);Iv (qP y.p)/\RA2 y.p (Iv (pz y)/\aa [y.p.ae] (aa [y.p.aj] (aa [y.m] (aa [y.L] (ak (!(gC y)) (False) (Iv (qR y.L)/\aa [y.L] (aa [y.m,y.m] (aa [y.L] (aa [y.p.ae] (aa [y.p.aj] (aa [y.m,ah y.L,ah a,ah fe] (aa [fe] (aa [a] (aa [y.L] (True)))))))))))))))
def U' (y:List UInt8):Prop:=let a:Prop:=(Iv True/\cw (az 0 (dS y)) (sat y 0) 0=bg y 0/\cw (az 1 (dS y)) (sat y 1) 0=bg y 1/\cw (az 2 (dS y)) (sat y 2) 0=bg y 2/\cw (az 3 (dS y)) (sat y 3) 0=bg y 3/\ga 4 (dS y)=ite (y.length<=4) (y.length:Int) 4/\True);Iv True/\RAP y (ak (!(h_ y)) (ak (az 0 (ah y)) (False) (a)) (a))
def U_ (y:List UInt8):Prop:=Iv True/\aa [y] (ak (!(h_ y)) (ak (az 0 (ah y)) (True) (Iv True/\False)) (Iv True/\False))
def QbC (y:ja):Prop:=let a:=uV y.h;ak a (Iv (true=a)/\RAP y.h (Iv (pz y.v)/\aa [y.v.p.ae] (aa [y.v.p.aj] (aa [y.v.m] (aa [y.v.L] (gC y.v=ES y/\True)))))) (Iv (false=a)/\RAP y.h (false=ES y/\True))
def QbD (y:ja):Prop:=let a:=y.h.length;let q1:=qM (y.v.p.ae.length:Int);let b:=ite (a<=4) (a:Int) 4;Iv (QjE y.v)/\RA2 y.v.p (RAQ y.v.m y.v.L (Iv ((y.h=[])\/(h_ y.h))/\aa [y.h] (ak (!(aC 0 0)) (False) (aa [y.v.p.ae] (aa [y.v.p.aj] (aa [y.v.m,ah y.v.L,ah q1,ah fe] (aa [fe] (aa [q1] (aa [y.v.L] (aa [bg y.h 0,bg y.h 1,bg y.h 2,bg y.h 3,b] (True)))))))))))
def Lc (y:ja×Int):Prop:=Iv (Cs y.1)/\RA2 y.1.v.p (RAR y.1.h y.1.v.m y.1.v.L (ak (ES y.1) (aC (aD .i64 y.1.v.m (ah y.1.h)) y.2=lx y/\True) (false=lx y/\True)))
theorem QrR (y:List b5) (a:qR y):U9 y:=by
 unfold U9;simp only[bN,bh,aw,br,a8,di,Zad];have⟨h1,b⟩:=a;refine⟨⟨0,rfl,rfl,rfl,Zaj _⟩,λx c=>⟨λk=>?_,λk=>?_⟩⟩
 ·grind [List.take_append_getElem]
 ·grind
def QjI:Ok U6:=okZ [] f166 QrI trivial QrR
def Qd5 {y:fZ} (h:pz y):qR y.L:=⟨h.2.1,h.2.2⟩
def QjJ (a:Ok cK):Ok ψ:=okZ (V:=QbB) [TQ,Ix,U6] f101 (λ_=>dr ()) ⟨Qbj a,Qbv a,QjI⟩ λy c=>by
 unfold QbB;simp only[eN,Zai,fB];have⟨h1,b⟩:=c;exact⟨h1.1,h1,λe=>by(rw[b] at e;cases e),λ_=>Qd5 h1⟩
theorem QrS (y:By) (a:true=uV y):U' y:=by
 have h:=uoH y (by unfold uV at a;simpa using a.symm);unfold Xz at h;unfold U';grind
theorem QrT (y:By) (a:false=uV y):U_ y:=by
 unfold U_;have h0:y≠[]:=λe=>by rw[e] at a;cases a
 have h1:=Zbe.2 h0;grind [uV]
def QrU:Ok uxC:=QtT (k:=uxC) (T:=U') (F:=U_) [nJ,unC] f102 (λ_=>dr ()) id id (λ_=>rfl) ⟨vv,Qc3⟩ QrS QrT
theorem QjK (b:Ok cK):Ok U7:=okZ (V:=QbC) [uxC,Ix] f104 (λ_=>dr ()) ⟨QrU,Qbv b⟩ λy a=>by
 have a:pz y.v:=a;unfold QbC;simp only[fK,fB];grind [ES]
def QjL (c:Ok cK):Ok Δ:=okZ (V:=QbD) [ψ,uoC] f60 (λ_=>dr ()) ⟨QjJ c,Qm7⟩ λy d=>by
 unfold QbD;simp only[bh,je,mJ,Zan,Zao];have⟨h1,b⟩:=d;have a:=Bool.and_eq_true_iff.1 b;exact⟨⟨h1,a.1⟩,by have:=a.2;unfold uV at this;simpa using this,λe=>e rfl,λ_=>trivial⟩
theorem QjM (y:ja×Int) (a:Cs y.1):Lc y:=by
 unfold Lc;simp only[eN,fB];exact⟨a,λe=>by grind [lx],λe=>by grind [lx]⟩
def QjN (a:Ok cK):Ok U8:=okZ [U7] f64 (λ_=>dr ()) (QjK a) QjM
structure mc where
 h:By
 m:Int
 L:List b5
def ET (y:mc):List (AV D.E):=[.list 0 y.h,.int .i64 y.m,.list 2 y.L]
def yh (h m l:AV D.E) (s:St D.E):C mc:=aA (aW D s 0 h) λh=>aQ (da m) λ_ m=>aA (aW D s 2 l) λl=>.ret ⟨(h:By),m,(l:List b5)⟩
def ju (y:mc):Bool:=aC (ah y.h) 0&&aC y.m 0&&aC (ah y.L) 0
def Va:bk D:=bP 66 mc (λa s=>match a with
 | [v]=>aA (asAgg v) λcs=>match cs with
  | [h,m,l]=>yh h m l s
  | _=>.fail
 | _=>.fail) (λ_=>True) (λy=>[.agg (ET y)]) λy=>.bool (ju y)
structure NK where
 l:List b5
 n:Int
 z:Int
def edC (d:Bool) (z:Int) (t:bA):Bool:=(oq t).all λx=>decide (-1<=x)&&decide (x<=z)&&(d||decide (x= -1))
def NM (y:NK) (i:Nat):Bool:=decide ((y.l.getD i fl).aL.length=0)&&edC (y.l.getD i fl).done y.z (NH (y.l.getD i fl))
def ly (y:NK):Nat->Bool
 | 0=>true
 | k+1=>ly y k&&NM y k
def gg (y:NK):Bool:=lk (decide ((y.l.length:Int)=y.n)&&ly y y.l.length)
def NN:bk D:=bP 67 NK (λa s=>match a with
 | [l,n,z]=>aA (aW D s 2 l) λl=>aQ (da n) λ_ n=>aQ (da z) λ_ z=>.ret ⟨(l:List b5),n,z⟩
 | _=>.fail) (λy=>y.l.length<=1000) (λy=>[.list 2 y.l,QtJ y.n,QtJ y.z]) λy=>.bool (gg y)
def QrW (y:NN.Y):cU D:=⟨[],[],[(58,⟨Nat,[2,15,16],λk=>[(17,QtJ k)],[],λ_=>[],0,λk=>k<=(NK.l y).length/\ly y k,λk=>(NK.l y).length-k⟩)],[],11,[]⟩
def Ld (y:mc):Prop:=ak (aC (ah y.h) 0) (ak (aC y.m 0) (aC (ah y.L) 0=ju y/\True) (false=ju y/\True)) (false=ju y/\True)
def Vb (y:NK):Prop:=let b:=y.l.length;let q1:=ah y.l;let u:=λp:Prop=>RAR y.z y.l q1 p;ak (!(aC q1 y.n)) (false=gg y/\True) ((∃z:Nat,u (0=(z:Int)/\(Iv (z<=b/\ly y z))))/\(∀x:Nat,let a:=gt (b5.mk false 0 0 0 0 0 0 0 0 0 0 []) y.l (x:Int).toNat;let v:=az 0 (ah a.aL);let w:=!(aC a.c5 (-1));let A:=!(aC a.c4 (-1));let B:=!(aC a.c2 (-1));let C:=!(aC a.c6 (-1));let D:=!(aC a.c3 (-1));let o:=!(aC a.c7 (-1));let q:=!(aC a.c0 (-1));let r:=!(aC a.c1 (-1));let s:=!(aC a.c9 (-1));let t:=!(aC a.c8 (-1));let c:Prop:=(∃z:Nat,u (aD .i64 (x:Int) 1=(z:Int)/\(Iv ((z<=b/\ly y z)/\(b-z)<(b-x)))));let d:Prop:=(ak (az a.c9 (-1)) (false=gg y/\True) (ak (az y.z a.c9) (false=gg y/\True) (ak (!a.done) (ak s (false=gg y/\True) (c)) (c))));let e:Prop:=(ak (az a.c8 (-1)) (false=gg y/\True) (ak (az y.z a.c8) (false=gg y/\True) (ak (!a.done) (ak t (false=gg y/\True) (d)) (d))));let f:Prop:=(ak (az a.c7 (-1)) (false=gg y/\True) (ak (az y.z a.c7) (false=gg y/\True) (ak (!a.done) (ak o (false=gg y/\True) (e)) (e))));let g:Prop:=(ak (az a.c6 (-1)) (false=gg y/\True) (ak (az y.z a.c6) (false=gg y/\True) (ak (!a.done) (ak C (false=gg y/\True) (f)) (f))));let h:Prop:=(ak (az a.c5 (-1)) (false=gg y/\True) (ak (az y.z a.c5) (false=gg y/\True) (ak (!a.done) (ak w (false=gg y/\True) (g)) (g))));let i:Prop:=(ak (az a.c4 (-1)) (false=gg y/\True) (ak (az y.z a.c4) (false=gg y/\True) (ak (!a.done) (ak A (false=gg y/\True) (h)) (h))));let j:Prop:=(ak (az a.c3 (-1)) (false=gg y/\True) (ak (az y.z a.c3) (false=gg y/\True) (ak (!a.done) (ak D (false=gg y/\True) (i)) (i))));let k:Prop:=(ak (az a.c2 (-1)) (false=gg y/\True) (ak (az y.z a.c2) (false=gg y/\True) (ak (!a.done) (ak B (false=gg y/\True) (j)) (j))));let m:Prop:=(ak (az a.c1 (-1)) (false=gg y/\True) (ak (az y.z a.c1) (false=gg y/\True) (ak (!a.done) (ak r (false=gg y/\True) (k)) (k))));(Iv (x<=b/\ly y x))->ak (az (x:Int) q1) (aI 0 (x:Int)/\az (x:Int) q1/\ak v (false=gg y/\True) (ak (az a.c0 (-1)) (false=gg y/\True) (ak (az y.z a.c0) (false=gg y/\True) (ak (!a.done) (ak q (false=gg y/\True) (m)) (m))))) (true=gg y/\True)))
theorem QjO (y:mc) (_:True):Ld y:=by
 grind [Ld,ju]
def QjP:Ok Va:=okZ [] f66 (λ_=>dr ()) trivial QjO
theorem tA (y:NK):gg y=(decide ((y.l.length:Int)=y.n)&&ly y y.l.length):=aJ _
theorem Lg {y:NK}:∀{n k:Nat},k<=n->ly y n->ly y k
 | 0,k,h,e=>by
  obtain rfl:k=0:=ω;exact e
 | n+1,k,h,e=>by
  rw[ly,ZaW] at e;by_cases hk:k=n+1
  ·grind [ly]
  ·exact Lg ω e.1
theorem QbE {y:NK} {x:Nat} (a:x<y.l.length) (h:NM y x=false):false=gg y:=by
 rw[tA];cases e:ly y y.l.length with
 | false=>simp
 | true=>
  have:=Lg (show x+1<=y.l.length by omega) e;grind [ly]
def Lh (c z:Int) (d:Bool):Bool:=decide (-1<=c)&&decide (c<=z)&&(d||decide (c= -1))
theorem Ζ {c z:Int} {d:Bool} {A q:Prop} (h1:Lh c z d=false->A) (a:Lh c z d->q):ak (az c (-1)) (A/\True) (ak (az z c) (A/\True) (ak (!d) (ak (!(aC c (-1))) (A/\True) q) q)):=by
 grind [Lh]
theorem QrY (y:NK) (c:NN.pre y):Vb y:=by
 replace c:y.l.length<=1000:=c;unfold Vb;rw[l7];refine⟨λk=>?_,λk=>⟨?_,λx g=>?_⟩⟩
 ·grind [tA]
 ·simp only[eN,fB];exact⟨0,rfl,Zaj _,rfl⟩
 ·simp only[fB] at g;rw[l7];refine⟨λh=>?_,λh=>?_⟩
  ·simp only[eV,aw] at h;have b:x<y.l.length:=ω;have i:NM y x=false->false=gg y:=QbE b;have f:NM y x->ly y (x+1):=λe=>by grind [ly]
   have a:(⟨false,0,0,0,0,0,0,0,0,0,0,[]⟩:b5)=fl:=rfl;have hu:NM y x=(decide ((y.l.getD x fl).aL.length=0)&&edC (y.l.getD x fl).done y.z (NH (y.l.getD x fl))):=rfl;have hi:aD .i64 (x:Int) 1=((x+1:Nat):Int):=bG ω ω;simp only[a,di,Zad,eN,fB,gx,eV,aw,hi];generalize y.l.getD x fl=t at*
   have d:edC t.done y.z (NH t)=(Lh t.c0 y.z t.done&&Lh t.c1 y.z t.done&&Lh t.c2 y.z t.done&&Lh t.c3 y.z t.done&&Lh t.c4 y.z t.done&&Lh t.c5 y.z t.done&&Lh t.c6 y.z t.done&&Lh t.c7 y.z t.done&&Lh t.c8 y.z t.done&&Lh t.c9 y.z t.done):=by
    simp[edC,NH,oq,Lh,Bool.and_assoc]
   rw[d] at hu;refine⟨ω,h,?_⟩;rw[l7];grind [Ζ]
  ·grind [tA]
def QjQ:Ok NN:=okZ [] f67 QrW trivial QrY
end
end sx
namespace sx
open Go Go.RowKit cls syn
def QjR (p:ej):(TR p).L=p.aj.map jV:=by simp[TR,W_,QdO,lS]
end sx
set_option maxRecDepth 100000
set_option maxHeartbeats 4000000
namespace sx
noncomputable section
open Go Go.RowKit cls syn
def Η:bk D:=⟨68,jU,Zk,λ_=>True,λ_=>[.ptr 0 0],Ey,λy=>QtJ (ah y.s.r),Ey,3,3⟩
structure iX where
 ru:jU
 st:uP
 aT:mc
 ay:mc
 aM:mc
def sD (p:ej) (s:mc):ja:=⟨⟨p,s.m,s.L⟩,s.h⟩
def Ct (y:iX):Int:=if y.st.bO=true then 0 else cQ .i64 y.st.pos y.st.bd
def wsT (p:ej) (s:mc) (n:Int):Bool:=lx (sD p s,n)
def Of (y:iX):Bool:=!(az y.st.bd 0||az y.st.pos y.st.bd||az 1099511627776 y.st.pos||!(y.st.bO==az 200 (cQ .i64 y.st.pos y.st.bd)))
def Vc (y:iX):Bool:=wsT y.ru.p y.ay (Ct y)&&(if iW y.ru=true then wsT y.ru.q y.aM (Ct y) else ju y.aM)
def EU (y:iX):Bool:=if y.st.eI=false then aC y.st.aZ 0&&aC y.st.size 0&&aC (ah y.st.aS) 0&&ju y.aT
   else iW y.ru&&!y.st.bO&&aI 0 y.st.size&&aI y.st.size 500&&aI 0 y.st.aZ&&aC y.st.aZ (cQ .i64 (cQ .i64 y.st.bd y.st.size) 1)&&gg ⟨y.st.aS,ah y.ru.s.r,y.st.size⟩&&wsT y.ru.p y.aT (aD .i64 (aD .i64 y.st.size 1) (Ct y))
def eL (y:iX):Bool:=lk (Of y&&Vc y&&EU y)
def Iz (y:iX):Prop:=Cs (sD y.ru.p y.ay)/\Cs (sD y.ru.p y.aT)/\og y.ru.q/\(iW y.ru->Cs (sD y.ru.q y.aM))/\y.st.aS.length<=1000
def wsA (y:iX):AV D.E:=HG y.st (ET y.aT) (ET y.ay) (ET y.aM)
def Qd6 (r x:AV D.E) (s:St D.E):C iX:=aA (QdN r s) λr=>aA (asAgg x) λcs=>match cs with
  | [p,l,g,o,e,z,n,h1,p1,h,b,p2,i,f,p3,j]=>aQ (da p) λ_ p=>aQ (da l) λ_ l=>aQ (AZ g) λg _=>aQ (AZ o) λo _=>aQ (da e) λ_ e=>aQ (da z) λ_ z=>aA (aW D s 2 n) λn=>aA (yh h1 p1 h s) λc=>aA (yh b p2 i s) λa=>aA (yh f p3 j s) λd=>.ret ⟨r,⟨p,l,g,o,e,z,n⟩,c,a,d⟩
  | _=>.fail
def Vd:bk D:=⟨24,iX,λa s=>match a with
 | [r,x]=>Qd6 r x s
 | _=>.fail,Iz,λy=>[.ptr 0 0,wsA y],λy=>Ey y.ru,λy=>.bool (eL y),λy=>Ey y.ru,3,3⟩
end
end sx
end Go.Proofs.YtiiiphndmbabcaaGreat
