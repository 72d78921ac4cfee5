/- PointAny: a part of the proof. -/
import Derived.Test.YtiiiphndmbabcaaGreatC9
import Derived.Deep.RegionHeld3
import Derived.Maps.OwnOps
import Derived.Maps.Views
import Derived.Maps.OwnSet
set_option linter.all false
namespace Go.Proofs.YtiiiphndmbabcaaGreat
open Go.Proofs.Tryz
set_option maxRecDepth 100000
set_option maxHeartbeats 4000000
namespace sx
noncomputable section
open Go Go.RowKit cls syn
variable {s:dr} {l:List ah} {a:List Int} {Z:dr->dr}
theorem ϧ (h:s.bU):lB l s=s:=by
 cases l with
 | nil=>rw[lB]
 | cons t l=>rw[lB,Zac h]
theorem co3 {b:dr} (h:s=b):(s.af.length:Int)=(b.af.length:Int)/\s.bU=b.bU/\s.af=b.af:=by grind
theorem LO (h:0<l.length) (s:dr):Pk l s=i_ (l.getD 0 bF) s:=by
 cases l with
 | nil=>cases h
 | cons t l=>rw[Pk];rfl
theorem QsI (y:dr×ah) (I:Jl.pre y):We y:=by
 have⟨s,t⟩:=y;obtain⟨h1,c⟩:s.af.length<=400/\F8 t:=I;have hk:=c.1.few;have wf:=(iQ t).mp c.2;have C:∀s t,eC (s,t)=i_ t s:=λs t=>by grind [eC,aC]
 have A:yT (s,t.ae)=dZ (ll (fX t.ae s []).1.af.length) (fX t.ae s []).1 (fX t.ae s []).2:=by
  grind [yT,n_,aC,kk]
 have B:∀n k,pM ⟨s,n,k⟩=yR (i_ k) (jS k) n.mn n.mx n.lz s:=λn k=>by grind [pM,aC]
 have E:=sU t s;unfold We;have G:∀(l:List ah) n,gt (ah.mk 0 [] 0 0 false 0 0 []) l n=l.getD n bF:=λ_ _=>rfl
 simp only[bL,bC,au,G,bR,Zad,C,Zan,Zao];have Vs:∀x,x<t.ae.length->2*dm (t.ae.getD x bF)<2*dm t:=λx h=>by have:=iP h;omega
 refine⟨λb=>by grind,λb=>?_⟩;rw[Zaa (by grind)] at E;refine⟨λo=>⟨h1,by grind⟩,λo=>?_⟩;rw[Zaa o] at E;refine⟨λr=>?_,λr=>?_⟩
 ·refine⟨⟨(s,0),rfl,rfl,rfl,rfl,Zaj _,Gw.refl s,rfl⟩,λx h=>?_⟩;have⟨u,i⟩:=x;have⟨i1,i2,i3⟩:=h;have bU:u.bU->(u.af.length:Int)=((i_ t s).af.length:Int)/\u.bU=(i_ t s).bU/\u.af=(i_ t s).af:=λJ=>by
   grind [ϧ]
  refine⟨λe=>⟨λv=>?_,λv=>bU v⟩,λe=>?_⟩
  ·have f:i<t.ae.length:=ω;have D:t.ae.drop i=t.ae.getD i bF::t.ae.drop (i+1):=by simp_all
   rw[D,lB,Zaa (by grind)] at i3;exact⟨ω,e,⟨⟨i2.max h1,c.Vs f⟩,Vs i f⟩,(i_ (t.ae.getD i bF) u,i+1),bK ω,rfl,rfl,rfl,⟨f,i2.trans (l5 _ _),i3⟩,show t.ae.length-(i+1)<t.ae.length-i by omega⟩
  ·grind [lB]
 ·rw[Zaa r] at E;refine⟨λj=>?_,λj=>?_⟩
  ·rw[Zac j] at E;rw[A,<-E];refine⟨⟨⟨h1,b,hk,λk g=>?_⟩,by grind [yz]⟩,rfl,rfl,rfl⟩;obtain⟨i,hi,rfl⟩:=Za3 g;have:=c.Vs hi;grind
  ·rw[Zaa j] at E;refine⟨λd=>?_,λd=>?_⟩
   ·rw[Zac d] at E;have⟨w,p,q,w4⟩:=wf.1.rep d;have a:0<t.ae.length:=by grind
    have H:jS (t.ae.getD 0 bF)=CW t.ae:=by grind [jS,aC,LJ]
    have F:(λs=>Pk t.ae s)=i_ (t.ae.getD 0 bF):=funext λs=>LO a s
    rw[F] at E;rw[B,H,<-E];exact⟨ω,⟨⟨h1,b,c.Vs a,p,q,w4⟩,by grind⟩,rfl,rfl,rfl⟩
   ·rw[Zaa d] at E;refine⟨λm=>?_,λm=>?_⟩
    ·rw[Zac m] at E;have⟨w,p,q⟩:=wf.1.vg m;simp only at w p q;have a:0<t.ae.length:=ω;rw[LO a] at E;have e8:gG .i64 2 t.cap=2*t.cap:=xK ω ω;have z:ay .i64 (2*t.cap) 1=2*t.cap+1:=ba ω ω;rw[e8,z,<-E];have p1:=(eU s ⟨4,2*t.cap,0,[]⟩).1;exact⟨h1,ω,⟨⟨p1.max h1,c.Vs a⟩,Vs 0 a⟩,(l5 _ _).max (p1.max h1),rfl,rfl,rfl⟩
    ·grind
theorem yU {g:List aW->Int->List aW} {k:Nat} (hk:k<a.length) (b:(dZ g s (a.take k)).bU=false) (c:∀l j,(g l j).length=l.length):g (dZ g s (a.take k)).af (a.getD k 0)=(dZ g s (a.take (k+1))).af/\s.bU=false/\(dZ g s (a.take (k+1))).bU=false:=by
 grind [dZ,cq]
theorem QsJ (y:dr×List ah) (I:OE.pre y):Wf y:=by
 have⟨s,l⟩:=y;obtain⟨h1,L,M,D⟩:s.af.length<=400/\s.bU=false/\l.length<=1000000/\∀t∈l,F8 t:=I;have w:∀s t,eC (s,t)=i_ t s:=λs t=>by grind [eC,aC]
 have A:kk (s,l)=fX l s []:=by grind [kk,aC]
 have z:∀j,n_ (s,l) j=dZ (ll (kk (s,l)).1.af.length) (kk (s,l)).1 ((kk (s,l)).2.take j):=λj=>by grind [n_,aC]
 have B:yT (s,l)=n_ (s,l) (kk (s,l)).2.length:=by grind [yT,aC]
 have⟨K,a2,a3⟩:=yS l s [] (λ_ v c=>nomatch c);simp only[Zak,Za6] at a3;unfold Wf;have H:∀(l:List ah) n,gt (ah.mk 0 [] 0 0 false 0 0 []) l n=l.getD n bF:=λ_ _=>rfl
 have g:∀(l:List Int) n,gt 0 l n=l.getD n 0:=λ_ _=>rfl
 simp only[bL,bC,au,aT,br,H,g,bR,Zad,w,B,z,A,Zan,Zao,ZaY,ZaZ];have hw:∀x,x<l.length->F8 (l.getD x bF):=λx d=>D _ (by grind)
 have di:∀x,x<l.length->2*dm (l.getD x bF)<2*uM l+1:=λx d=>by have:=CC d;omega
 refine⟨⟨⟨⟨s,[],0⟩,rfl,rfl,rfl,rfl,rfl,Zaj _,Gw.refl s,Zah _,rfl⟩,λx d=>?_⟩,⟨0,rfl,?_,?_,?_,Zaj _⟩,λj N=>?_⟩
 ·have⟨u,j,i⟩:=x;have⟨i1,i2,i3,i4⟩:=d;simp only at i1 i2 i3 i4 ⊢;have bU:u.bU->j=(fX l s []).2/\(u.af.length:Int)=((fX l s []).1.af.length:Int)/\u.bU=(fX l s []).1.bU/\u.af=(fX l s []).1.af:=λE=>by
   have:fX (l.drop i) u j=(u,j):=by
    cases l.drop i with
    | nil=>rw[fX]
    | cons t m=>rw[fX,Zac E]
   grind
  refine⟨λe=>⟨λr=>?_,λr=>bU r⟩,λe=>?_⟩
  ·have a:i<l.length:=ω;have G:l.drop i=l.getD i bF::l.drop (i+1):=by simp_all
   rw[G,fX,Zaa (by grind)] at i4;have k:=i2.max h1;refine⟨λel=>?_,λel=>?_⟩
   ·rw[A0 ω ω] at el;rw[Zac (by grind)] at i4;rw[<-i4];exact⟨ω,e,⟨⟨k,hw i a⟩,di i a⟩,rfl,rfl,rfl,rfl⟩
   ·have ne:¬(l.drop (i+1)).isEmpty:=by
     grind [List.drop_eq_nil_iff]
    rw[Zaa ne] at i4;have⟨p1,p2⟩:=eU u ⟨2,0,0,[]⟩;have p:=l5 (l.getD i bF) (bH u ⟨2,0,0,[]⟩).1;have⟨q1,O⟩:=eU (i_ (l.getD i bF) (bH u ⟨2,0,0,[]⟩).1) ⟨3,0,0,[]⟩;have m1:=p1.max k;have m2:=p.max m1;have b:=(LM (l5 (l.getD i bF)) u).1;unfold vF at i4 b;refine⟨k,ω,e,⟨⟨m1,hw i a⟩,di i a⟩,m2,by grind,λq=>?_,λq=>?_⟩
    ·have⟨P,J,Q⟩:=p2 (p.low (q1.low q));have hl:(u.af.length:Int)<((bH (i_ (l.getD i bF) (bH u ⟨2,0,0,[]⟩).1) ⟨3,0,0,[]⟩).1.af.length:Int):=by
      have:=p.len;grind
     have f:ly (bH (i_ (l.getD i bF) (bH u ⟨2,0,0,[]⟩).1) ⟨3,0,0,[]⟩).1 false (bH u ⟨2,0,0,[]⟩).2=⟨fx (bH (i_ (l.getD i bF) (bH u ⟨2,0,0,[]⟩).1) ⟨3,0,0,[]⟩).1.af.length false (bH (i_ (l.getD i bF) (bH u ⟨2,0,0,[]⟩).1) ⟨3,0,0,[]⟩).1.af (bH u ⟨2,0,0,[]⟩).2,false⟩:=by grind [ly]
     rw[f] at i4 b;rw[J] at i4 b ⊢;generalize (bH (i_ (l.getD i bF) (bH u ⟨2,0,0,[]⟩).1) ⟨3,0,0,[]⟩)=Z at*
     have hi:u.af.length<Z.1.af.length:=ω;have C:ay .i64 (u.af.length:Int) 1=(u.af.length:Int)+1:=ba ω ω;simp only[Zad,C];refine⟨ω,hl,ω,hl,⟨⟨fx Z.1.af.length false Z.1.af u.af.length,false⟩,j++[Z.2],i+1⟩,rfl,bK ω,by rw[ep],q,?_,⟨a,i2.trans b,by grind,i4⟩,show l.length-(i+1)<l.length-i by omega⟩;rw[CK hi,tT];rfl
    ·have f:ly (bH (i_ (l.getD i bF) (bH u ⟨2,0,0,[]⟩).1) ⟨3,0,0,[]⟩).1 false (bH u ⟨2,0,0,[]⟩).2=(bH (i_ (l.getD i bF) (bH u ⟨2,0,0,[]⟩).1) ⟨3,0,0,[]⟩).1:=by grind [ly]
     rw[f] at i4 b;exact⟨⟨_,_,i+1⟩,rfl,bK ω,rfl,rfl,rfl,⟨a,i2.trans b,by grind,i4⟩,show l.length-(i+1)<l.length-i by omega⟩
  ·grind [fX]
 ·grind [fP,iS]
 ·grind [fP,iS]
 ·grind [dZ]
 ·generalize fX l s []=R at*
  have F:=fP (ll (R.1.af.length:Nat)) (λl j=>iS _ _ _) R.1;have done:¬j<R.2.length\/(dZ (ll (R.1.af.length:Nat)) R.1 (R.2.take j)).bU->dZ (ll (R.1.af.length:Nat)) R.1 (R.2.take j)=dZ (ll (R.1.af.length:Nat)) R.1 (R.2.take R.2.length):=λh=>by
   grind [dZ]
  refine⟨λe=>⟨λo=>?_,λo=>co3 (done (.inr o))⟩,λe=>co3 (done (.inl ω))⟩;have a:j<R.2.length:=ω;have⟨g1,g2,g3⟩:=yU a o (λl j=>iS _ _ _);have c:=a2 g2 (R.2.getD j 0) (by grind);rw[(F _).2.1];exact⟨ω,e,c.1,c.2,j+1,bK ω,by grind,by grind,g1,ω,ω⟩
theorem Bq {q:Bool} (h:s.bU\/q):∀n,n' Z q n s=s
 | 0=>rfl
 | n+1=>by grind [n']
theorem OG (h:s.bU):∀n,jT Z n s a=(s,a)
 | 0=>rfl
 | n+1=>by grind [jT]
theorem QsK (y:LN) (L:OF.pre y):Wg y:=by
 have⟨c,x,k⟩:=y;obtain⟨h1,Q,g,S,T,U⟩:c.af.length<=400/\c.bU=false/\F8 k/\0<=x.mn/\x.mn<=30/\(x.mx= -1\/(x.mn<=x.mx/\x.mx<=30)):=L;have I:∀s,eC (s,k)=i_ k s:=λs=>by grind [eC,aC]
 have r:km ⟨c,x,k⟩=n' (i_ k) (jS k) x.mn.toNat c:=by grind [km,aC]
 have O:rE ⟨c,x,k⟩=lj x.mn x.mx:=by grind [rE,aC]
 have t:iD ⟨c,x,k⟩=jT (i_ k) (rE ⟨c,x,k⟩) (km ⟨c,x,k⟩) []:=by grind [iD,aC]
 have J:∀j,oL ⟨c,x,k⟩ j=dZ (fx (iD ⟨c,x,k⟩).1.af.length x.lz) (iD ⟨c,x,k⟩).1 ((iD ⟨c,x,k⟩).2.take j):=λj=>by unfold oL;rw[aC]
 have P:pM ⟨c,x,k⟩=yR (i_ k) (jS k) x.mn x.mx x.lz c:=by grind [pM,aC]
 have w:=wu (jS k) (l5 k) x.mn.toNat c;have⟨C,D,N⟩:=tV (l5 k) (rE ⟨c,x,k⟩) (km ⟨c,x,k⟩) [] (λ_ v B=>nomatch B);rw[<-r] at w;rw[<-t] at C D N;have m:=w.max h1;unfold Wg;have o:∀(l:List Int) n,gt 0 l n=l.getD n 0:=λ_ _=>rfl
 simp only[bL,bC,au,aT,br,o,bR,Zad,I,J,Zan,Zao,ZaY,ZaZ];have di:2*dm k<2*dm k+1:=ω;refine⟨g,⟨⟨(c,0),rfl,rfl,rfl,rfl,Zaj _,Gw.refl c,r.symm⟩,λz hz=>?_⟩,λem=>?_,λem=>?_⟩
 ·have⟨u,i⟩:=z;have⟨i1,i2,i3⟩:=hz;have stop:u.bU\/jS k->(u.af.length:Int)=((km ⟨c,x,k⟩).af.length:Int)/\u.bU=(km ⟨c,x,k⟩).bU/\u.af=(km ⟨c,x,k⟩).af:=λh=>by
   grind [Bq]
  refine⟨λe=>⟨λf=>⟨λq=>?_,λq=>stop (.inr q)⟩,λf=>stop (.inl f)⟩,λe=>?_⟩
  ·rw[show x.mn.toNat-i=(x.mn.toNat-(i+1))+1 by omega,n',Zaa (by grind)] at i3;exact⟨⟨⟨i2.max h1,g⟩,di⟩,(i_ k u,i+1),bK ω,rfl,rfl,rfl,⟨show i+1<=x.mn.toNat by omega,i2.trans (l5 _ _),i3⟩,show x.mn.toNat-(i+1)<x.mn.toNat-i by omega⟩
  ·rw[show x.mn.toNat-i=0 by omega,n'] at i3;exact co3 i3
 ·have E:pM ⟨c,x,k⟩=Bp (i_ k) x.lz (km ⟨c,x,k⟩):=by grind [yR]
  unfold Bp at E;generalize km ⟨c,x,k⟩=A at*
  have⟨p1,p2⟩:=eU A ⟨2,0,0,[]⟩;have d:=l5 k (bH A ⟨2,0,0,[]⟩).1;have⟨q1,Y⟩:=eU (i_ k (bH A ⟨2,0,0,[]⟩).1) ⟨3,(bH A ⟨2,0,0,[]⟩).2,0,[]⟩;have m1:=p1.max m;have m2:=d.max m1;refine⟨m,⟨⟨m1,g⟩,di⟩,m2,λG=>?_,λG=>?_⟩
  ·have⟨Z,r2,r3⟩:=p2 (d.low (q1.low G));have:=d.len;grind [ly]
  ·grind [ly]
 ·have E:pM ⟨c,x,k⟩=dZ (fx (iD ⟨c,x,k⟩).1.af.length x.lz) (iD ⟨c,x,k⟩).1 (iD ⟨c,x,k⟩).2:=by grind [yR]
  have V:rE ⟨c,x,k⟩<=30/\x.mn+(rE ⟨c,x,k⟩:Nat)=x.mx:=by grind [lj]
  have K:∀z,crJ ⟨c,x,k⟩ z↔(z.i<=rE ⟨c,x,k⟩/\Gw (km ⟨c,x,k⟩) z.s/\z.j.length<=z.i/\jT (i_ k) (rE ⟨c,x,k⟩ -z.i) z.s z.j=iD ⟨c,x,k⟩):=λz=>ZbW
  simp only[K];rw[E];generalize rE ⟨c,x,k⟩=M at*
  generalize km ⟨c,x,k⟩=A at*
  refine⟨⟨⟨⟨A,[],0⟩,rfl,by simp,rfl,rfl,rfl,Zaj _,Gw.refl A,Zah _,t.symm⟩,λz hz=>?_⟩,⟨0,rfl,?_,?_,?_,Zaj _⟩,λj W=>?_⟩
  ·have⟨u,j,i⟩:=z;have⟨i1,i2,i3,i4⟩:=hz;simp only at i1 i2 i3 i4 ⊢;have stop:∀n,jT (i_ k) n u j=(u,j)->jT (i_ k) n u j=iD ⟨c,x,k⟩->j=(iD ⟨c,x,k⟩).2/\(u.af.length:Int)=((iD ⟨c,x,k⟩).1.af.length:Int)/\u.bU=(iD ⟨c,x,k⟩).1.bU/\u.af=(iD ⟨c,x,k⟩).1.af:=λn a b=>by
    grind
   refine⟨λe=>⟨λf=>?_,λf=>stop _ (OG f _) i4⟩,λe=>?_⟩
   ·rw[show M-i=(M-(i+1))+1 by omega,jT,Zaa (by grind)] at i4;have p1:=(eU u ⟨2,0,0,[]⟩).1;have d:=l5 k (bH u ⟨2,0,0,[]⟩).1;have mu:=i2.max m;refine⟨mu,by grind,⟨⟨p1.max mu,g⟩,di⟩,⟨i_ k (bH u ⟨2,0,0,[]⟩).1,j++[(bH u ⟨2,0,0,[]⟩).2],i+1⟩,rfl,?_,rfl,rfl,rfl,⟨show i+1<=M by omega,(i2.trans p1).trans d,by grind,i4⟩,show M-(i+1)<M-i by omega⟩;grind
   ·rw[show M-i=0 by omega] at i4;exact stop 0 rfl i4
  ·grind [fP,ep]
  ·grind [fP,ep]
  ·grind [dZ]
  ·have X:=C.max m;generalize iD ⟨c,x,k⟩=R at*
   have F:=fP (fx (R.1.af.length:Nat) x.lz) (λl j=>ep _ _ _ _) R.1;have done:¬j<R.2.length\/(dZ (fx (R.1.af.length:Nat) x.lz) R.1 (R.2.take j)).bU->dZ (fx (R.1.af.length:Nat) x.lz) R.1 (R.2.take j)=dZ (fx (R.1.af.length:Nat) x.lz) R.1 R.2:=λh=>by
    grind [dZ]
   refine⟨λe=>⟨λp=>?_,λp=>co3 (done (.inr p))⟩,λe=>co3 (done (.inl ω))⟩;have H:j<R.2.length:=ω;have⟨g1,g2,g3⟩:=yU H p (λl j=>ep _ _ _ _);have B:=D g2 (R.2.getD j 0) (by grind);grind [bK]
inductive Fo where
 | n | a | r
noncomputable section
def foC:Fo->bh D
 | .n=>Jl | .a=>OE | .r=>OF
def QsL:∀i,(foC i).Y->Nat
 | .n=>λy=>2*dm y.2 | .a=>λy=>2*uM y.2+1 | .r=>λy=>2*dm y.k+1
def foF:Fo->Func
 | .n=>f133 | .a=>f190 | .r=>f191
def QkX:Fo->s7
 | .n=>[zQ] | .a=>[zQ] | .r=>[zQ,Wa,FD]
def foO:∀i,(foC i).Y->cH D
 | .n=>QkS | .a=>QkT | .r=>QkV
def QsM:∀i,Ok (foC i):=
 xH [.n,.a,.r] foC QsL (fn:=foF) (tab:=QkX) (fI:=foO)
  (λi=>match i with
   | .n=>LK | .a=>LK | .r=>⟨LK,QkO,QkN⟩)
  (λi=>match i with
   | .n=>by kernel_rfl | .a=>by kernel_rfl | .r=>by kernel_rfl)
  (λi=>match i with
   | .n=>by kernel_rfl | .a=>by kernel_rfl | .r=>by kernel_rfl)
  λi=>match i with
   | .n=>λy b=>Eq.mp (Ϥ y) (QsI y b) | .a=>λy b=>Eq.mp (ϥ y) (QsJ y b) | .r=>λy b=>Eq.mp (Ϧ y) (QsK y b)
end
structure Fit (f:dr->dr) (g:Nat->List aW) (sz:Nat):Prop where
 gw:∀s,Gw s (f s)
 len:∀b,(g b).length=sz
 ok:∀c:List aW,c.length+sz<=400->f ⟨c,false⟩=⟨c++g c.length,false⟩
 no:∀c:List aW,c.length<=400->400<c.length+sz->(f ⟨c,false⟩).bU=true
variable {Z:dr->dr} {g:Nat->List aW} {a:Nat} {l:List ah}
def Fit.bU (h:Fit Z g a) {s:dr} (hs:s.bU):(Z s).bU:=(h.gw s).bU hs
theorem l6 (i:aW):Fit (λs=>(bH s i).1) (λ_=>[i]) 1:=by
 refine⟨λs=>(eU s i).1,λ_=>rfl,λc h=>?_,λc h a=>?_⟩
 all_goals grind [bH]
def Fit.then {d:dr->dr} {e:Nat->List aW} {b:Nat} (h:Fit Z g a) (k:Fit d e b):Fit (λs=>d (Z s)) (λn=>g n++e (n+a)) (a+b):=by
 refine⟨λs=>(h.gw s).trans (k.gw _),λn=>by rw[Zab,h.len,k.len],λc i=>?_,λc h1 j=>?_⟩
 ·rw[h.ok c ω,k.ok _ (by rw[Zab,h.len];omega),Zab,h.len,ZaD]
 ·by_cases i:c.length+a<=400
  ·rw[h.ok c i];exact k.no _ (by rw[Zab,h.len];omega) (by rw[Zab,h.len];omega)
  ·exact k.bU (h.no c h1 ω)
theorem lC (s:dr) (i:aW) (c:List aW) (h:s=⟨c,false⟩):(c.length<400->bH s i=(⟨c++[i],false⟩,(c.length:Int)))/\(400<=c.length->bH s i=(⟨c,true⟩,0)):=by
 grind [bH]
theorem yV (h:Fit Z g a) (lz:Bool) (J:Int->aW) (c:List aW) (e:c.length<=400):
  (c.length+(a+2)<=400->(bH (Z (bH ⟨c,false⟩ ⟨2,0,0,[]⟩).1) (J (bH ⟨c,false⟩ ⟨2,0,0,[]⟩).2))=(⟨c++⟨2,0,0,[]⟩::(g (c.length+1)++[J c.length]),false⟩,((c.length+1+a:Nat):Int))/\
   ly (bH (Z (bH ⟨c,false⟩ ⟨2,0,0,[]⟩).1) (J (bH ⟨c,false⟩ ⟨2,0,0,[]⟩).2)).1 lz (bH ⟨c,false⟩ ⟨2,0,0,[]⟩).2=⟨c++hZ lz c.length (c.length+a+2)::(g (c.length+1)++[J c.length]),false⟩)/\
  (400<c.length+(a+2)->(bH (Z (bH ⟨c,false⟩ ⟨2,0,0,[]⟩).1) (J (bH ⟨c,false⟩ ⟨2,0,0,[]⟩).2)).1.bU/\(ly (bH (Z (bH ⟨c,false⟩ ⟨2,0,0,[]⟩).1) (J (bH ⟨c,false⟩ ⟨2,0,0,[]⟩).2)).1 lz (bH ⟨c,false⟩ ⟨2,0,0,[]⟩).2).bU):=by
 constructor
 ·intro b;have d:=(lC ⟨c,false⟩ ⟨2,0,0,[]⟩ c rfl).1 ω;have sz:(c++[(⟨2,0,0,[]⟩:aW)]).length=c.length+1:=by simp
  have e2:=h.ok (c++[⟨2,0,0,[]⟩]) ω;have i:(c++[(⟨2,0,0,[]⟩:aW)]++g (c.length+1)).length=c.length+1+a:=by rw[Zab,h.len,sz]
  grind [lC,ly,sP,hZ]
 ·intro b;have bU:(bH (Z (bH ⟨c,false⟩ ⟨2,0,0,[]⟩).1) (J (bH ⟨c,false⟩ ⟨2,0,0,[]⟩).2)).1.bU:=by
   by_cases h0:c.length<400
   ·rw[(lC ⟨c,false⟩ ⟨2,0,0,[]⟩ c rfl).1 h0];have sz:(c++[(⟨2,0,0,[]⟩:aW)]).length=c.length+1:=by simp
    by_cases h1:c.length+1+a<=400
    ·simp only[h.ok (c++[⟨2,0,0,[]⟩]) ω];rw[(lC _ _ _ rfl).2 (by rw[Zab,h.len,sz];omega)]
    ·exact(eU _ _).1.bU (h.no _ ω ω)
   ·rw[(lC ⟨c,false⟩ ⟨2,0,0,[]⟩ c rfl).2 ω];exact(eU _ _).1.bU ((h.gw _).bU rfl)
  grind [CX]
def Wh (h:Fit Z g a) (lz:Bool):Fit (Bp Z lz) (λb=>hZ lz b (b+a+2)::(g (b+1)++[⟨3,(b:Nat),0,[]⟩])) (a+2):=by
 refine⟨λs=>LL h.gw lz s,λb=>by simp[h.len],λc d=>?_,λc h1 sz=>?_⟩
 ·exact((yV h lz (λj=>⟨3,j,0,[]⟩) c ω).1 d).2
 ·exact((yV h lz (λj=>⟨3,j,0,[]⟩) c h1).2 sz).2
theorem LP (h:Fit Z g a) {q:Bool} (i:q=decide (a=0)):∀n,Fit (n' Z q n) (iq g a n) (n*a)
 | 0=>⟨λs=>Gw.refl s,λb=>by simp[iq],λc sz=>by simp[n',iq],λc h1 e=>ω⟩
 | n+1=>by
  have d:=LP h i n;refine⟨λs=>wu q h.gw _ s,λb=>pH h.len _ b,λc sz=>?_,λc h1 e=>?_⟩
  ·rw[ZaV] at sz;by_cases h0:a=0
   ·rw[Bq (.inr (by grind)),show iq g a (n+1) c.length=[] from Zap (by rw[pH h.len,h0];simp),Zaw]
   ·rw[n',Zaa (by grind),h.ok c ω,d.ok _ (by rw[Zab,h.len];omega),iq,Zab,h.len,ZaD]
  ·rw[ZaV] at e;rw[n',Zaa (by grind)];by_cases sz:c.length+a<=400
   ·rw[h.ok c sz];exact d.no _ (by rw[Zab,h.len];omega) (by rw[Zab,h.len];omega)
   ·exact d.bU (h.no c h1 ω)
theorem C0 (h:Fit Z g a):∀(n:Nat) (c:List aW) (j:List Int),c.length<=400->
  (c.length+n*(a+1)<=400->jT Z n ⟨c,false⟩ j=(⟨c++fp (λ_=>⟨2,0,0,[]⟩) g a n c.length,false⟩,j++jL a n c.length))/\(400<c.length+n*(a+1)->(jT Z n ⟨c,false⟩ j).1.bU)
 | 0,c,j,b=>⟨λ_=>by simp[jT,fp,jL],λi=>ω⟩
 | n+1,c,j,b=>by
  have sz:(c++[(⟨2,0,0,[]⟩:aW)]).length=c.length+1:=by simp
  rw[jT,Zaa (by simp),ZaV];by_cases h0:c.length<400
  ·rw[(lC ⟨c,false⟩ ⟨2,0,0,[]⟩ c rfl).1 h0];by_cases h1:c.length+1+a<=400
   ·rw[h.ok _ ω,sz];have k:(c++[(⟨2,0,0,[]⟩:aW)]++g (c.length+1)).length=c.length+1+a:=by rw[Zab,h.len,sz]
    have⟨i1,i2⟩:=C0 h n (c++[⟨2,0,0,[]⟩]++g (c.length+1)) (j++[(c.length:Int)]) ω;grind [fp,jL]
   ·refine⟨λd=>ω,λ_=>(tV h.gw n _ _ ?_).1.bU (h.no _ ω ω)⟩;intro e;rw[h.no _ ω ω] at e;cases e
  ·rw[(lC ⟨c,false⟩ ⟨2,0,0,[]⟩ c rfl).2 ω];refine⟨λd=>ω,λ_=>(tV h.gw n _ _ ?_).1.bU ((h.gw _).bU rfl)⟩;intro e;rw[(h.gw ⟨c,true⟩).bU rfl] at e;cases e
def Wi (h:Fit Z g a) {q:Bool} (m:q=decide (a=0)) (mn mx:Int) (lz:Bool):
  Fit (yR Z q mn mx lz) (IK g a mn mx lz) (mn.toNat*a+(if mx= -1 then a+2 else lj mn mx*(a+1))):=by
 have d:=LP h m mn.toNat;unfold yR IK;by_cases sz:mx= -1
 ·simp only[sz,Zbv];exact d.then (Wh h lz)
 ·simp only[sz,Za0];generalize lj mn mx=n;have hO:Fit (λs=>dZ (fx (jT Z n s []).1.af.length lz) (jT Z n s []).1 (jT Z n s []).2) (λb=>fp (λi=>hZ lz i (b+n*(a+1))) g a n b) (n*(a+1)):=by
   refine⟨λs=>?_,λb=>pI h.len _ b,λc k=>?_,λc h1 e=>?_⟩
   ·exact(tV h.gw n s [] (λ_ v o=>nomatch o)).1.trans (fP _ (λl j=>ep _ _ _ _) _ _).1
   ·simp only[(C0 h n c [] ω).1 k];unfold dZ;rw[Zaa (by simp)];have p:(c++fp (λ_=>(⟨2,0,0,[]⟩:aW)) g a n c.length).length=c.length+n*(a+1):=by rw[Zab,pI h.len]
    simp only[p,Zcb];rw[CJ h.len n c c.length rfl]
   ·rw[(fP _ (λl j=>ep _ _ _ _) _ _).2.2];exact(C0 h n c [] h1).2 e
  exact d.then hO
theorem Ϩ (h:∀t∈l,Fit (i_ t) (bS t) (bt t)):∀(c:List aW) (j:List Int),c.length<=400->
  (c.length+(aQ l+2*(l.length-1))<=400->fX l ⟨c,false⟩ j=(⟨c++kj l c.length 0,false⟩,j++jR l.dropLast c.length))/\(400<c.length+(aQ l+2*(l.length-1))->(fX l ⟨c,false⟩ j).1.bU):=by
 induction l with
 | nil=>exact λc j a=>⟨λ_=>by simp[fX,kj,jR],λd=>by grind [aQ]⟩
 | cons t l f=>
  intro c j a;have ht:=h t (by simp);rw[fX,Zaa (by simp)];cases l with
  | nil=>
   rw[kj];simp only[List.isEmpty_nil,Zbv,aQ,Zae,Zak,List.dropLast_singleton,jR,Zaw];exact⟨λb=>by rw[ht.ok c ω],λb=>ht.no c a ω⟩
  | cons u l=>
   rw[Zaa (by simp),kj,Zaa (by simp),aQ,Zae,List.dropLast_cons₂,jR];have⟨k1,k2⟩:=yV ht false (λ_=>⟨3,0,0,[]⟩) c a;unfold vF;by_cases hs:c.length+(bt t+2)<=400
   ·have⟨k3,k4⟩:=k1 hs;have g:(c++hZ false c.length (c.length+bt t+2)::(bS t (c.length+1)++[(⟨3,0,0,[]⟩:aW)])).length=c.length+2+bt t:=by simp[ht.len];omega
    grind [hZ]
   ·have⟨k3,k4⟩:=k2 ω;simp only[Zae];refine⟨λb=>ω,λ_=>(yS _ _ _ ?_).1.bU k4⟩;intro e;grind
theorem ϩ (h:∀t∈l,Fit (i_ t) (bS t) (bt t)):Fit (lB l) (bu l) (aQ l):=by
 induction l with
 | nil=>exact⟨λs=>CY _ s,λb=>by rfl,λc d=>by simp[lB,bu],λc h1 a=>by grind [aQ]⟩
 | cons t l e=>
  have k:=(h t (by simp)).then (e λu hu=>h u (by grind));refine⟨λs=>CY _ s,λb=>by rw[bu,aQ];exact k.len b,λc d=>?_,λc h1 a=>?_⟩
  ·rw[lB,Zaa (by simp),bu];rw[aQ] at d;exact k.ok c d
  ·rw[lB,Zaa (by simp)];rw[aQ] at a;exact k.no c h1 a
theorem LQ (h:l.length=1):l=[l.getD 0 bF]:=by
 match l,h with
 | [k],_=>rfl
mutual
theorem FE:∀t:ah,ku t->CU t=decide (bt t=0)
 | .mk op r mn mx lz cap nk ks,h=>by
  rw[ku] at h
  rw[CU,bt]
  unfold pF
  by_cases h1:op=1
  ·have h0:(ks.length:Int)=0:=h.1.none h1
   have:ks=[]:=Zap ω
   subst this
   subst h1
   simp[aQ]
  ·rw[Zaa h1]
   by_cases h3:op=3
   ·rw[Zac h3,Br ks h.2.2]
    simp[h3]
   ·rw[Zaa h3]
    by_cases h5:op=5
    ·obtain⟨w1,w2,w3,w4⟩:=h.1.rep h5
     simp only at w1 w2 w3 w4
     rw[Zac h5,Bs ks h.2.2 ω]
     subst h5
     simp only[show ¬((5:Int)=2\/(5:Int)=7\/(5:Int)=8) by decide,show ¬((5:Int)=4) by decide,show ¬((5:Int)=6) by decide,Za0,Zbv]
     by_cases m0:mx=0
     ·have:mn=0:=ω
      subst this;subst m0;simp
     ·rw[Zaa m0]
      by_cases m1:mx= -1
      ·rw[Zac m1]
       have:¬mn=mx:=ω
       simp[this]
      ·rw[Zaa m1]
       by_cases me:mn=mx
       ·obtain⟨k,hk⟩:∃k,mn.toNat=k+1:=⟨mn.toNat-1,ω⟩
        have hd:mx.toNat-mn.toNat=0:=ω
        rw[hd,hk]
        simp[me,Nat.mul_eq_zero]
       ·obtain⟨d,hd⟩:∃d,mx.toNat-mn.toNat=d+1:=⟨mx.toNat-mn.toNat-1,ω⟩
        rw[hd]
        simp[me]
    ·rw[Zaa h5]
     have:=h.1.op h1
     simp only at this
     rcases this with g | g | g | g | g | g | g
     ·simp[g]
     ·simp[g]
     ·simp[g]
     ·exact absurd g h3
     ·have:=h.1.aH g
      simp only at this
      simp[g]
      omega
     ·exact absurd g h5
     ·simp[g]
theorem Br:∀l:List ah,nf l->qI l=decide (aQ l=0)
 | [],_=>by simp[qI,aQ]
 | t::l,h=>by
  rw[nf] at h
  rw[qI,aQ,FE t h.1,Br l h.2,ZaG]
  simp
theorem Bs:∀l:List ah,nf l->l.length=1->CW l=decide (aQ l=0)
 | [t],h,_=>by
  rw[nf] at h
  rw[CW,aQ,aQ,FE t h.1]
  rfl
end
def nf.tail {t:ah} {l:List ah} (h:nf (t::l)):ku t/\nf l:=by assumption
mutual
theorem Wj:∀t:ah,ku t->Fit (i_ t) (bS t) (bt t)
 | .mk op r mn mx lz cap nk ks,h=>by
  have hw:=(iQ _).mp h
  have hk:∀t∈ks,Fit (i_ t) (bS t) (bt t):=LS ks hw.2.2
  generalize ht:ah.mk op r mn mx lz cap nk ks=t at*
  have eks:t.ae=ks:=by rw[<-ht];rfl
  rw[<-eks] at hk
  clear ht eks
  have key:∀{f:dr->dr} {g:Nat->List aW},Fit f g (bt t)->(∀s,s.bU=false->i_ t s=f s)->(∀b,bS t b=g b)->Fit (i_ t) (bS t) (bt t):=λF e e2=>
   ⟨λs=>l5 t s,λb=>by rw[e2,F.len],λc hc=>by rw[e _ rfl,e2,F.ok c hc],λc h1 h2=>by rw[e _ rfl,F.no c h1 h2]⟩
  have di:=size_eq t
  unfold pF at di
  have ns:∀{X:dr->dr} {s:dr},s.bU=false->(if s.bU=true then s else X s)=X s:=λhb=>Zaa (by rw[hb];simp)
  by_cases h1:t.op=1
  ·have h0:(t.ae.length:Int)=0:=hw.1.none h1
   have hn:t.ae=[]:=Zap ω
   have s0:bt t=0:=by rw[di,hn];simp[h1,aQ]
   rw[s0] at key ⊢
   refine key (f:=id) (g:=λ_=>[]) ⟨λs=>Gw.refl s,λ_=>rfl,λc _=>by simp,λc h1 h2=>ω⟩ (λs hb=>?_) λb=>?_
   ·rw[sU,Zaa (by rw[hb];simp),Zaa ω,Zaa ω,Zaa ω,Zaa ω,Zaa ω,Zaa ω,Zaa ω];rfl
   ·rw[lq,Zaa ω,Zaa ω,Zaa ω,Zaa ω,Zaa ω,Zaa ω,Zaa ω]
  ·rcases hw.1.op h1 with h2 | h2 | h2 | h2 | h2 | h2 | h2
   all_goals have h2:t.op=_:=h2
   ·rw[Zac ω] at di
    rw[di] at key ⊢
    exact key (l6 ⟨1,0,0,t.r⟩) (λs hb=>by rw[sU,Zaa (by rw[hb];simp),Zac h2]) λb=>by rw[lq,Zac h2]
   ·rw[Zac ω] at di
    rw[di] at key ⊢
    exact key (l6 ⟨5,0,0,[]⟩) (λs hb=>by rw[sU,Zaa (by rw[hb];simp),Zaa ω,Zaa ω,Zaa ω,Zaa ω,Zaa ω,Zac h2]) λb=>by rw[lq,Zaa ω,Zac h2]
   ·rw[Zac ω] at di
    rw[di] at key ⊢
    exact key (l6 ⟨6,0,0,[]⟩) (λs hb=>by rw[sU,Zaa (by rw[hb];simp),Zaa ω,Zaa ω,Zaa ω,Zaa ω,Zaa ω,Zaa ω,Zac h2]) λb=>by rw[lq,Zaa ω,Zaa ω,Zac h2]
   ·rw[Zaa ω,Zaa ω,Zaa ω,Zaa ω] at di
    rw[di] at key ⊢
    exact key (ϩ hk) (λs hb=>by rw[sU,Zaa (by rw[hb];simp),Zaa ω,Zac h2]) λb=>by rw[lq,Zaa ω,Zaa ω,Zaa ω,Zac h2]
   ·rw[Zaa ω,Zac h2] at di
    rw[di] at key ⊢
    have hA:=Ϩ hk
    have h0:1<=t.ae.length:=by have:=hw.1.aH h2;simp only at this;omega
    have hlast:t.ae=t.ae.dropLast++[t.ae.getD (t.ae.length-1) bF]:=by
     rw[Zcz]
     conv=>lhs;rw[<-ZaM (l:=t.ae),show t.ae.length=(t.ae.length-1)+1 by omega]
     rw[cq bF ω]
    refine key (f:=λs=>dZ (ll (fX t.ae s []).1.af.length) (fX t.ae s []).1 (fX t.ae s []).2) (g:=λb=>kj t.ae b (b+aQ t.ae+2*(t.ae.length-1))) ?_ (λs hb=>by rw[sU,Zaa (by rw[hb];simp),Zaa ω,Zaa ω,Zac h2]) λb=>by rw[lq,Zaa ω,Zaa ω,Zaa ω,Zaa ω,Zac h2]
    refine⟨λs=>(yS t.ae s [] (λ_ v hv=>(nomatch hv))).1.trans (fP _ (λl j=>iS _ _ _) _ _).1,λb=>lu _ _ _ hw.2.2,λc hc=>?_,λc h1 h2=>?_⟩
    ·simp only[(hA c [] ω).1 hc]
     unfold dZ
     rw[Zaa (by simp)]
     have n1:(c++kj t.ae c.length 0).length=c.length+aQ t.ae+2*(t.ae.length-1):=by rw[Zab,lu _ _ _ hw.2.2];omega
     simp only[n1,Zcb]
     congr 1
     conv=>lhs;rw[hlast,qu]
     have:=CI (e:=c.length+aQ t.ae+2*(t.ae.length-1)) t.ae.dropLast c (bS (t.ae.getD (t.ae.length-1) bF) (c.length+(aQ t.ae.dropLast+2*t.ae.dropLast.length))) c.length (by rw[Zcz];exact hw.2.2.take _) rfl
     rw[<-hlast,this]
     conv=>rhs;arg 2;arg 1;rw[hlast]
     rw[qu]
    ·rw[(fP _ (λl j=>iS _ _ _) _ _).2.2]
     exact(hA c [] h1).2 h2
   ·rw[Zaa ω,Zaa ω,Zaa ω,Zac h2] at di
    obtain⟨w1,_⟩:=hw.1.rep h2
    simp only at w1
    have hks:=LQ (l:=t.ae) ω
    have qX:aQ t.ae=bt (t.ae.getD 0 bF):=by conv=>lhs;rw[hks,aQ,aQ,Zbn]
    have hcl:∀b,bu t.ae b=bS (t.ae.getD 0 bF) b:=λb=>by conv=>lhs;rw[hks,bu,bu,Zaw]
    have hH:∀s,Pk t.ae s=i_ (t.ae.getD 0 bF) s:=λs=>LO ω s
    have hq:=Bs t.ae hw.2.2 ω
    have k0:=hk (t.ae.getD 0 bF) (by rw[eL ω];exact Zas _)
    rw[<-qX] at k0
    have e1:(λs=>Pk t.ae s)=i_ (t.ae.getD 0 bF):=funext hH
    have e2:(λb=>bu t.ae b)=bS (t.ae.getD 0 bF):=funext hcl
    have F:=Wi k0 hq t.mn t.mx t.lz
    have hs2:bt t=t.mn.toNat*aQ t.ae+(if t.mx= -1 then aQ t.ae+2 else lj t.mn t.mx*(aQ t.ae+1)):=by
     rw[di]
     split
     ·omega
     ·rfl
    rw[hs2] at key ⊢
    exact key F (λs hb=>by rw[sU,Zaa (by rw[hb];simp),Zaa ω,Zaa ω,Zaa ω,Zac h2,e1]) λb=>by rw[lq,Zaa ω,Zaa ω,Zaa ω,Zaa ω,Zaa ω,Zac h2,e2]
   ·rw[Zaa ω,Zaa ω,Zac h2] at di
    obtain⟨w1,_⟩:=hw.1.vg h2
    simp only at w1
    have hks:=LQ (l:=t.ae) ω
    have qX:aQ t.ae=bt (t.ae.getD 0 bF):=by conv=>lhs;rw[hks,aQ,aQ,Zbn]
    have hcl:∀b,bu t.ae b=bS (t.ae.getD 0 bF) b:=λb=>by conv=>lhs;rw[hks,bu,bu,Zaw]
    have k0:=hk (t.ae.getD 0 bF) (by rw[eL ω];exact Zas _)
    rw[<-qX] at k0
    have F:=((l6 ⟨4,2*t.cap,0,[]⟩).then k0).then (l6 ⟨4,2*t.cap+1,0,[]⟩)
    rw[show 1+aQ t.ae+1=bt t by rw[di];omega] at F
    exact key F (λs hb=>by rw[sU,Zaa (by rw[hb];simp),Zaa ω,Zaa ω,Zaa ω,Zaa ω,Zac h2,LO ω]) λb=>by rw[lq,Zaa ω,Zaa ω,Zaa ω,Zaa ω,Zaa ω,Zaa ω,Zac h2,hcl];simp
theorem LS:∀l:List ah,nf l->∀t∈l,Fit (i_ t) (bS t) (bt t)
 | [],_=>λt ht=>nomatch ht
 | t::l,h=>λu hu=>by
  rw[nf] at h
  rcases List.mem_cons.mp hu with e | e
  ·rw[e];exact Wj t h.1
  ·exact LS l h.2 u e
end
def RdP (y:List Nd×Int):Prop:=0<=y.2/\y.1.length<=480/\∃t r,ku t/\y.1.drop y.2.toNat=aD t++r
def lD (y:List Nd×Int):ah:=lk (cu (y.1.drop y.2.toNat)).1
def Wl (y:List Nd×Int):Int:=lk (y.2+(aD (lD y)).length)
def Jm:bh D:=bO 129 (List Nd×Int) (λa s=>match a with
 | [l,i]=>az (aL D s 7 l) λl=>aP (cT i) λ_ i=>.ret ((l:List Nd),i)
 | _=>.fail) RdP (λy=>[.list 7 y.1,Qvo y.2]) λy=>.tuple [.agg (D.a_ 15 (lD y)),Qvo (Wl y)]
def OH (y:List Nd×Int) (k:Nat):Int:=lk (y.2+1+(aA ((lD y).ae.take k)).length)
def QsO (y:Jm.Y):cH D:=⟨[],[],[(122,⟨Nat,[0],λk=>[(1,Qvo (OH y k)),(4,.ptr 0 0),(6,.ptr 1 0),(7,Qvo k)],[],λk=>[vE 0 bF,(1,.cells [Qvo (lD y).op,.list 6 (lD y).r,Qvo (lD y).mn,Qvo (lD y).mx,.bool (lD y).lz,Qvo (lD y).cap,Qvo (lD y).nk,.grow 15 ((lD y).ae.take k) 2] 221 false),tkO 2],3,λk=>k<=(lD y).ae.length,λk=>(lD y).ae.length-k⟩)],[],1,[]⟩
def QsP (y:Jm.Y):Prop:=vc [Jm.under (λy=>dm (lD y)) (dm (lD y))] f129 Jm QsO y
def Jn:bh D:=bO 81 (List (List Nd)) Qj9 pJ (λy=>[.list 9 y]) λy=>.tuple [.agg [.list 8 (bZ y).1.1,.list 5 (bZ y).1.2],Qvo (bZ y).2.1,Qvo (bZ y).2.2]
structure DcX where
 c:List aW
 s:List Int
 r:Nat
def Ϫ (y:List (List Nd)) (x:DcX):Prop:=x.r<=y.length/\y.length<=8/\x.c.length<=400/\x.s.length=x.r/\ni (y.drop x.r) x.r x.c x.s=bZ y
def QsQ (y:Jn.Y):cH D:=⟨[],[],[(250,⟨DcX,[0],λx=>[(2,.ptr 0 0),(3,.num .i64 0),(4,.num .i64 0),(5,.ptr 1 0),(6,.ptr 2 0),(7,Qvo x.r)],[],λx=>[(0,.cells [.dF,.dF] 88 false),(1,.cells [.own 3 4 (ag x.c),.bool false] 228 false),(2,.cells [.dF,.grow 5 x.s 4] 88 false),(3,.arr 8 x.c 203 false),vw 4],5,Ϫ y,λx=>y.length-x.r⟩)],[],1,[]⟩
def Wm (y:(List Nd)×Int):Prop:=let a:=lD y;let q1:=a.ae;let c:=gt (Nd.mk 0 [] 0 0 false 0 0) y.1 y.2.toNat;let g:=λp:Prop=>aa ([0]:List Int) (aa ([[]]:List (List (Int×Int))) (aa ([0,0]:List Int) p));let h:=λp:Prop=>aa ([0,0]:List Int) (aa ([[]]:List (List ah)) p);let i:=λp:Prop=>aa [a.op] (aa [a.r] (aa [a.mn,a.mx] (aa [a.lz] (aa [a.cap,a.nk] p))));aG 0 y.2/\aw y.2 (ag y.1)/\(∃z:Nat,aa [y.1] (ay .i64 y.2 1=OH y z/\0=(z:Int)/\c.op=a.op/\c.r=a.r/\c.mn=a.mn/\c.mx=a.mx/\c.lz=a.lz/\c.cap=a.cap/\c.ae=a.nk/\[]=List.take z q1/\g (false=false/\h ((Iv (z<=q1.length))))))/\(∀x:Nat,let e:=OH y x;let b:=lD (y.1,e);let f:=q1.length;let j:=aw (x:Int) a.nk;let d:=bM (List.take x q1) [ah.mk b.op b.r b.mn b.mx b.lz b.cap b.nk b.ae];(Iv (x<=f))->aj j (Iv (RdP (y.1,e)/\dm b<dm a)/\aa [y.1] (aa [e] (bJ (ag d) 96/\∃z:Nat,aa [y.1] (Wl (y.1,e)=OH y z/\ay .i64 (x:Int) 1=(z:Int)/\i (d=List.take z q1/\g (false=false/\h ((Iv (z<=f/\(f-z)<(f-x)))))))))) (i (List.take x q1=q1/\e=Wl y/\True)))
def ϫ:∀y,Wm y=QsP y:=λy=>by kernel_rfl
def Wn (y:List (List Nd)):Prop:=let h:=(bZ y).2.2;let q1:=(bZ y).2.1;aj (aw 8 (ag y)) ([]=(bZ y).1.1/\[]=(bZ y).1.2/\13=q1/\8=h/\True) ((∃z:DcX,aa [y] (0=((z.r:Nat):Int)/\[]=z.s/\0=ag z.c/\false=false/\[]=z.c/\(Iv (Ϫ y z))))/\(∀x:DcX,let b:=((x.r:Nat):Int);let j:=bM x.s [ag x.c];let e:=gt [] y b.toNat;let a:=lD (e,0);let i:=(bH (dr.mk x.c false) (aW.mk 4 0 0 [])).1;let f:=(i,ah.mk a.op a.r a.mn a.mx a.lz a.cap a.nk a.ae);let k:=ag (eC f).af;let g:=(bH (eC f) (aW.mk 4 1 0 [])).1;let d:=(bH g (aW.mk 7 b 0 [])).1;(Iv (Ϫ y x))->aj (aw b (ag y)) (aG 0 b/\aw b (ag y)/\Iv (cE e)/\aa [e] (aj (!(dS e)) ([]=(bZ y).1.1/\[]=(bZ y).1.2/\1=q1/\b=h/\True) (bJ (ag j) 8/\aa [x.s] (aa [ag x.c] (aG 0 b/\aw b (ag y)/\Iv (RdP (e,0))/\aa [e] (aa ([0]:List Int) (Iv (x.c.length<=400)/\aa ([4,0,0]:List Int) (aa ([[]]:List (List (Int×Int))) (aa [ag x.c] (false=false/\aa [x.c] (Iv (CZ f)/\aa [a.op] (aa [a.r] (aa [a.mn,a.mx] (aa [a.lz] (aa [a.cap,a.nk] (aa [a.ae] (aa [ag i.af] (aa [i.bU] (aa [i.af] (Iv ((eC f).af.length<=400)/\aa ([4,1,0]:List Int) (aa ([[]]:List (List (Int×Int))) (aa [k] (aa [(eC f).bU] (aa [(eC f).af] (Iv (g.af.length<=400)/\aa ([7,b,0]:List Int) (aa ([[]]:List (List (Int×Int))) (aa [ag g.af] (aa [g.bU] (aa [g.af] (aj d.bU ([]=(bZ y).1.1/\[]=(bZ y).1.2/\12=q1/\b=h/\True) (∃z:DcX,aa [y] (ay .i64 b 1=((z.r:Nat):Int)/\j=z.s/\ag d.af=ag z.c/\d.bU=false/\d.af=z.c/\(Iv (Ϫ y z/\(y.length-z.r)<(y.length-x.r))))))))))))))))))))))))))))))))))) (x.c=(bZ y).1.1/\x.s=(bZ y).1.2/\0=q1/\0=h/\True)))
theorem C3 {l r:List Nd} {a:Nat} {t:ah} (h:ku t) (e:l.drop a=aD t++r):lD (l,(a:Int))=t:=by
 grind [lD,ki]
theorem QsS (y:List Nd×Int) (s:Jm.pre y):Wm y:=by
 obtain⟨l,i⟩:=y;obtain⟨h0,h1,t,r,m,d⟩:=s;obtain⟨a,rfl⟩:=Zau h0;simp only[Zad] at h1 d;have j:=C3 m d;have f:∀i t,lD (l,i)=t->Wl (l,i)=i+(aD t).length:=λi t h=>by grind [Wl,aC]
 have n:∀k,OH (l,(a:Int)) k=((fO t a k:Nat):Int):=λk=>by grind [OH,fO,aC]
 obtain⟨w,u,z⟩:=qt d;have wf:=(iQ t).mp m;have q:=FA t.ae;have o:(aD t).length=(aA t.ae).length+1:=by rw[bT];simp
 unfold Wm;have p:gt (Nd.mk 0 [] 0 0 false 0 0) l a=⟨t.op,t.r,t.mn,t.mx,t.lz,t.cap,t.ae.length⟩:=u;simp only[j,f _ _ j,n,Zad,p];simp only[bC,fm,dA,hU,au,aT,br,bR];refine⟨ω,ω,⟨0,by grind [ky],rfl,wf.2.1.symm,rfl,Zaj _⟩,λx v=>⟨λe=>?_,λe=>?_⟩⟩
 ·rw[wf.2.1] at e;have c:x<t.ae.length:=ω;have hk:=wi d c;have b:=wf.2.2.mem c;have g:=C3 (a:=fO t a x) b hk;rw[f _ _ g,g];refine⟨⟨⟨ω,h1,_,_,b,by assumption⟩,iP c⟩,?_,x+1,by grind [Bm],bK ω,(cq bF c).symm,ω,ω⟩;grind
 ·grind [fO]
def QkZ:Ok Jm:=RC (λy=>dm (lD y)) ϫ trivial QsS
theorem ϭ {t:ah} (h:ku t) (r:Nat):Fit (λs=>(bH (bH (i_ t (bH s ⟨4,0,0,[]⟩).1) ⟨4,1,0,[]⟩).1 ⟨7,r,0,[]⟩).1) (qF t r) (bt t+3):=by
 have F:=(((l6 ⟨4,0,0,[]⟩).then (Wj t h)).then (l6 ⟨4,1,0,[]⟩)).then (l6 ⟨7,r,0,[]⟩);rw[show 1+bt t+1+1=bt t+3 by omega] at F;have:(λn=>[(⟨4,0,0,[]⟩:aW)]++bS t (n+1)++[⟨4,1,0,[]⟩]++[⟨7,(r:Int),0,[]⟩])=qF t r:=funext λn=>by grind [qF]
 grind
theorem QsT (y:List (List Nd)) (o:Jn.pre y):Wn y:=by
 obtain⟨h1,k⟩:y.length<=1000000/\∀l∈y,∀x∈l,iO x:=o;have f:bZ y=IN y:=by grind [bZ,aC]
 have j:∀s t,eC (s,t)=i_ t s:=λs t=>by grind [eC,aC]
 unfold Wn;simp only[bL,bC,au,dq,br,Zad,aT,Zan,Zao,bR,j];unfold IN at f;refine⟨λe=>?_,λe=>?_⟩
 ·grind
 ·rw[Zaa ω] at f;refine⟨⟨⟨[],[],0⟩,rfl,rfl,rfl,rfl,Zaj _,ω,Zaj _,rfl,f.symm⟩,λx i=>?_⟩;obtain⟨c,s,r⟩:=x;obtain⟨i1,i2,i3,i4,i5⟩:=i;simp only at i1 i3 i4 i5 ⊢;refine⟨λe2=>?_,λe2=>?_⟩
  ·have v:r<y.length:=ω;have n:y.drop r=y.getD r []::y.drop (r+1):=by simp_all
   have b:cE (y.getD r []):=k _ (by grind);rw[n,ni] at i5;generalize y.getD r []=l at*
   refine⟨ω,e2,b,λh=>?_,λh=>?_⟩
   ·grind
   ·rw[Zaa (by grind)] at i5;obtain⟨t,d,w,u⟩:=jl h;have h0:l.drop 0=aD t++[]:=by grind
    have ht:rC l=t:=by
     grind [ki,rC]
    have m:lD (l,0)=t:=C3 (a:=0) d h0;rw[ht] at i5;rw[m];have hl:(aD t).length<=480:=by grind
    have hw:F8 t:=⟨⟨ω,λx i=>b x (by grind)⟩,d⟩;have F:=ϭ d r;have p1:=(eU ⟨c,false⟩ ⟨4,0,0,[]⟩).1;have p:=l5 t (bH ⟨c,false⟩ ⟨4,0,0,[]⟩).1;have q1:=(eU (i_ t (bH ⟨c,false⟩ ⟨4,0,0,[]⟩).1) ⟨4,1,0,[]⟩).1;have m1:=p1.max i3;have m2:=p.max m1;refine⟨by grind,ω,e2,⟨ZaQ _,u,t,[],d,h0⟩,i3,⟨m1,hw⟩,m2,q1.max m2,λq=>?_,λq=>?_⟩
    ·by_cases g:c.length+(bt t+3)<=400
     ·have:=F.ok c g;grind
     ·grind
    ·by_cases g:c.length+(bt t+3)<=400
     ·have hk:=F.ok c g;rw[Zaa ω] at i5;rw[hk];refine⟨⟨c++qF t r c.length,s++[(c.length:Int)],r+1⟩,bK ω,rfl,rfl,rfl,rfl,⟨by assumption,i2,by simp only[Zab,F.len];omega,by simp[i4],i5⟩,by grind⟩
     ·have:=F.no c i3 ω;grind
  ·grind [ni]
def Qk0:Ok Jn:=okZ [N0,Jm,zQ,Jl] f81 QsQ ⟨Qcu ri,QkZ,LK,QsM .n⟩ QsT
def Ϯ:bh D:=bO 80 (List Nd) ZE oy (λy=>[.list 7 y]) λy=>.list 7 (lk (cP y))
def ruO (n:Nat) (y:cj) (l:LdR):Nat×AO D.E:=(n,.cells [.list 3 y.r,.str y.c,.list 8 l.af,.list 5 l.st,.list 8 l.cc,.list 5 l.cs,.bool (!seq y.c [])] 90 false)
def C4:bh D:=⟨29,cj×Bool,CO oK,qG,λy=>[CM y.1],λ_=>[],
 λy=>match y.2 with
  | true=>.tuple [.ptr 0 0,Qvo 0,Qvo 0]
  | false=>.tuple [.fT,Qvo (b9 y.1).an,Qvo (b9 y.1).at_],
 λy=>match y.2 with
  | true=>[ruO 0 y.1 (b9 y.1)]
  | false=>[],0,1⟩
def dsO (y:cj):Nat×AO D.E:=(0,.cells [.list 3 y.r,.str y.c] 24 false)
def oc (y:cj) (x:List (List Nd)×Nat):Prop:=y.r.length<=8/\∃t,(∀k,jM t k=(y.r.take x.2).any λp=>decide (p.name=k))/\yI y ⟨t,x.1,x.2⟩
def tW (y:cj):List Nd:=lk (if y.c≠[] then cP (cm y.c).1 else[])
def Qk1 (y:C4.Y):cH D:=⟨[],[],[(250,⟨List (List Nd)×Nat,[5],λx=>[(1,.ptr 0 0),(6,.grow 9 x.1 1),(7,Qvo x.2)],[],λ_=>[dsO y.1,(1,.tok 9 138)],2,oc y.1,λx=>y.1.r.length-x.2⟩)],
 [(1023,⟨Unit,[5],λ_=>[(1,.ptr 0 0),(6,.list 9 (bs y.1).out),(13,.ptr 1 0),(14,.list 7 (tW y.1))],[],λ_=>[dsO y.1,ruO 1 y.1 (LB 0 0)],2,λ_=>(bs y.1).an=0/\y.1.r.length<=8/\(y.1.c≠[]->(cm y.1.c).2.1=0),λ_=>0⟩)],1,
 [(128154,⟨List (List Nd)×Nat,λx=>{ X:=Nat,aO:=[5,7],sl:=λk=>[(1,.ptr 0 0),(6,.grow 9 x.1 1),(8,.ptr 2 0),(9,Qvo k)],kp:=[],pc:=λ_=>[dsO y.1,(1,.tok 9 138),(2,.cells [.str (y.1.r.getD x.2 ⟨[],[]⟩).name,.str (y.1.r.getD x.2 ⟨[],[]⟩).text] 77 false)],nx:=3,inv:=λk=>k<=x.2/\x.2<y.1.r.length/\oc y.1 x/\∀j,j<k->(y.1.r.getD j ⟨[],[]⟩).name≠(y.1.r.getD x.2 ⟨[],[]⟩).name,me:=λk=>x.2-k },none⟩)]⟩
def Jo (y:cj):Prop:=let i:=bZ (bs y).out;let q1:=y.r.length;let e:=ag y.r;let m:=!(seq y.c []);let n:=([tW y]:List (List Nd));let t:=(cm y.c).1;let w:=!(aB (cm y.c).2.1 0);let A:=!(aB (bZ n).2.1 0);let v:=λp:Prop=>RAB (RA4 y p);let u:=λp:Prop=>RA4 y p;let B:=Iv ((bs y).an=0/\q1<=8/\((Ne (y,true).1.c [])->(cm y.c).2.1=0));let k:Prop:=(RA4 y (RAE (RAF (RAE (RAF (RAH m (RA4 y (B))))))));let F:=λj:Nat=>List.getD y.r j (iX.mk [] []);aj (aw 8 e) (False) ((∃z:(List (List Nd))×Nat,RAH e ([]=z.1/\0=(z.2:Int)/\u ((Iv (oc y z)))))/\(∀x:(List (List Nd))×Nat,let b:=(x.2:Int);let g:=gt (iX.mk [] []) y.r b.toNat;(Iv (oc y x))->aj (aw b e) (aG 0 b/\aw b e/\Iv True/\RAH g.name (aj (!(iZ g.name)) (False) (∃z:(List (List Nd))×Nat,let a:=List.getD y.r z.2 (iX.mk [] []);let h:=(cm a.text).1;let o:=!(aB (cm a.text).2.1 0);let l:=bM z.1 [lk (cP h)];(∃d:Nat,aa [e,b] (x.1=z.1/\0=(d:Int)/\g.name=a.name/\g.text=a.text/\u ((Iv (d<=z.2/\z.2<q1/\oc y z/\(∀j:Nat,(Nat.le (Nat.succ j) d)->Ne (F j).name a.name))))))/\(∀f:Nat,let q:=aw (f:Int) b;let s:=seq (gt (iX.mk [] []) y.r (f:Int).toNat).name a.name;(Iv (f<=z.2/\z.2<q1/\oc y z/\(∀j:Nat,(Nat.le (Nat.succ j) f)->Ne (F j).name a.name)))->aj q (aG 0 (f:Int)/\aw (f:Int) e/\aa [y.r] (aa [(gt (iX.mk [] []) y.r (f:Int).toNat).name,a.name] (aj s (False) (∃d:Nat,aa [e,b] (aa [z.1] (ay .i64 (f:Int) 1=(d:Int)/\aa [a.name,a.text] (aa [y.r] (aa [y.c] ((Iv ((d<=z.2/\z.2<q1/\oc y z/\(∀j:Nat,(Nat.le (Nat.succ j) d)->Ne (F j).name a.name))/\(z.2-d)<(z.2-f)))))))))))) (Iv True/\aa [a.text] (aj o (False) (Iv (oy h)/\aa [h] (bJ (ag l) 24/\∃d:(List (List Nd))×Nat,aa [e] (l=d.1/\ay .i64 b 1=(d.2:Int)/\u ((Iv (oc y d/\(q1-d.2)<(q1-x.2))))))))))))) (bJ e 32/\RAH y.r ((aj m (Iv True/\aa [y.c] (aj w (False) (Iv (oy t)/\aa [t] (∃z:Unit,aa [e] (x.1=(bs y).out/\lk (cP t)=tW y/\k))))) (∃z:Unit,aa [e] (x.1=(bs y).out/\[]=tW y/\k)))/\(∀f:Unit,B->Iv (pJ (bs y).out)/\aa [(bs y).out] (aj (!(aB i.2.1 0)) (False) (aj m (Iv (pJ n)/\aa [n] (aj A (False) (v (i.1.1=(b9 y).af/\i.1.2=(b9 y).st/\(bZ n).1.1=(b9 y).cc/\(bZ n).1.2=(b9 y).cs/\aa [m] (True))))) (v (i.1.1=(b9 y).af/\i.1.2=(b9 y).st/\[]=(b9 y).cc/\[]=(b9 y).cs/\aa [m] (True))))))))))
def Jp (y:cj):Prop:=let d:=ag y.r;let q1:=y.r.length;let q:=!(seq y.c []);let l:=([tW y]:List (List Nd));let s:=(cm y.c).1;let m:=(cm y.c).2.1;let t:=(bZ (bs y).out).2;let w:=!(aB (bZ l).2.1 0);let u:=λp:Prop=>RA4 y p;let A:=Iv ((bs y).an=0/\q1<=8/\((Ne (y,false).1.c [])->m=0));let v:Prop:=(RA4 y (RAE (RAF (RAE (RAF (RAH q (RA4 y (A))))))));let B:=λj:Nat=>List.getD y.r j (iX.mk [] []);aj (aw 8 d) (13=(b9 y).an/\8=(b9 y).at_/\True) ((∃z:(List (List Nd))×Nat,RAH d ([]=z.1/\0=(z.2:Int)/\u ((Iv (oc y z)))))/\(∀x:(List (List Nd))×Nat,let b:=(x.2:Int);let g:=gt (iX.mk [] []) y.r b.toNat;(Iv (oc y x))->aj (aw b d) (aG 0 b/\aw b d/\Iv True/\RAH g.name (aj (!(iZ g.name)) (14=(b9 y).an/\b=(b9 y).at_/\True) (∃z:(List (List Nd))×Nat,let a:=List.getD y.r z.2 (iX.mk [] []);let h:=(cm a.text).1;let i:=(cm a.text).2.1;let k:=bM z.1 [lk (cP h)];(∃e:Nat,aa [d,b] (x.1=z.1/\0=(e:Int)/\g.name=a.name/\g.text=a.text/\u ((Iv (e<=z.2/\z.2<q1/\oc y z/\(∀j:Nat,(Nat.le (Nat.succ j) e)->Ne (B j).name a.name))))))/\(∀f:Nat,let n:=aw (f:Int) b;let o:=seq (gt (iX.mk [] []) y.r (f:Int).toNat).name a.name;(Iv (f<=z.2/\z.2<q1/\oc y z/\(∀j:Nat,(Nat.le (Nat.succ j) f)->Ne (B j).name a.name)))->aj n (aG 0 (f:Int)/\aw (f:Int) d/\aa [y.r] (aa [(gt (iX.mk [] []) y.r (f:Int).toNat).name,a.name] (aj o (8=(b9 y).an/\b=(b9 y).at_/\True) (∃e:Nat,aa [d,b] (aa [z.1] (ay .i64 (f:Int) 1=(e:Int)/\aa [a.name,a.text] (aa [y.r] (aa [y.c] ((Iv ((e<=z.2/\z.2<q1/\oc y z/\(∀j:Nat,(Nat.le (Nat.succ j) e)->Ne (B j).name a.name))/\(z.2-e)<(z.2-f)))))))))))) (Iv True/\aa [a.text] (aj (!(aB i 0)) (i=(b9 y).an/\b=(b9 y).at_/\True) (Iv (oy h)/\aa [h] (bJ (ag k) 24/\∃e:(List (List Nd))×Nat,aa [d] (k=e.1/\ay .i64 b 1=(e.2:Int)/\u ((Iv (oc y e/\(q1-e.2)<(q1-x.2))))))))))))) (bJ d 32/\RAH y.r ((aj q (Iv True/\aa [y.c] (aj (!(aB m 0)) (m=(b9 y).an/\d=(b9 y).at_/\True) (Iv (oy s)/\aa [s] (∃z:Unit,aa [d] (x.1=(bs y).out/\lk (cP s)=tW y/\v))))) (∃z:Unit,aa [d] (x.1=(bs y).out/\[]=tW y/\v)))/\(∀f:Unit,A->Iv (pJ (bs y).out)/\aa [(bs y).out] (aj (!(aB t.1 0)) (t.1=(b9 y).an/\t.2=(b9 y).at_/\True) (aj q (Iv (pJ l)/\aa [l] (aj w ((bZ l).2.1=(b9 y).an/\d=(b9 y).at_/\True) (False))) (False))))))))
abbrev pN:iX:=⟨[],[]⟩
theorem ϯ {t:List Row} {n:By} {v:Int} (h:jM t n=false) (k:By):jM (rD t n v) k=(jM t k||decide (n=k)):=by
 grind [LI,jM,List.take_append_drop]
theorem FF {y:cj} {x:List (List Nd)×Nat} (h:oc y x) (m:x.2<y.r.length):
  (iZ (y.r.getD x.2 pN).name=false->(bs y).an=14/\(bs y).at_=x.2)/\
  (iZ (y.r.getD x.2 pN).name->(∃j,j<x.2/\(y.r.getD j pN).name=(y.r.getD x.2 pN).name)->(bs y).an=8/\(bs y).at_=x.2)/\
  (iZ (y.r.getD x.2 pN).name->(∀j,j<x.2->(y.r.getD j pN).name≠(y.r.getD x.2 pN).name)->((cm (y.r.getD x.2 pN).text).2.1≠0->(bs y).an=(cm (y.r.getD x.2 pN).text).2.1/\(bs y).at_=x.2)/\
   ((cm (y.r.getD x.2 pN).text).2.1=0->oc y (x.1++[cP (cm (y.r.getD x.2 pN).text).1],x.2+1))):=by
 obtain⟨h1,t,f,g⟩:=h;obtain⟨c,d,s3⟩:=yO g m;simp only at c d s3;have ht:∀k,jM t k↔∃j,j<x.2/\(y.r.getD j pN).name=k:=λk=>by
  rw[f,ZcT];constructor
  ·rintro⟨p,l,e⟩;obtain⟨j,b,rfl⟩:=Za3 l;rw[Zar] at b;refine⟨j,ω,?_⟩;grind
  ·rintro⟨j,b,e⟩;rw[eL ω] at e;exact⟨y.r[j],List.mem_iff_getElem.mpr ⟨j,by grind,by grind⟩,by grind⟩
 refine⟨c,λa e2=>d a ((ht _).mpr e2),λa e2=>?_⟩;have i:jM t (y.r.getD x.2 pN).name=false:=by
  grind
 obtain⟨n,o⟩:=s3 a i;refine⟨n,λe=>⟨h1,_,λk=>?_,o e⟩⟩;grind [ϯ,cq]
theorem Qk4 (y:cj) (b:Bool) (O:C4.pre (y,b)):(b->Jo y)/\(b=false->Jp y):=by
 obtain⟨hl,S⟩:y.r.length<=1000/\b=oK y:=O;have I:b9 y=jm y:=by grind [b9,aC]
 have C:y.c≠[]->tW y=cP (cm y.c).1:=λh=>by grind [tW,aC]
 have z:y.c=[]->tW y=[]:=λh=>by grind [tW,aC]
 have E:b↔(jm y).an=0:=by grind [oK]
 have J:∀{s:By},seq s []=false↔s≠[]:=λ{s}=>by grind
 obtain⟨Q,U⟩:(∀x∈(bs y).out,cE x)/\(bs y).out.length<=y.r.length:=by
  grind [wo,bs,aC]
 have L:pJ (bs y).out:=⟨ω,Q⟩;have P:cE (tW y):=by
  by_cases h:y.c=[]
  ·grind [eQ]
  ·grind [wm,ma]
 have H:pJ [tW y]:=⟨by simp,λl hl=>by rw[List.mem_singleton.mp hl];exact P⟩;have G:8<y.r.length->jm y=LB 13 8:=λh=>by grind [jm]
 have hz:y.r.length<=8->oc y ([],0):=λh=>⟨h,[],λk=>rfl,Zaj _,List.Pairwise.nil,Zah _,rfl,by grind [bs,aC]⟩
 have p:∀x:List (List Nd)×Nat,oc y x->¬x.2<y.r.length->x.1=(bs y).out/\(bs y).an=0:=λx f e=>by
  obtain⟨_,t,_,i1,_,_,_,i5⟩:=f;grind [l3]
 have hlen:∀x:List (List Nd)×Nat,oc y x->x.1.length=x.2:=λx f=>by
  obtain⟨_,t,_,_,_,_,i4,_⟩:=f;exact i4
 have K:∀n,gt (iX.mk [] []) y.r n=y.r.getD n pN:=λ_=>rfl
 have A:∀n,y.r.getD n (iX.mk [] [])=y.r.getD n pN:=λ_=>rfl
 constructor
 ·intro N;have h0:=E.mp N;unfold Jo;rw[I];simp only[bL,bC,au,aT,br,xJ,J,K,A,Zad,Zan,Zao,aC,ZaY,ZaZ];refine⟨λD=>?_,λD=>⟨⟨([],0),rfl,rfl,hz ω⟩,λx f=>⟨λe=>?_,λe=>?_⟩⟩⟩
  ·rw[G ω] at h0;cases h0
  ·have w:x.2<y.r.length:=ω;obtain⟨M,F,s3⟩:=FF f w;have V:(bs y).an=0:=Zch λh=>by rw[VW ω h] at h0;exact h h0
   refine⟨ω,e,λq=>?_,λq=>⟨x,⟨0,rfl,rfl,rfl,rfl,Zaj _,w,f,λj g=>absurd g (Zbo _)⟩,λk hk=>?_⟩⟩
   ·grind
   ·obtain⟨k1,k2,k3,k4⟩:=hk;refine⟨λek=>⟨ω,ω,λi=>?_,λi=>⟨k+1,bK ω,⟨ω,w,f,λj g=>?_⟩,ω⟩⟩,λek=>⟨λi=>?_,λi=>⟨ma _,?_,(x.1++[cP (cm (y.r.getD x.2 pN).text).1],x.2+1),rfl,bK ω,?_,show y.r.length-(x.2+1)<y.r.length-x.2 by omega⟩⟩⟩
    ·have:=(F q ⟨k,ω,i⟩).1;omega
    ·grind
    ·grind
    ·grind
    ·grind
  ·obtain⟨B,m⟩:=p x f ω;refine⟨ω,⟨λd=>⟨λu=>?_,λu=>⟨ma _,B,(C d).symm,m,ω,λ_=>u⟩⟩,λd=>⟨B,(z d).symm,m,ω,λh=>absurd d h⟩⟩,λg=>⟨L,λv=>?_,λv=>⟨λd=>⟨H,λo=>?_,λo=>?_⟩,λd=>?_⟩⟩⟩
   ·rw[VX ω m d u] at h0;exact u h0
   ·rw[VY ω m g.2.2 v] at h0;exact v h0
   ·rw[C d] at o;rw[VZ ω m g.2.2 v d o] at h0;exact o h0
   ·grind [V0]
   ·grind [V1]
 ·intro R;have h0:(jm y).an≠0:=λh=>by grind
  unfold Jp;rw[I];simp only[bL,bC,au,aT,br,xJ,J,K,A,Zad,Zan,Zao,aC,ZaY,ZaZ];have an:∀{e a:Int},y.r.length<=8->(bs y).an=e/\(bs y).at_=a->e≠0->e=(jm y).an/\a=(jm y).at_:=λD h T=>by
   rw[VW ω ω,h.1,h.2];exact⟨rfl,rfl⟩
  refine⟨λD=>?_,λD=>⟨⟨([],0),rfl,rfl,hz ω⟩,λx f=>⟨λe=>?_,λe=>?_⟩⟩⟩
  ·rw[G ω];exact⟨rfl,rfl⟩
  ·have w:x.2<y.r.length:=ω;obtain⟨M,F,s3⟩:=FF f w;refine⟨ω,e,λq=>an ω (M q) (by decide),λq=>⟨x,⟨0,rfl,rfl,rfl,rfl,Zaj _,w,f,λj g=>absurd g (Zbo _)⟩,λk hk=>?_⟩⟩;obtain⟨k1,k2,k3,k4⟩:=hk;refine⟨λek=>⟨ω,ω,λi=>an ω (F q ⟨k,ω,i⟩) (by decide),λi=>⟨k+1,bK ω,⟨ω,w,f,λj g=>?_⟩,ω⟩⟩,λek=>⟨λi=>an ω ((s3 q λj g=>k4 j (show j<k by omega)).1 i) i,λi=>⟨ma _,?_,(x.1++[cP (cm (y.r.getD x.2 pN).text).1],x.2+1),rfl,bK ω,?_,show y.r.length-(x.2+1)<y.r.length-x.2 by omega⟩⟩⟩
   ·grind
   ·grind
   ·grind
  ·obtain⟨B,m⟩:=p x f ω;refine⟨ω,⟨λd=>⟨λu=>?_,λu=>⟨ma _,B,(C d).symm,m,ω,λ_=>u⟩⟩,λd=>⟨B,(z d).symm,m,ω,λh=>absurd d h⟩⟩,λg=>⟨L,λv=>?_,λv=>⟨λd=>⟨H,λo=>?_,λo=>?_⟩,λd=>?_⟩⟩⟩
   ·rw[VX ω m d u];exact⟨rfl,rfl⟩
   ·rw[VY ω m g.2.2 v];exact⟨rfl,rfl⟩
   ·rw[C d] at o ⊢;rw[VZ ω m g.2.2 v d o];exact⟨rfl,rfl⟩
   ·grind [V0]
   ·grind [V1]
def Qk5 (hs:Ok Ϯ):Ok C4:=Qo5 (k:=C4) (T:=Jo) (F:=Jp) [Ov,Iu,Ϯ,Jn] f29 Qk1 id id (λ_=>rfl) ⟨Qkg,QjB QeG (HB ri) (QeJ ri),hs,Qk0⟩ (λy a=>(Qk4 y true a).1 rfl) λy a=>(Qk4 y false a).2 rfl
mutual
def nrm:ah->ah
 | .mk op r mn mx lz cap _ ks=>.mk op r mn mx lz cap ks.length (od ks)
def od:List ah->List ah
 | []=>[]
 | t::l=>nrm t::od l
end
theorem gD (l:List ah):od l=l.map nrm:=by
 induction l with
 | nil=>simp[od]
 | cons a l b=>simp[od,b]
def jo (t:ah):nrm t=.mk t.op t.r t.mn t.mx t.lz t.cap t.ae.length (t.ae.map nrm):=by cases t;rw[nrm,gD];rfl
mutual
theorem yW:∀(t:ah) (m:Nat) (rest:List Nd),(aD t++rest).length<=m->fN m (aD t++rest)=some (nrm t,rest)
 | .mk op r mn mx lz cap nk ks,m,rest,hm=>by
  rw[aD] at hm ⊢
  simp only[Za1,Zae] at hm ⊢
  obtain⟨k,rfl⟩:∃k,m=k+1:=⟨m-1,ω⟩
  rw[fN]
  simp only[Zad]
  rw[Bt ks k rest ω,nrm]
theorem Bt:∀(l:List ah) (m:Nat) (rest:List Nd),(aA l++rest).length<=m->jI (fN m) l.length (aA l++rest)=some (od l,rest)
 | [],m,rest,_=>by simp[jI,aA,od]
 | t::l,m,rest,hm=>by
  rw[aA,ZaD] at hm ⊢
  rw[Zae,jI,yW t m _ hm]
  simp only
  rw[Bt l m rest (by simp only[Zab] at hm ⊢;omega),od]
end
mutual
theorem yX:∀t:ah,aD (nrm t)=aD t
 | .mk op r mn mx lz cap nk ks=>by rw[nrm,aD,aD,qz ks,gD,Za2]
theorem qz:∀l:List ah,aA (od l)=aA l
 | []=>by rw[od]
 | t::l=>by rw[od,aA,aA,yX t,qz l]
end
theorem yY (a b:ah):aD a=aD b↔nrm a=nrm b:=by
 constructor
 ·intro h;have h1:=yW a (aD a).length [] (by simp);grind [yW]
 ·grind [yX]
theorem LU (a b:ah):vD a b↔nrm a=nrm b:=by
 grind [vD,aC,yY]
mutual
theorem LV:∀a b:ah,UJ a b=true↔nrm a=nrm b
 | .mk op r mn mx lz cap nk ks,b=>by
  rw[UJ,nrm,jo b]
  simp only[ZaW,Zb7,ZaP,ah.mk.injEq,<-gD]
  constructor
  ·rintro⟨⟨⟨⟨⟨⟨⟨h1,h2⟩,h3⟩,h4⟩,h5⟩,h6⟩,h7⟩,h8⟩
   exact⟨h1,h6,h2,h3,h4,h5,ω,(yZ ks b.ae h7).mp h8⟩
  ·rintro⟨h1,h6,h2,h3,h4,h5,h7,h8⟩
   have h7:ks.length=b.ae.length:=ω
   exact⟨⟨⟨⟨⟨⟨⟨h1,h2⟩,h3⟩,h4⟩,h5⟩,h6⟩,h7⟩,(yZ ks b.ae h7).mpr h8⟩
theorem yZ:∀l m:List ah,l.length=m.length->(sJ l m=true↔od l=od m)
 | [],m,h=>by
  cases m with
  | nil=>simp[sJ,od]
  | cons b m=>cases h
 | a::l,m,h=>by
  cases m with
  | nil=>cases h
  | cons b m=>
   rw[sJ,od,od,ZaW,LV a b,yZ l m (by simpa using h),List.cons.injEq]
end
theorem LW (a b:ah):ow a b↔nrm a=nrm b:=by
 unfold ow;rw[aC,LV]
theorem ϰ (a b:ah):vD a b=ow a b:=by grind [LU,LW]
theorem sV:∀(l s o:List ah),(∀k,s.any (λx=>ow x k)=o.any (λx=>ow x k))->eo o l=o++e_ s l
 | [],s,o,_=>by grind [eo,e_]
 | k::l,s,o,h=>by
  rw[eo,e_];have b:(λx=>vD x k)=λx=>ow x k:=funext λx=>ϰ x k
  rw[b];by_cases c:s.any (λx=>ow x k)
  ·rw[Zac c,Zac (by simp_all)];refine sV l (s++[k]) o λa=>?_
   rw[Zca,h];simp only[ZdX,List.any_nil,Zdh];cases hk:ow k a with
   | false=>rw[Zdh]
   | true=>
    rw[Bool.or_true];symm;rw[h] at c;grind [LW]
  ·rw[Zaa c,Zaa (by simp_all),sV l (s++[k]) (o++[k]) λa=>by simp_all];simp
def wv (l:List ah):wq l=j6 l:=by
 unfold wq j6;rw[sV l [] [] λ_=>rfl,Zcb]
theorem sW:∀(l o:List ah),(bI o l).length=o.length+l.length->bI o l=o++l
 | [],o,_=>by grind [bI]
 | k::l,o,h=>by
  rw[bI] at h ⊢;have h1:(dL o k).length<=o.length+1:=jk o k;have b:∀(l o:List ah),(bI o l).length<=o.length+l.length:=λl=>by
   induction l with
   | nil=>intro o;rw[bI];exact Zah _
   | cons a l c=>intro o;rw[bI];have:=c (dL o a);have:=jk o a;simp only[Zae];omega
  have d:=b l (dL o k);simp only[Zae] at h;rw[sW l (dL o k) ω];grind [dL]
theorem OI {l:List ah} (h:(j6 l).length=l.length):j6 l=l:=by
 unfold j6 at h ⊢;have e:eo [] l=e_ [] l:=by grind [sV]
 rw[e] at h ⊢;have s:=n9 l [];have c:=s.length_le;have d:(bI [] (e_ [] l)).length<=(e_ [] l).length:=by
  have:∀(l o:List ah),(bI o l).length<=o.length+l.length:=λl=>by
   induction l with
   | nil=>intro o;rw[bI];exact Zah _
   | cons a l b=>intro o;rw[bI];have:=b (dL o a);have:=jk o a;simp only[Zae];omega
  grind
 grind [sW]
theorem ϱ (l:List ah):(j6 l).length<=l.length:=by
 rw[<-wv];unfold wq;have:∀(l o:List ah),(bI o l).length<=o.length+l.length:=λl=>by
  induction l with
  | nil=>intro o;rw[bI];exact Zah _
  | cons a l b=>intro o;rw[bI];have:=b (dL o a);have:=jk o a;simp only[Zae];omega
 grind [n9]
theorem LX:∀(n:Nat) (l:List ah),l.length<=n->iV n l=jJ n l
 | 0,l,h=>by
  have:l=[]:=Zap ω;subst this;rfl
 | n+1,l,h=>by
  rw[iV,jJ,wv];have:=ϱ l;by_cases c:(j6 l).length=l.length
  ·grind [OI]
  ·rw[Zac ω,Zaa c];exact LX n _ ω
mutual
def eu:ah->Prop
 | .mk op _ _ _ _ _ _ ks=>(op=3->∀k∈ks,k.op≠1)/\(op=4->ks≠[])/\uO ks
def uO:List ah->Prop
 | []=>True
 | t::l=>eu t/\uO l
end
theorem Bu (l:List ah):uO l↔∀t∈l,eu t:=by
 induction l with
 | nil=>simp[uO]
 | cons a l b=>rw[uO,b];simp
theorem kz (t:ah):eu t↔(t.op=3->∀k∈t.ae,k.op≠1)/\(t.op=4->t.ae≠[])/\∀k∈t.ae,eu k:=by cases t;rw[eu,Bu];exact ZbW
noncomputable def byD (t:ah):ah:=if t.op=3 then Jb t else if t.op=4 then Je t else if t.op=5 then cV t else t
theorem Wq {l:List ah} (h:∀k∈l,eu k):ft l=hV (aF 3 l):=by
 unfold ft hV aF;rw[List.filter_flatMap];have:∀k∈l,(if k.op=1 then([]:List ah) else if k.op=3 then k.ae else[k])=List.filter (λt=>!wg t) (if k.op=3 then k.ae else[k]):=λk hk=>by
  grind [kz,List.filter_eq_self,wg]
 clear h
 induction l with
 | nil=>rfl
 | cons a l b=>rw[Zbt,Zbt,this a (by simp),b λk hk=>this k (by grind)]
theorem mb (t:ah):(nrm t).op=t.op:=by rw[jo];rfl
theorem Wr (t:ah):(nrm t).r=t.r:=by rw[jo];rfl
theorem np (t:ah):(nrm t).ae=t.ae.map nrm:=by rw[jo];rfl
theorem oe (t:ah):nrm (nrm t)=nrm t:=by rw[<-yY,yX]
theorem sX (l:List ah):(l.map nrm).map nrm=l.map nrm:=by grind [List.map_congr_left,oe]
theorem Jq (op:Int) (l:List ah):aF op (l.map nrm)=(aF op l).map nrm:=by
 unfold aF;grind [List.flatMap_map,mb,np]
theorem OJ (l:List ah):ft (l.map nrm)=(ft l).map nrm:=by
 unfold ft;grind [List.flatMap_map,mb,np]
theorem ϲ (a b:ah):vD (nrm a) (nrm b)=vD a b:=by grind [LU,oe]
theorem LY:∀l s:List ah,e_ (s.map nrm) (l.map nrm)=(e_ s l).map nrm
 | [],s=>rfl
 | k::l,s=>by
  have h:=LY l (s++[k]);rw[ZcG] at h;rw[Zbl,e_,e_,List.any_map];have e:((λx=>vD x (nrm k))∘nrm)=λx=>vD x k:=funext λx=>ϲ x k
  grind
theorem Ws (o:List ah):ox (o.map nrm)=nrm (ox o):=by
 unfold ox;rw[Za2];by_cases h:o=[]
 ·subst h;rfl
 ·have a:o.length-1<o.length:=by have:=List.length_pos_iff.mpr h;omega
  grind
def OK (o:List ah) (k:ah):dL (o.map nrm) (nrm k)=(dL o k).map nrm:=by
 unfold dL;rw[Ws,mb,mb,Wr,Wr,Za2];split
 ·rw[List.map_set];congr 1
 ·simp
theorem y0:∀l o:List ah,bI (o.map nrm) (l.map nrm)=(bI o l).map nrm
 | [],o=>rfl
 | k::l,o=>by rw[Zbl,bI,bI,OK,y0 l]
def Wt (l:List ah):wq (l.map nrm)=(wq l).map nrm:=by
 unfold wq;rw[show e_ [] (l.map nrm)=(e_ [] l).map nrm from LY l []];exact y0 _ []
theorem LZ:∀(n:Nat) (l:List ah),iV n (l.map nrm)=(iV n l).map nrm
 | 0,l=>by rw[iV,iV,Wt]
 | n+1,l=>by
  rw[iV,iV,Wt,Za2,Za2];split
  ·exact LZ n _
  ·rfl
mutual
theorem L0:∀t:ah,ql (nrm t)=ql t
 | .mk op r mn mx lz cap nk ks=>by rw[nrm,ql,ql,FG ks]
theorem FG:∀l:List ah,kg (od l)=kg l
 | []=>by rw[od]
 | t::l=>by rw[od,kg,kg,L0 t,FG l]
end
variable {l:List ah}
theorem Wu (t:ah):fo (nrm t)=fo t:=by grind [fo,L0]
theorem y1 (l:List ah):(l.map nrm).getD 0 bF=nrm (l.getD 0 bF):=by
 cases l with
 | nil=>rfl
 | cons a l=>rfl
theorem FH (t:ah):bG (nrm t)=nrm (bG t):=by grind [bG,np,y1]
theorem jq (t:ah) (a:List ah):nrm (iU t a)=.mk t.op t.r t.mn t.mx t.lz t.cap a.length (a.map nrm):=by grind [iU,nrm,gD]
theorem L1 (t:ah):nrm (byD t)=nrm (byD (nrm t)):=by
 unfold byD;rw[mb];split
 ·unfold Jb;rw[np,OJ]
  match ft t.ae with
  | []=>rfl
  | [k]=>exact(oe k).symm
  | a::b::l=>
   show nrm (iU t (a::b::l))=nrm (iU (nrm t) ((a::b::l).map nrm))
   rw[jq,jq,sX,Za2,jo t];rfl
 ·split
  ·unfold Je;rw[np,Jq,Za2,LZ]
   match iV (aF 4 t.ae).length (aF 4 t.ae) with
   | []=>show nrm (iU t [])=nrm (iU (nrm t) []);rw[jq,jq,jo t];rfl
   | [k]=>exact(oe k).symm
   | a::b::l=>
    show nrm (iU t (a::b::l))=nrm (iU (nrm t) ((a::b::l).map nrm))
    rw[jq,jq,sX,Za2,jo t];rfl
  ·split
   ·unfold cV;rw[FH,mb,Wu,FH,mb];have c:(nrm t).mn=t.mn/\(nrm t).mx=t.mx/\(nrm t).lz=t.lz/\(nrm t).cap=t.cap:=by rw[jo];exact⟨rfl,rfl,rfl,rfl⟩
    have e2:eN (Lk (vq (nrm t)))=eN (Lk (vq t)):=by rw[jo];cases t;rfl
    have d:eN (Lk (nrm (bG t)))=eN (Lk (bG t)):=by rw[jo];rfl
    rw[c.1,c.2.1,e2,d];split
    ·grind [oe]
    ·split
     ·grind [oe]
     ·split
      ·rfl
      ·split
       ·unfold EY;generalize bG t=k;rw[nrm,nrm,jo k];simp only[ah.op,ah.r,ah.mx,ah.mn,ah.lz,ah.cap,ah.ae,gD,sX,Za2]
       ·have e:∀u,nrm (vq u)=.mk u.op u.r u.mn u.mx (u.lz&&decide (u.mn≠u.mx)) u.cap u.ae.length (u.ae.map nrm):=λu=>by unfold vq;rw[nrm,gD]
        grind [mb,Wr,np,sX]
   ·grind [oe]
theorem uP {op:Int} (h:∀k∈l,eu k):∀k∈aF op l,eu k:=λt ht=>by
 grind [aF,kz]
theorem Jr (r:List Rg):eu (pC r):=by
 grind [pC,eu,uO]
theorem uQ:∀(l o:List ah),(∀k∈o,eu k)->(∀k∈l,eu k)->∀k∈bI o l,eu k
 | [],o,h,_=>by assumption
 | a::l,o,h,h2=>by
  rw[bI];refine uQ l _ (λk hk=>?_) λk hk=>h2 k (ZaU _ hk)
  grind [dL,Jr]
def OL (h:∀k∈l,eu k):∀k∈j6 l,eu k:=by
 rw[<-wv];exact uQ _ _ (λk hk=>nomatch hk) λk hk=>h k ((n9 l []).subset hk)
theorem y2:∀(n:Nat) (l:List ah),(∀k∈l,eu k)->∀k∈jJ n l,eu k
 | 0,l,h=>h
 | n+1,l,h=>by
  rw[jJ];split
  ·exact h
  ·exact y2 n _ (OL h)
theorem uR:∀(l o:List ah),(o≠[]\/l≠[])->bI o l≠[]
 | [],o,h=>by grind [bI]
 | a::l,o,_=>by
  rw[bI];refine uR l _ (.inl ?_);unfold dL;split
  ·simp_all
  ·simp
theorem OM (h:l≠[]):j6 l≠[]:=by
 rw[<-wv];refine uR _ _ (.inr ?_);cases l with
 | nil=>exact absurd rfl h
 | cons a l=>rw[e_];simp
theorem y3:∀(n:Nat) (l:List ah),l≠[]->jJ n l≠[]
 | 0,l,h=>h
 | n+1,l,h=>by
  rw[jJ];split
  ·exact h
  ·exact y3 n _ (OM h)
theorem FI (b:∀k∈l,eu k) (h:l≠[]):aF 4 l≠[]:=by
 cases l with
 | nil=>exact absurd rfl h
 | cons a l=>
  have c:=(kz a).mp (b a Za8);unfold aF;rw[Zbt];split
  ·simp_all
  ·simp
theorem y4 {op:Int} (h:∀k∈l,eu k) (c:op=3->∀k∈l,k.op≠1):eu (im op l):=by
 match l,h,c with
 | [],_,_=>rw[im,eu,uO];exact⟨λh=>absurd h (by decide),λh=>absurd h (by decide),trivial⟩
 | [k],h,_=>exact h k (by simp)
 | a::b::l,h,c=>
  grind [im,eu,Bu]
theorem Wv {t:ah} (hk:0<t.ae.length) (a:t.op=5) (h:∀k∈t.ae,eu k):eu (cV t):=by
 have K:eu (bG t):=by grind [bG]
 unfold cV;split
 ·exact K
 ·split
  ·exact K
  ·split
   ·grind [eu,uO]
   ·split
    ·rw[kz] at K ⊢;exact K
    ·rw[kz];exact⟨λe=>absurd (a.symm.trans e) (by decide),λe=>absurd (a.symm.trans e) (by decide),h⟩
theorem ϳ {t:ah} (hw:Ol ⟨t.op,t.r,t.mn,t.mx,t.lz,t.cap,t.ae.length⟩) (hk:∀k∈t.ae,eu k):nrm (byD t)=nrm (yD t)/\eu (yD t):=by
 have i:t.op=3\/t.op=4->t.r=[]/\t.mn=0/\t.mx=0/\t.lz=false/\t.cap=0:=λh=>by
  obtain⟨g,p⟩:=hw;grind [ck,NP]
 have o:∀{op:Int} {n:List ah},t.op=op->(op=3\/op=4)->nrm (iU t n)=nrm (.mk op [] 0 0 false 0 0 n):=λh j=>by
  grind [jq,nrm,gD]
 unfold byD yD;by_cases e:t.op=3
 ·rw[Zac e,Zac e];have f:∀k∈hV (aF 3 t.ae),eu k:=λk c=>uP hk k (List.mem_filter.mp c).1
  constructor
  ·unfold Jb EV;rw[Wq hk]
   match hV (aF 3 t.ae) with
   | []=>rfl
   | [k]=>rfl
   | a::b::l=>exact o e (.inl rfl)
  ·unfold EV;refine y4 f λ_ k c=>?_
   have:=(List.mem_filter.mp c).2;grind [wg]
 ·rw[Zaa e,Zaa e];by_cases d:t.op=4
  ·rw[Zac d,Zac d];have j:t.ae≠[]:=by
    have:=hw.aH d;grind
   have f:=y2 (aF 4 t.ae).length _ (uP (op:=4) hk);have hs:=y3 (aF 4 t.ae).length _ (FI hk j);constructor
   ·unfold Je CD;rw[LX _ _ (Zah _)];generalize jJ (aF 4 t.ae).length (aF 4 t.ae)=L at hs
    match L,hs with
    | [k],_=>rfl
    | a::b::l,_=>exact o d (.inr rfl)
   ·exact y4 f λh=>absurd h (by decide)
  ·rw[Zaa d,Zaa d];by_cases m:t.op=5
   ·rw[Zac m];have:=(hw.rep m).1;grind [Wv]
   ·grind [kz]
mutual
noncomputable def fa:ah->ah
 | .mk op r mn mx lz cap nk ks=>byD (.mk op r mn mx lz cap nk (cW ks))
noncomputable def cW:List ah->List ah
 | []=>[]
 | t::l=>fa t::cW l
end
mutual
theorem Bv:∀t:ah,ku t->nrm (fa t)=nrm (j7 t)/\eu (j7 t)
 | .mk op r mn mx lz cap nk ks,h=>by
  rw[ku] at h
  obtain⟨i1,i2⟩:=rF ks h.2.2
  have hl:=qo ks
  obtain⟨b1,b2⟩:=ϳ (t:=.mk op r mn mx lz cap nk (dC ks)) (by simp only[ah.ae];rw[hl];exact h.1) i2
  rw[fa,j7]
  refine⟨?_,b2⟩
  rw[<-b1,L1,L1 (.mk op r mn mx lz cap nk (dC ks))]
  have:nrm (.mk op r mn mx lz cap nk (cW ks))=nrm (.mk op r mn mx lz cap nk (dC ks)):=by
   rw[nrm,nrm,gD,gD,i1]
   have:=ZaR List.length i1
   rw[Za2,Za2] at this
   rw[this]
  rw[this]
theorem rF:∀l:List ah,nf l->(cW l).map nrm=(dC l).map nrm/\∀k∈dC l,eu k
 | [],_=>⟨by rw[cW,dC],λk hk=>by rw[dC] at hk;cases hk⟩
 | t::l,h=>by
  rw[nf] at h
  obtain⟨a1,a2⟩:=Bv t h.1
  obtain⟨b1,b2⟩:=rF l h.2
  rw[cW,dC]
  refine⟨by rw[Zbl,Zbl,a1,b1],λk hk=>?_⟩
  rcases List.mem_cons.mp hk with e | e
  ·rw[e];exact a2
  ·exact b2 k e
end
def Bw {t:ah} (h:ku t):aD (fa t)=aD (j7 t):=(yY _ _).mpr (Bv t h).1
end
end sx
namespace sx
open Go Go.RowKit cls syn sl
noncomputable abbrev H0:Hp D:=λt=>cA [] t
structure Qs (F:List Nat) (M:Pm D) (w:World) (M':Pm D) (w':World):Prop where
 le:Le M M'
 fJ:ee M' H0 w'
 pl:∀b,M'.pl b=M.pl b
 sb:∀b o,M'.sg b o≠none->M.sg b o≠none\/w.heap.size<=b\/b∈F
 size:w.heap.size<=w'.heap.size
 aO:∀c,c<w.heap.size->c ∉ F->w'.heap[c]?=w.heap[c]?
 os:w'.os=w.os
 tape:w'.tape=w.tape
 output:w'.output=w.output
variable {F F':List Nat} {M M' M'':Pm D} {w w' w'':World}
theorem Qs.refl (h:ee M H0 w):Qs F M w M w:=⟨l4 M,h,λ_=>rfl,λ_ _ h=>.inl h,Zah _,λ_ _ _=>rfl,rfl,rfl,rfl⟩
theorem Qs.trans (h:Qs F M w M' w') (k:Qs F' M' w' M'' w'') (a:∀c∈F',c∈F\/w.heap.size<=c):Qs F M w M'' w'' where
 le:=⟨λb m e=>k.le.1 b m (h.le.1 b m e),λb o v e=>k.le.2 b o v (h.le.2 b o v e)⟩
 fJ:=k.fJ
 pl b:=(k.pl b).trans (h.pl b)
 sb b o e:=by
  rcases k.sb b o e with e | e | e
  ·exact h.sb b o e
  ·exact .inr (.inl (Zav h.size e))
  ·grind
 size:=Zav h.size k.size
 aO c hc hn:=(k.aO c (ZbB hc h.size) λe=>(a c e).elim hn λh=>ω).trans (h.aO c hc hn)
 os:=k.os.trans h.os
 tape:=k.tape.trans h.tape
 output:=k.output.trans h.output
theorem Qs.GF (a:cU H0 M w H0 M' w' 0 0):Qs F M w M' w' where
 le:=⟨λb m e=>(a.ext b ω).trans e,a.J7⟩
 fJ:=a.fJ
 pl b:=a.ext b ω
 sb b o e:=by
  rcases a.lP b o e with e | e | ⟨c,f,d,h1,_⟩
  ·grind
  ·omega
  ·cases h1
 size:=a.size
 aO c hc _:=a.aO c hc λ⟨c,f,d,h1,_⟩=>by cases h1
 os:=a.os
 tape:=a.tape
 output:=a.output
def Qs.Qk6 (h:ee M H0 w) (hs:w.heap.size<=w'.heap.size) (g:w'.os=w.os) (ht:w'.tape=w.tape) (hu:w'.output=w.output) (hk:∀c,c<w.heap.size->c ∉ F->w'.heap[c]?=w.heap[c]?) (f:∀c∈F,D.ng<=c/\∀o,M.sg c o=none):Qs F M w M w':=
 ⟨l4 M,⟨λb o e=>(by cases e),λ_ _ _ _ _ _ e=>(by cases e),λb o v e=>let ⟨i,k,d,j⟩:=h.gR b o v e;⟨i,k,(gk (hk b (h.slt e) λa=>by rw[(f b a).2] at e;cases e)).trans d,j⟩,λ_ _ _ e=>(by cases e),λ_ _ _ _ _ e=>(by cases e),
  ⟨Zav h.mh.1.1 hs,D.gst _ _ (λc d=>hk c (ZbB d h.mh.1.1) λa=>by have:=(f c a).1;omega) h.mh.1.2⟩,λ_ _ _ e=>(by cases e)⟩,λ_=>rfl,λ_ _ h=>.inl h,hs,hk,g,ht,hu⟩
theorem Qs.gR {g:Nat} {ys:List ah} (h:ee M H0 w) (j:∀o,M.sg g o=none) (m:g∈F)
  (f:∀i v,(aV (D:=D) 15 ys)[i]?=some v->∃a,w.cell? ⟨g,i,none⟩=some a/\VR M v a):Qs F M w ⟨M.pl,df M.sg g 0 (aV 15 ys)⟩ w:=by
 have hle:Le M ⟨M.pl,df M.sg g 0 (aV 15 ys)⟩:=⟨λ_ _ h=>h,kG λq _ _=>j q⟩;refine⟨hle,⟨λb o e=>(by cases e),λ_ _ _ _ _ _ e=>(by cases e),λb q v e=>?_,λ_ _ _ e=>(by cases e),λ_ _ _ _ _ e=>(by cases e),⟨h.mh.1,λ_ _ _ e=>(by cases e)⟩⟩,λ_=>rfl,λb q e=>?_,Zah _,λ_ _ _=>rfl,rfl,rfl,rfl⟩
 ·replace e:df M.sg g 0 (aV 15 ys) b q=some v:=e;unfold df at e;split at e
  ·rename_i d
   obtain⟨rfl,h1,l⟩:=d;obtain⟨a,c,e2⟩:=f _ v e;rw[Zdp] at c;exact⟨(ef fL (ZaJ e)).2,a,c,e2.mono hle⟩
  ·obtain⟨k,a,c,e2⟩:=h.gR b q v e;exact⟨k,a,c,e2.mono hle⟩
 ·grind [mw]
theorem Ww {a:Value} {l:List E8} {ys:List ah} (h:ee M H0 w) (p:qH w a l) (m:LR M (aV (D:=D) 15 ys) (flat e8 l)) (j:∀c∈h_ a,∀o,M.sg c o=none) (hl:l.length=ys.length):∃f,Qs (h_ a) M w f w/\VR f (.list 15 ys) a:=by
 rcases p.2 with⟨rfl,d⟩ | ⟨g,cap,a8,rfl,d,q,r,k,s,t⟩
 ·rw[hl] at d;rw[Zap d];exact⟨M,.refl h,.ed⟩
 ·have n:h_ (.slice (some ⟨g,0,none⟩) l.length cap)=[g]:=rfl;rw[n] at j ⊢;refine⟨_,Qs.gR (ys:=ys) h (j g (ZaI.2 rfl)) (ZaI.2 rfl) λi v e=>?_,?_⟩
  ·obtain⟨y,u,x⟩:=m.get e;grind [World.cell?]
  ·rw[hl];exact VR.list (b:=g) (o:=0) (cz.add fL) (show ys.length<=9223372036854775807 by unfold maxLen at k;omega) (show ys.length<=cap by omega)
theorem Bx:∀l:List ah,(ft l).length<=(aA l).length
 | []=>Zaj _
 | k::l=>by
  have h:=Bx l;grind [eH,bT,ft,tN]
theorem og:∀l:List ah,(cW l).length=l.length
 | []=>by rw[cW]
 | t::l=>by rw[cW,Zae,og l,Zae]
def Qk7 {op:Int} {r:List Rg} {mn mx:Int} {lz:Bool} {cap:Int} {a:List ah} (hw:ku (.mk op r mn mx lz cap (a.length:Int) a)) (ht:dO (.mk op r mn mx lz cap (a.length:Int) a)):
  (op=3->Jc.pre (.mk op r mn mx lz cap (a.length:Int) (cW a)))/\(op=4->Jf.pre (.mk op r mn mx lz cap (a.length:Int) (cW a)))/\(op=5->Jg.pre (.mk op r mn mx lz cap (a.length:Int) (cW a))):=by
 have hi:=(jx _).mp (E_ _ hw);have hk:=ht.ae;obtain⟨o,b⟩:=nX a hi.2 ⟨Zah _,hk.2⟩;rw[ku] at hw;obtain⟨j,v⟩:=rF a hw.2.2;have e:aA (cW a)=aA (dC a):=by rw[<-qz,gD,j,<-gD,qz]
 rw[<-e] at b;have hl:=og a;have i:dT (cW a):=⟨Zav b.1 hk.1,b.2⟩;have m:a.length<=1000000:=hk.len;refine⟨λ_=>⟨by show(cW a).length<=_;omega,Zav (Bx _) i.1⟩,λ_=>⟨by show(cW a).length<=_;omega,?_⟩,λh=>⟨?_,h⟩⟩
 ·have:=nc 4 _ _ b;exact⟨Zav this.1 hk.1,this.2⟩
 ·obtain⟨b1,k⟩:=hi.1 h;have b1:1<=a.length:=b1;have c:0<(cW a).length:=ω;refine⟨by show 1<=(cW a).length;omega,i.get c,k,λl=>?_⟩;have d:0<(dC a).length:=by rw[qo];omega
  have f:nrm ((cW a).getD 0 bF)=nrm ((dC a).getD 0 bF):=by rw[<-y1,j,y1]
  have g:sL ((dC a).getD 0 bF):=by rw[eL d];exact(kh _).mp o _ (Zas _)
  have n:((dC a).getD 0 bF).op=5:=by rw[<-mb,<-f,mb];exact l
  obtain⟨c1,c2⟩:=((jx _).mp g).1 n;rw[jo,jo] at f;injection f with p q s t u n6 n7 n8
  refine⟨?_,?_⟩
  ·show 0<=((cW a).getD 0 bF).mn
   omega
  ·show 1<=((cW a).getD 0 bF).ae.length
   omega
end sx
namespace sx
open Go Go.RowKit cls syn sl
set_option maxRecDepth 100000
theorem Wx {w:World} {g n c k:Nat} {ld lr:List E8} {x:E8} (h:qH w (.slice (some ⟨g,0,none⟩) n c) (ld++x::lr)) (b:(ld++x::lr).length=n) (hk:ld.length=k):
  (∀j u,j<8->x.1[j]?=some u->w.cell? ⟨g,k*8+j,none⟩=some u)/\(∀o,w.frozen? ⟨g,o,none⟩=false)/\g<w.heap.size:=by
 subst b;subst hk;refine⟨λj u a e=>(h.cellAt rfl IW (i:=ld.length) (x:=x) (by simp) a e).1,λo=>World.ownsRow.frozenAt h o,?_⟩;obtain⟨f,d,e,_,l,_⟩:=h.form (by simp);grind
noncomputable def FJ (l:List ah):List (AV D.E):=l.flatMap λt:ah=>D.a_ 15 t
structure SL (M:Pm D) (w:World) (ks:List ah) (G:List Nat) (kv:Value) (k:Nat) (wr:World) (Mk:Pm D) (ld lr:List E8) (Gr:List Nat):Prop where
 own:qH wr kv (ld++lr)
 len:ld.length=k
 rows:LR Mk (FJ ((cW ks).take k)) (flat e8 ld)
 ae:KA Mk wr (ks.drop k) lr Gr
 sub:∃Gd,G=Gd++Gr
 un:∀c∈h_ kv++Gr,∀o,Mk.sg c o=none
 un2:∀o,Mk.sg (w.heap.size+1) o=none
 qs:Qs (h_ kv++G) M w Mk wr
abbrev Bz (w:World) (b o:Nat) (a c d v3 e v5 f g:Value):World:=(((((((w.setCell ⟨b,o,none⟩ a).setCell ⟨b,o+1,none⟩ c).setCell ⟨b,o+2,none⟩ d).setCell ⟨b,o+3,none⟩ v3).setCell ⟨b,o+4,none⟩ e).setCell ⟨b,o+5,none⟩ v5).setCell ⟨b,o+6,none⟩ f).setCell ⟨b,o+7,none⟩ g
variable {a c d Z e Y i g:Value} {w:World} {b o k:Nat} {M:Pm D} {X W:List E8}
def l7 (h:k≠b):(Bz w b o a c d Z e Y i g).heap[k]?=w.heap[k]?:=by
 unfold Bz;rw[ka h,ka h,ka h,ka h,ka h,ka h,ka h,ka h]
theorem ϵ {j:Nat} {x y:E8} (h:qH w (.slice (some ⟨b,0,none⟩) o k) (X++x::W)) (p:(X++x::W).length=o) (hk:X.length=j) (q:y.1=[a,c,d,Z,e,Y,i,g]):
  qH (Bz w b (j*8) a c d Z e Y i g) (.slice (some ⟨b,0,none⟩) o k) (X++y::W):=by
 subst p;have s:=(World.ownsRow.stored (World.ownsRow.stored (World.ownsRow.stored (World.ownsRow.stored (World.ownsRow.stored (World.ownsRow.stored (World.ownsRow.stored (World.ownsRow.stored h (j*8) a).1 (j*8+1) c).1 (j*8+2) d).1 (j*8+3) Z).1 (j*8+4) e).1 (j*8+5) Y).1 (j*8+6) i).1 (j*8+7) g).1;have f:((((((((flat e8 (X++x::W)).set (j*8) a).set (j*8+1) c).set (j*8+2) d).set (j*8+3) Z).set (j*8+4) e).set (j*8+5) Y).set (j*8+6) i).set (j*8+7) g=flat e8 (X++y::W):=by
  obtain⟨l,hl,_⟩:=x;obtain⟨a0,l,rfl⟩:=ZaB (show l.length=7+1 from hl);obtain⟨r,l,rfl⟩:=ZaB (show l.length=6+1 by simpa using hl);obtain⟨a2,l,rfl⟩:=ZaB (show l.length=5+1 by simpa using hl);obtain⟨a3,l,rfl⟩:=ZaB (show l.length=4+1 by simpa using hl);obtain⟨a4,l,rfl⟩:=ZaB (show l.length=3+1 by simpa using hl);obtain⟨a5,l,rfl⟩:=ZaB (show l.length=2+1 by simpa using hl);obtain⟨t,l,rfl⟩:=ZaB (show l.length=1+1 by simpa using hl);obtain⟨u,l,rfl⟩:=ZaB (show l.length=0+1 by simpa using hl);obtain rfl:l=[]:=by simpa using hl
  have n:(flat e8 X).length=j*8:=by rw[nj IW,hk]
  have m:∀(z:E8),flat e8 (z::W)=z.1++flat e8 W:=λz=>rfl
  rw[jN,jN,m,m,q,<-n];simp_all
 grind [j_]
theorem jO:Below b w (Bz w b o a c d Z e Y i g):=by
 unfold Bz;have k:∀(W:World) (f:Nat) (v:Value),Below b w W->Below b w (W.setCell ⟨b,f,none⟩ v):=λW f v h=>h.setCell (Zah _) v
 grind [Below.refl]
def DB {l:List (AV D.E)} {A:Array Value} (h:VR M (.agg l) (.agg A)):LR M l A.toList:=by
 cases h with | agg h1 a=>exact⟨h1,a⟩
theorem Js (l:List ah):cW l=l.map fa:=by
 induction l with
 | nil=>rw[cW];rfl
 | cons t l a=>rw[cW,a];rfl
theorem SL.round {v:List ah} {G:List Nat} {I:Nat} {wr:World} {C s:Pm D} {j m:List Nat} {U:E8} {O:World} {T:ah}
  (h:SL M w v G (.slice (some ⟨b,0,none⟩) o k) I wr C X (U::W) (j++m)) (S:KA C wr (v.drop (I+1)) W m) (hk:v[I]?=some T) (hn:(X++U::W).length=o)
  (z:(h_ (.slice (some ⟨b,0,none⟩) o k)++G).Nodup) (lr:∀N∈h_ (.slice (some ⟨b,0,none⟩) o k)++G,D.ng<=N/\N<w.heap.size) (hs:w.heap.size+2<=wr.heap.size)
  (t:Qs j C wr s O) (hv:VR s (.agg (D.a_ 15 (fa T))) (.agg #[a,c,d,Z,e,Y,i,g])) (h1:∀u∈[a,c,d,Z,e,Y,i,g],u.oneCell'):
  SL M w v G (.slice (some ⟨b,0,none⟩) o k) (I+1) (Bz O b (I*8) a c d Z e Y i g) s (X++[⟨[a,c,d,Z,e,Y,i,g],rfl,h1⟩]) W m:=by
 have H:h_ (.slice (some ⟨b,0,none⟩) o k)=[b]:=rfl;obtain⟨ld,Q⟩:=h.sub;rw[H] at z lr;have r:=h.un;rw[H] at r;have J:=List.nodup_cons.1 (show(b::G).Nodup from z);have l:∀N∈j++m,N∈G:=λN H=>by rw[Q];exact ZaC _ H
 have y:b ∉ j:=λK=>J.1 (l b (Zay _ K))
 have P:(j++m).Nodup:=by rw[Q] at J;exact(ZbR.1 J.2).2.1
 have p:∀N∈m,N ∉ j/\N≠b:=λN H=>⟨λK=>(ZbR.1 P).2.2 N K N H rfl,λK=>J.1 (by rw[<-K];exact l N (ZaC _ H))⟩
 have q:∀N∈[b]++(j++m),D.ng<=N/\N<w.heap.size:=λN H=>lr N ((Zax.1 H).elim (λh=>Zay _ h) λh=>ZaC _ (l N h))
 have R:=q b (by simp);have L:∀N,N<wr.heap.size->N ∉ j->(∀n,C.sg N n=none)->∀n,s.sg N n=none:=λN h1 v3 E n=>by
  cases K:s.sg N n with
  | none=>rfl
  | some u=>
   rcases t.sb N n (by rw[K];simp) with V | V | V
   ·grind
   ·omega
   ·grind
 have B:qH O (.slice (some ⟨b,0,none⟩) o k) (X++U::W):=nm h.own λN f hl=>t.aO N hl (by rw[H,ZaI] at f;rw[f];exact y)
 have x:=L b ω y λn=>r b (by simp) n
 have A:Qs ([b]++G) M w s O:=(h.qs).trans t λN H=>.inl (ZaC _ (l N (Zay _ H)))
 refine⟨?_,by simp[h.len],?_,qw t.le _ _ _ S λN H hl=>(l7 (p N H).2).trans (t.aO N hl (p N H).1),⟨ld++j,by rw[Q,ZaD]⟩,λN f=>?_,L _ ω (λK=>by have:=(q _ (ZaC _ (Zay _ K))).2;omega) h.un2,?_⟩
 ·rw[ZaD];exact ϵ B hn h.len rfl
 ·have v5:FJ ((cW v).take (I+1))=FJ ((cW v).take I)++D.a_ 15 (fa T):=by
   rw[Zcr,Js,Zbk,hk];simp[FJ]
  rw[v5,jN];refine(h.rows.mono t.le).app ?_;obtain⟨j1,j2⟩:=DB hv;exact⟨j1,j2⟩
 ·rw[H] at f;have v3:=q N ((Zax.1 f).elim (λh=>Zay _ h) λh=>ZaC _ (ZaC _ h));rcases Zax.1 f with E | E
  ·grind
  ·exact L N ω (p N E).1 λn=>r N (by simp[E]) n
 ·refine A.trans (Qs.Qk6 (F:=[b]) A.fJ jO.size jO.os jO.tape jO.output (λN _ H=>l7 (by simpa using H)) λN H=>by rw[ZaI.1 H];exact⟨R.1,x⟩) λN H=>.inl (Zay _ H)
theorem FK {T:ah} (h:VR M (.agg (D.a_ 15 T)) a):∃(e:Option Addr) (g f:Nat) (i:Option Addr) (un j:Nat),a=.agg #[.int .i64 T.op,.slice e g f,.int .i64 T.mn,.int .i64 T.mx,.bool T.lz,.int .i64 T.cap,.int .i64 T.nk,.slice i un j]:=by
 cases h with | @agg _ A h1 d=>?_
 obtain⟨l⟩:=A;have h:LR M (D.a_ 15 T) l:=⟨h1,d⟩;cases T;obtain⟨k,l,rfl,a0,h⟩:=h.aM;obtain⟨m,l,rfl,v,h⟩:=h.aM;obtain⟨n,l,rfl,a2,h⟩:=h.aM;obtain⟨v3,l,rfl,a3,h⟩:=h.aM;obtain⟨o,l,rfl,a4,h⟩:=h.aM;obtain⟨v5,l,rfl,a5,h⟩:=h.aM;obtain⟨p,l,rfl,b,h⟩:=h.aM;obtain⟨q,l,rfl,c,h⟩:=h.aM;obtain rfl:=h.jA;obtain rfl:=fE a0;obtain⟨_,_,_,rfl⟩:=Bn v;obtain rfl:=fE a2;obtain rfl:=fE a3;obtain rfl:=nZ a4;obtain rfl:=fE a5;obtain rfl:=fE b;obtain⟨_,_,_,rfl⟩:=Bn c;grind
abbrev z8:Array Value:=#[.int .i64 0,.slice none 0 0,.int .i64 0,.int .i64 0,.bool false,.int .i64 0,.int .i64 0,.slice none 0 0]
theorem wx {F:List Nat} {M a:Pm D} {w j:World} {T:ah} {d e f v3 g v5 h i:Value} (k:Qs F M w a j) (hz:j.heap[w.heap.size+1]?=some (.cells z8 221 (0,0))) (n:∀o,a.sg (w.heap.size+1) o=none) (m:D.ng<=w.heap.size)
  (l:VR a (.agg (D.a_ 15 T)) (.agg #[d,e,f,v3,g,v5,h,i])):
  ∃W,W=(((((((j.setCell ⟨w.heap.size+1,0,none⟩ d).setCell ⟨w.heap.size+1,1,none⟩ e).setCell ⟨w.heap.size+1,2,none⟩ f).setCell ⟨w.heap.size+1,3,none⟩ v3).setCell ⟨w.heap.size+1,4,none⟩ g).setCell ⟨w.heap.size+1,5,none⟩ v5).setCell ⟨w.heap.size+1,6,none⟩ h).setCell ⟨w.heap.size+1,7,none⟩ i/\Qs F M w a W/\
   (loadVar 221 ⟨w.heap.size+1,0,none⟩).run prog W=.ok (.agg #[d,e,f,v3,g,v5,h,i]) W:=by
 refine⟨_,rfl,k.trans (Qs.Qk6 (F:=[w.heap.size+1]) k.fJ lx.size lx.os lx.tape lx.output (λb _ c=>yM (by simpa using c)) λb c=>?_) λb c=>.inr (by rw[ZaI.1 c];omega),?_⟩
 ·grind
 ·exact run_loadVar_row (P:=prog) _ (w.heap.size+1) _ 221 _ _ _ (Bo hz rfl) Tryz.underlying221 rfl (by kernel_rfl)
theorem y5 {f:FuncId} {oM:List (AV D.E)->St D.E->C ah} {pre:ah->Prop} {res:ah->ah} (h:Ok (bO f ah oM pre (λy=>[.agg (D.a_ 15 y)]) λy=>.agg (D.a_ 15 (res y)))) {y:ah} (q:pre y) {M:Pm D} {w:World} {A:Array Value} {a:Nat} (o:ee M H0 w) (p:TF M 0)
  (n:VR M (.agg (D.a_ 15 y)) (.agg A)) (hz:w.heap[a]?=some (.cells z8 221 (0,0))):
  Calls prog f #[.agg A] w λe b=>∃(l:Pm D) (c:Option Addr) (g d:Nat) (i:Option Addr) (un k:Nat),
   e=.returned (.agg #[.int .i64 (res y).op,.slice c g d,.int .i64 (res y).mn,.int .i64 (res y).mx,.bool (res y).lz,.int .i64 (res y).cap,.int .i64 (res y).nk,.slice i un k])/\
   VR l (.agg (D.a_ 15 (res y))) (.agg #[.int .i64 (res y).op,.slice c g d,.int .i64 (res y).mn,.int .i64 (res y).mx,.bool (res y).lz,.int .i64 (res y).cap,.int .i64 (res y).nk,.slice i un k])/\
   Qs [] M w l b/\b.heap[a]?=some (.cells z8 221 (0,0))/\(∀j,b.cell? ⟨a,j,none⟩=z8[j]?)/\∀j,b.frozen? ⟨a,j,none⟩=false:=by
 refine h.2 y q M #[.agg A] w (.cons n .nil) o p _ λm v u s hs=>?_
 obtain⟨c,g,d,i,un,k,rfl⟩:=FK s;have r:Qs [] M w m u:=Qs.GF hs;have t:=(r.aO a (CR hz) (by simp)).trans hz;grind [iT,LF]
set_option maxHeartbeats 4000000 in
theorem QfG (g1:Ok Jc) (g2:Ok Jf) (g3:Ok Jg):∀(n:Nat) (t:ah) (x:E8) (F:List Nat) (M:Pm D) (w:World),(aD t).length<=n->ku t->dO t->TA M w t x F->F.Nodup->(∀c∈F,D.ng<=c/\∀o,M.sg c o=none)->ee M H0 w->TF M 0->
  Calls prog 131 #[.agg x.1.toArray] w λe w'=>∃M' v',e=.returned v'/\VR M' (.agg (D.a_ 15 (fa t))) v'/\Qs F M w M' w':=by
 intro n
 induction n with
 | zero=>
  intro t x F M w h
  cases t
  grind [aD]
 | succ n ih=>
  intro t x F M w hn hw ht E C hF hS hT
  obtain⟨op,r,mn,mx,lz,cap,nk,a⟩:=t
  have H:=hw
  rw[ku] at hw
  obtain⟨_,rfl,hks⟩:=hw
  replace H:=Qk7 H ht
  rw[aD] at hn
  rw[TA] at E
  obtain⟨vr,kv,l,G,hx,hvr,Y,ho,rfl,q⟩:=E
  obtain⟨ra,rn,rc,rfl⟩:=Bn hvr
  have hll:=IX q
  obtain⟨S,L,rfl,hrd,_⟩:=ho.rd
  rw[hll] at ho hF C hx ⊢
  rw[hx]
  have hL:a.length<=1000000:=ht.ae.len
  have T:Hid (∀b∈h_ (.slice S a.length L)++G,D.ng<=b/\b<w.heap.size):=Lib.hid λb hb=>⟨(hF b hb).1,(Zax.1 hb).elim (wk ho b) (VL _ _ _ q b)⟩
  have H1:=Lib.hid hx
  have H2:=Lib.hid ho
  have H3:=Lib.hid q
  have H4:=Lib.hid C
  have H5:=Lib.hid hF
  have H6:=Lib.hid H
  have H7:=Lib.hid ht
  have H8:=Lib.hid hll
  clear hx ho q C hF H ht hll hrd
  go_enter Tryz.func131,Tryz.ntmps131
  go_wp2_with fail
  have hzs:w.heap.size<w.heap.size+2:=ω
  go_loopg [3] a.length (λg i wr=>∃(k:Nat) (ld lr:List E8) (Gr:List Nat) (Mk:Pm D),k<=a.length/\g=a.length-k/\i=.int .i64 k/\
   wr.heap[w.heap.size]?=some (.cells #[.int .i64 op,.slice ra rn rc,.int .i64 mn,.int .i64 mx,.bool lz,.int .i64 cap,.int .i64 a.length,.slice S a.length L] 221 (0,0))/\
   wr.heap[w.heap.size+1]?=some (.cells #[.int .i64 0,.slice none 0 0,.int .i64 0,.int .i64 0,.bool false,.int .i64 0,.int .i64 0,.slice none 0 0] 221 (0,0))/\
   w.heap.size+2<=wr.heap.size/\SL M w a G (.slice S a.length L) k wr Mk ld lr Gr)
  case atStart=>
   refine⟨0,[],l,G,M,ω,rfl,rfl,?_,?_,by simp,?_⟩
   ·grind [Below.heap_alloc,heap_alloc_new]
   ·exact sR (by simp) _
   ·have hB:=((Below.refl w.heap.size w).alloc (Zah _) (.cells #[.int .i64 op,.slice ra rn rc,.int .i64 mn,.int .i64 mx,.bool lz,.int .i64 cap,.int .i64 a.length,.slice S a.length L] 221)).alloc (by simp) (.cells #[.int .i64 0,.slice none 0 0,.int .i64 0,.int .i64 0,.bool false,.int .i64 0,.int .i64 0,.slice none 0 0] 221)
    refine⟨nm H2.out λb _ hl=>hB.block b hl,rfl,⟨rfl,λi v v' e=>(by simp[FJ] at e)⟩,qw (l4 M) _ _ _ H3.out λb _ hl=>hB.block b hl,⟨[],rfl⟩,λc p=>(H5.out c p).2,λo=>?_,Qs.GF (jj hS hB 0)⟩
    cases e:M.sg (w.heap.size+1) o with
    | none=>rfl
    | some u=>have:=hS.slt e;omega
  case round=>
   obtain⟨k,ld,lr,Gr,Mk,hk,rfl,rfl,X,hz,di,qX⟩:=hrel
   have d7:wr.cell? ⟨w.heap.size,7,none⟩=some (.slice S a.length L):=iT X 7
   have d0:wr.cell? ⟨w.heap.size,0,none⟩=some (.int .i64 op):=iT X 0
   have H9:=Lib.hid X
   have B:=Lib.hid hz
   have d:=Lib.hid qX
   have H12:=Lib.hid hks
   clear X hz qX hks
   by_cases Z:k<a.length
   ·obtain⟨f,P⟩:∃f,a[k]?=some f:=⟨_,Zaf Z⟩
    have hdk:a.drop k=f::a.drop (k+1):=by rw[Zaq Z,(Zam.1 P).2]
    have q:=d.out.ae
    rw[hdk,KA] at q
    obtain⟨x1,lr',F1,F2,rfl,rfl,E,q⟩:=q
    obtain⟨g,kc',ek,_,hgl,_⟩:=d.out.own.form (by simp)
    have s:(ld++x1::lr').length=a.length:=by
     grind
    rw[s] at ek
    cases ek
    obtain⟨qa,qn,qc,pa,pn,pc,ex⟩:=yL E
    have hgw:g<w.heap.size:=wk H2.out g (ZaI.2 rfl)
    have hgn:g≠w.heap.size:=ω
    have hgm:w.heap.size≠g:=ω
    obtain⟨m,hfz,_⟩:=Wx d.out.own s d.out.len
    have hcall:Calls prog 131 #[.agg #[.int .i64 f.op,.slice qa qn qc,.int .i64 f.mn,.int .i64 f.mx,.bool f.lz,.int .i64 f.cap,.int .i64 f.nk,.slice pa pn pc]] wr.drew λe A=>∃(M1:Pm D) (sa:Option Addr) (sn sc:Nat) (ua:Option Addr) (un uc:Nat),
      e=.returned (.agg #[.int .i64 (fa f).op,.slice sa sn sc,.int .i64 (fa f).mn,.int .i64 (fa f).mx,.bool (fa f).lz,.int .i64 (fa f).cap,.int .i64 (fa f).nk,.slice ua un uc])/\
      VR M1 (.agg (D.a_ 15 (fa f))) (.agg #[.int .i64 (fa f).op,.slice sa sn sc,.int .i64 (fa f).mn,.int .i64 (fa f).mx,.bool (fa f).lz,.int .i64 (fa f).cap,.int .i64 (fa f).nk,.slice ua un uc])/\
      Qs F1 Mk wr M1 A/\A.cell? ⟨w.heap.size,7,none⟩=some (.slice (some ⟨g,0,none⟩) a.length L)/\(A.cell? ⟨g,k*8,none⟩=some (.int .i64 f.op)/\A.cell? ⟨g,k*8+1,none⟩=some (.slice qa qn qc)/\A.cell? ⟨g,k*8+2,none⟩=some (.int .i64 f.mn)/\A.cell? ⟨g,k*8+3,none⟩=some (.int .i64 f.mx)/\A.cell? ⟨g,k*8+4,none⟩=some (.bool f.lz)/\A.cell? ⟨g,k*8+5,none⟩=some (.int .i64 f.cap)/\A.cell? ⟨g,k*8+6,none⟩=some (.int .i64 f.nk)/\A.cell? ⟨g,k*8+7,none⟩=some (.slice pa pn pc))/\(∀o,A.frozen? ⟨g,o,none⟩=false)/\g<A.heap.size:=by
     have e1:(#[.int .i64 f.op,.slice qa qn qc,.int .i64 f.mn,.int .i64 f.mx,.bool f.lz,.int .i64 f.cap,.int .i64 f.nk,.slice pa pn pc]:Array Value)=x1.1.toArray:=by rw[ex]
     have hfl:aA a=aA (a.take k)++(aD f++aA (a.drop (k+1))):=by rw[<-eH,<-hdk,<-cG,ZaO]
     have htr:dO f:=by
      have:=H7.out.ae.get Z
      rwa [show((ah.mk op r mn mx lz cap (a.length:Int) a).ae.getD k bF)=f by show a.getD k bF=f;rw[eL Z];exact(Zam.1 P).2] at this
     obtain⟨Gd,U⟩:=d.out.sub
     have C:=H4.out
     rw[U] at C
     have hnF:=(ZbR.1 (ZbR.1 (ZbR.1 C).2.1).2.1).1
     have hgF:g ∉ F1:=λe=>(ZbR.1 C).2.2 g (ZaI.2 rfl) g (ZaC _ (Zay _ e)) rfl
     have hin1:∀c∈F1,D.ng<=c/\c<w.heap.size:=λc p=>T.out c (ZaC _ (by rw[U];exact ZaC _ (Zay _ p)))
     rw[e1]
     refine(ih f x1 F1 Mk wr.drew (by rw[Zae,hfl,Zab,Zab] at hn;omega) ((qq a).1 H12.out f (ZaJ P)) htr (wj (l4 Mk) _ _ _ E λ_ _ _=>rfl) hnF (λc p=>⟨(hin1 c p).1,d.out.un c (ZaC _ (Zay _ p))⟩) (cU.vP d.out.qs.fJ 0).fJ λb hb=>(d.out.qs.pl b).trans (hT b hb)).mono ?_
     rintro e A ⟨M1,v',rfl,hv,O⟩
     have hq':Qs F1 Mk wr M1 A:=⟨O.le,O.fJ,O.pl,O.sb,O.size,O.aO,O.os,O.tape,O.output⟩
     obtain⟨sa,sn,sc,ua,un,uc,rfl⟩:=FK hv
     have hown:qH A (.slice (some ⟨g,0,none⟩) a.length L) (ld++x1::lr'):=nm d.out.own λb hb' hl=>hq'.aO b hl (by rw[ZaI.1 hb'];exact hgF)
     obtain⟨r1,r2,r3⟩:=Wx hown s d.out.len
     refine⟨M1,sa,sn,sc,ua,un,uc,rfl,hv,hq',?_,⟨r1 0 _ ω (by rw[ex];rfl),r1 1 _ ω (by rw[ex];rfl),r1 2 _ ω (by rw[ex];rfl),r1 3 _ ω (by rw[ex];rfl),r1 4 _ ω (by rw[ex];rfl),r1 5 _ ω (by rw[ex];rfl),r1 6 _ ω (by rw[ex];rfl),r1 7 _ ω (by rw[ex];rfl)⟩,r2,r3⟩
     rw[iT ((hq'.aO w.heap.size ω λe=>by have:=(hin1 _ e).2;omega).trans H9.out)]
     rfl
    have c0:=m 0 _ ω (by rw[ex];rfl)
    have c1:=m 1 _ ω (by rw[ex];rfl)
    have c2:=m 2 _ ω (by rw[ex];rfl)
    have c3:=m 3 _ ω (by rw[ex];rfl)
    have c4:=m 4 _ ω (by rw[ex];rfl)
    have c5:=m 5 _ ω (by rw[ex];rfl)
    have c6:=m 6 _ ω (by rw[ex];rfl)
    have c7:=m 7 _ ω (by rw[ex];rfl)
    have b0:(0:Int)<=(k:Int):=ω
    have b1:(k:Int)<(a.length:Int):=ω
    have H13:=Lib.hid q
    have H14:=Lib.hid E
    have H15:=Lib.hid P
    have H16:=Lib.hid ex
    have H17:=Lib.hid s
    clear q E P m hdk s
    simp only[Zbn] at c0
    go_wp2_with fail
    go_region_with
     (first | (go_at_call 131;refine hcall.mono ?_;rintro e A ⟨M1,sa,sn,sc,ua,un,uc,rfl,hv1,hq1,m0,⟨e0,e1,e2,e3,e4,e5,e6,e7⟩,m2,m3⟩))
    all_goals
     go_wp2_with fail
     go_roundg (a.length-(k+1))
     case measure=>omega
     case rel=>
      have hF1:∀c,w.heap.size<=c->c ∉ F1:=λc p e=>by
       obtain⟨Gd,U⟩:=d.out.sub
       have:=(T.out c (ZaC _ (by rw[U];exact ZaC _ (Zay _ e)))).2
       omega
      refine⟨k+1,_,lr',F2,M1,ω,rfl,by go_num,?_,?_,?_,SL.round d.out H13.out H15.out H17.out H4.out T.out di hq1 hv1 (by simp[Value.oneCell'])⟩
      ·exact(l7 hgm).trans ((hq1.aO _ ω (hF1 _ ω)).trans H9.out)
      ·exact(l7 ω).trans ((hq1.aO _ ω (hF1 _ ω)).trans B.out)
      ·exact Zav di (Zav hq1.size jO.size)
   ·obtain rfl:k=a.length:=ω
    obtain⟨R,V,Qk8⟩:∃R,Qs (h_ (.slice S a.length L)) Mk wr R wr/\VR R (.list 15 (cW a)) (.slice S a.length L):=by
     have hk0:=d.out.ae
     rw[ZbH,KA] at hk0
     obtain⟨rfl,rfl⟩:=hk0
     have ho:=d.out.own
     have hr:=d.out.rows
     rw[Zaw] at ho
     rw[ZaA (by rw[og];exact Zah _)] at hr
     exact Ww d.out.qs.fJ ho hr (λc p=>d.out.un c (Zay _ p)) (by rw[d.out.len,og])
    have hq2:Qs (h_ (.slice S a.length L)++G) M w R wr:=d.out.qs.trans V λc p=>.inl (Zay _ p)
    have hu2:∀o,R.sg (w.heap.size+1) o=none:=λo=>by
     cases e:R.sg (w.heap.size+1) o with
     | none=>rfl
     | some u=>
      rcases V.sb _ o (by rw[e];simp) with K | K | K
      ·exact absurd (d.out.un2 o) K
      ·omega
      ·have:=(T.out _ (Zay _ K)).2;omega
    have hu3:∀(I:Pm D) (w3:World),Qs [] R wr I w3->∀o,I.sg (w.heap.size+1) o=none:=λI w3 O o=>by
     cases e:I.sg (w.heap.size+1) o with
     | none=>rfl
     | some u=>
      rcases O.sb _ o (by rw[e];simp) with K | K | K
      ·exact absurd (hu2 o) K
      ·omega
      ·cases K
    have hT2:TF R 0:=λb hb=>(hq2.pl b).trans (hT b hb)
    have hA:VR R (.agg (D.a_ 15 (.mk op r mn mx lz cap (a.length:Int) (cW a)))) (.agg #[.int .i64 op,.slice ra rn rc,.int .i64 mn,.int .i64 mx,.bool lz,.int .i64 cap,.int .i64 a.length,.slice S a.length L]):=by
     simp only[ZaW] at Y
     obtain⟨⟨⟨⟨i0,i2⟩,i3⟩,i5⟩,i6⟩:=Y
     exact VR.DB (.cons (.int i0) (.cons (hvr.mono hq2.le) (.cons (.int i2) (.cons (.int i3) (.cons (.bool lz) (.cons (.int i5) (.cons (.int i6) (.cons Qk8 .nil))))))))
    have Pd:=hS.mh.1.1
    have hcb:∀j,wr.cell? ⟨w.heap.size,j,none⟩=(#[.int .i64 op,.slice ra rn rc,.int .i64 mn,.int .i64 mx,.bool lz,.int .i64 cap,.int .i64 a.length,.slice S a.length L]:Array Value)[j]?:=λj=>iT H9.out j
    have hcz:∀j,wr.cell? ⟨w.heap.size+1,j,none⟩=z8[j]?:=λj=>iT B.out j
    have hfz:∀j,wr.frozen? ⟨w.heap.size+1,j,none⟩=false:=LF B.out
    have I1:=Lib.hid V
    have I2:=Lib.hid hq2
    have I3:=Lib.hid hu2
    have I4:=Lib.hid hu3
    have I5:=Lib.hid hA
    have I6:=Lib.hid Y
    have I7:=Lib.hid hT2
    clear V hq2 hu2 hu3 hA Y Qk8 hT2 hvr d0 d7
    have hD:fa (.mk op r mn mx lz cap (a.length:Int) a)=byD (.mk op r mn mx lz cap (a.length:Int) (cW a)):=by rw[fa]
    have I8:=Lib.hid hD
    clear hD
    by_cases h3:op=3
    ·subst h3
     have p:=y5 g1 (H6.out.1 rfl) I2.out.fJ I7.out I5.out B.out
     have N:=I8.out.trans ((Zac rfl).trans (aC (Jb _)).symm)
     have J:=Lib.hid N
     clear N
     go_wp2_with (go_at_call 187;go_must (refine p.mono ?_;rintro e w3 ⟨I,sa,sn,sc,ua,un,uc,rfl,z,y,Q,Qk9,Qla⟩))
     obtain⟨W,hW,hQ,hl⟩:=wx (I2.out.trans y (λc p=>nomatch p)) Q (I4.out I w3 y) Pd z
     rw[<-hW]
     refine bodyPost_ret (qy rfl _ rfl hl) rfl ⟨I,_,rfl,?_,hQ⟩
     rw[J.out]
     exact z
    ·by_cases K:op=4
     ·subst K
      have p:=y5 g2 (H6.out.2.1 rfl) I2.out.fJ I7.out I5.out B.out
      have N:=I8.out.trans ((Zaa h3).trans ((Zac rfl).trans (aC (Je _)).symm))
      have J:=Lib.hid N
      clear N
      go_wp2_with (go_at_call 188;go_must (refine p.mono ?_;rintro e w3 ⟨I,sa,sn,sc,ua,un,uc,rfl,z,y,Q,Qk9,Qla⟩))
      obtain⟨W,hW,hQ,hl⟩:=wx (I2.out.trans y (λc p=>nomatch p)) Q (I4.out I w3 y) Pd z
      rw[<-hW]
      refine bodyPost_ret (qy rfl _ rfl hl) rfl ⟨I,_,rfl,?_,hQ⟩
      rw[J.out]
      exact z
     ·by_cases h5:op=5
      ·subst h5
       have p:=y5 g3 (H6.out.2.2 rfl) I2.out.fJ I7.out I5.out B.out
       have N:=I8.out.trans (((Zaa h3).trans (Zaa K)).trans ((Zac rfl).trans (aC (cV _)).symm))
       have J:=Lib.hid N
       clear N
       go_wp2_with (go_at_call 189;go_must (refine p.mono ?_;rintro e w3 ⟨I,sa,sn,sc,ua,un,uc,rfl,z,y,Q,Qk9,Qla⟩))
       obtain⟨W,hW,hQ,hl⟩:=wx (I2.out.trans y (λc p=>nomatch p)) Q (I4.out I w3 y) Pd z
       rw[<-hW]
       refine bodyPost_ret (qy rfl _ rfl hl) rfl ⟨I,_,rfl,?_,hQ⟩
       rw[J.out]
       exact z
      ·have N:=I8.out.trans (((Zaa h3).trans (Zaa K)).trans (Zaa h5))
       have J:=Lib.hid N
       clear N
       go_wp2_with fail
       obtain⟨W,hW,hQ,hl⟩:=wx I2.out B.out I3.out Pd I5.out
       rw[<-hW]
       refine bodyPost_ret (qy rfl _ rfl hl) rfl ⟨R,_,rfl,?_,hQ⟩
       rw[J.out]
       exact I5.out
end sx
namespace sx
open Go Go.RowKit cls syn sl
variable {M:Pm D} {w:World} {y:List Nd}
def Qs.QcN {a:Pm D} {d:World} (h:Qs [] M w a d):cU H0 M w H0 a d 0 0:=
 ⟨h.fJ,λb _=>h.pl b,h.le.2,λb o e=>(h.sb b o e).imp_right (λk=>k.elim .inl λk=>(nomatch k)),h.size,λc f _=>h.aO c f (by simp),λ_ _ _ e=>(by cases e),λ_ e=>absurd rfl e,h.os,h.tape,h.output,Zah _⟩
def L2 {f:FuncId} {Y:Type} {oM:List (AV D.E)->St D.E->C Y} {pre:Y->Prop} {a r:Y->AV D.E} (h:Ok (bO f Y oM pre (λy=>[a y]) r)) {y:Y} (j:pre y) {v:Value} (g:ee M H0 w) (i:TF M 0) (d:VR M (a y) v):
  Calls prog f #[v] w λe m=>∃(b:Pm D) (u:Value),e=.returned u/\VR b (r y) u/\Qs [] M w b m:=
 h.2 y j M #[v] w (.cons d .nil) g i _ λc l _ k hs=>⟨c,l,rfl,k,Qs.GF hs⟩
def Ϸ {t:ah} (h1:ku t) (q:y=aD t) (v:y.length<=480) {m:Option Addr} {n vc:Nat} (s:VR M (.list 7 y) (.slice m n vc)) (r:ee M H0 w):
  Calls prog 129 #[.slice m n vc,.int .i64 0] w λe p=>∃(x:E8) (F:List Nat) (g:Option Addr) (k j:Nat) (d:Option Addr) (f pc:Nat) (i:Int),
   e=.returned (.tuple #[.agg #[.int .i64 t.op,.slice g k j,.int .i64 t.mn,.int .i64 t.mx,.bool t.lz,.int .i64 t.cap,.int .i64 t.nk,.slice d f pc],.int .i64 i])/\
   (x.1=[.int .i64 t.op,.slice g k j,.int .i64 t.mn,.int .i64 t.mx,.bool t.lz,.int .i64 t.cap,.int .i64 t.nk,.slice d f pc])/\TA M p t x F/\F.Nodup/\(∀c∈F,w.heap.size<=c)/\Below w.heap.size w p:=by
 have a:1<=y.length:=by rw[q];exact sM t
 generalize hu:(Value.slice m n vc)=u at s;have h:∃(b o cap:Nat),u=.slice (some ⟨b,o,none⟩) y.length cap/\y.length<=cap/\Rd M w b o (aV (D:=D) 7 y)/\b<w.heap.size:=by
  cases s with
  | @list c b o cap xs hs C l=>exact⟨b,o,cap,rfl,l,pW fL r hs,r.slt (hs 0 a 0 _ rfl)⟩
  | ed=>exact absurd a (by decide)
 obtain⟨b,o,cap,e,l,z,A⟩:=h;rw[e];refine(ϓ (Zav v (by decide)) l (aD t).length t 0 [] w (Zah _) h1 (by rw[Zaw,<-q];rfl) z A).mono ?_;rintro B p ⟨x,F,rfl,k1,k2,k3,k4⟩;obtain⟨g,k,j,d,f,pc,ex⟩:=yL k1;exact⟨x,F,g,k,j,d,f,pc,_,by rw[ex],ex,k1,k2,k3,k4⟩
def ϸ {t:ah} {A:List Value} (h1:ku t) (n:dO t) {x:E8} {F:List Nat} {a:World} {o:Obj} (ex:x.1=A) (j:TA M a t x F) (i:F.Nodup) (f:∀c∈F,w.heap.size<=c) (k:Below w.heap.size w a) (g:ee M H0 w) (p:TF M 0):
  Calls prog 131 #[.agg A.toArray] (a.alloc o) λe m=>∃(b:Pm D) (v:Value),e=.returned v/\VR b (.agg (D.a_ 15 (fa t))) v/\Qs [] M w b m:=by
 subst ex;have hs:=k.size;have h:Below w.heap.size w (a.alloc o):=k.alloc hs o;have l:Qs [] M w M (a.alloc o):=Qs.GF (jj g h 0);refine(QfG QkG QkK QkL _ t x F M (a.alloc o) (Zah _) h1 n (wj (l4 M) _ _ _ j λc _ hl=>Below.heap_alloc _ _ _ hl) i (λc d=>⟨Zav g.mh.1.1 (f c d),λo=>?_⟩) l.fJ p).mono ?_
 ·cases e:M.sg c o with
  | none=>rfl
  | some u=>have:=g.slt e;have:=f c d;omega
 ·rintro e m ⟨b,v,rfl,k1,k2⟩;exact⟨b,v,rfl,k1,l.trans k2 λc d=>.inr (f c d)⟩
set_option maxHeartbeats 4000000 in
theorem Ϲ (hm:Ok gA) (H:oy y) {v:Value} (C:ee M H0 w) (E:TF M 0) (q:VR M (.list 7 y) v):
  Calls prog 80 #[v] w λe w'=>∃(S:Pm D) (W:Value),e=.returned W/\VR S (.list 7 (lk (cP y))) W/\Qs [] M w S w':=by
 have G:Calls prog 128 #[v] w λe X=>∃(z:Pm D) (u:Value),e=.returned u/\VR z (.bool (dS y)) u/\Qs [] M w z X:=L2 (f:=128) (Qcu hm) (y:=y) H C E q
 obtain⟨va,vn,vc,rfl⟩:=Bn q
 by_cases d:dS y=true
 ·obtain⟨t,h1,A,B⟩:=jl d
  have k:cP y=aD (fa t):=by
   unfold cP
   rw[Zac d,A,pE h1,Bw h1]
  have I:=Lib.hid k
  have r:=Lib.hid h1
  rw[d] at G
  have hlen:=B
  have V:1<=y.length:=by rw[A];exact sM t
  have O:=Lib.hid A
  have Y:=Lib.hid H
  have Z:=Lib.hid q
  have H5:=Lib.hid C
  have H6:=Lib.hid E
  clear k h1 A H q C E d
  go_enter Tryz.func80,Tryz.ntmps80
  go_wp2_with (go_at_call 128;go_must (refine G.mono ?_;rintro e w1 ⟨s,u,rfl,hu,a⟩;obtain rfl:=nZ hu;clear hu))
  have m:TF s 0:=λb L=>(a.pl b).trans (H6.out b L)
  have P:=Lib.hid m
  have Q:=Lib.hid a
  have J:=Ϸ r.out O.out B (Z.out.mono a.le) a.fJ
  refine J.mono ?_
  rintro e w2 ⟨x,F,qa,qn,qc,pa,pn,pc,i,rfl,ex,k1,k2,k3,k4⟩
  have g:dO t:=by
   have h:=O.out
   have U:=Y.out
   rw[h] at U B
   exact⟨Zav B (by decide),U⟩
  have K4:=ϸ (o:=.cells #[.int .i64 t.op,.slice qa qn qc,.int .i64 t.mn,.int .i64 t.mx,.bool t.lz,.int .i64 t.cap,.int .i64 t.nk,.slice pa pn pc] 221) r.out g ex k1 k2 k3 k4 Q.out.fJ P.out
  have R:=Lib.hid g
  have K6:=Lib.hid J
  clear k1 k2 k3 k4 ex m a g J
  go_wp2_with (go_at_call 131;go_must (refine K4.mono ?_;rintro e X ⟨z,u,rfl,hu,j⟩))
  have K:TF z 0:=λb L=>(j.pl b).trans (P.out b L)
  have hk:dO (fa t):=by
   have a1:=Bw r.out
   have a2:=(qp t (E_ t r.out) ⟨Zah _,R.out.2⟩).2
   rw[<-a1] at a2
   exact⟨Zav a2.1 R.out.1,a2.2⟩
  have hl:=L2 QcK hk j.fJ K hu
  refine hl.mono ?_
  rintro e w4 ⟨T,u4,rfl,p,N⟩
  have K7:=Lib.hid p
  clear p hl hk
  go_wp2_with fail
  go_ret
  refine⟨T,_,rfl,?_,(Q.out.trans j λc d=>(nomatch d)).trans N λc d=>(nomatch d)⟩
  have e:dg (fa t)=lk (cP y):=by rw[aC,I.out];unfold dg;rw[aC]
  have hz:∀l:List Nd,dg (fa t)=l->VR T (.list 7 l) u4:=λl h=>by subst h;exact K7.out
  exact hz _ e
 ·have n:dS y=false:=by simpa using d
  rw[n] at G
  have hs:cP y=[]:=by unfold cP;rw[Zaa d]
  have I:=Lib.hid hs
  clear hs d n q C E H
  go_enter Tryz.func80,Tryz.ntmps80
  go_wp2_with (go_at_call 128;go_must (refine G.mono ?_;rintro e w1 ⟨s,u,rfl,hu,a⟩;obtain rfl:=nZ hu;clear hu))
  go_ret
  refine⟨s,_,rfl,?_,a⟩
  have hz:∀l:List Nd,l=[]->VR s (.list 7 l) (.slice none 0 0):=λl h=>by subst h;exact .ed
  exact hz _ ((aC _).trans I.out)
def Qlb (i:Ok gA):Ok Ϯ:=by
 refine⟨⟨f80,_,by kernel_rfl,cN (by kernel_rfl)⟩,λy k M A w c f g R d=>?_⟩;obtain⟨v,rfl,j⟩:=yd c;exact(Ϲ i k f g j).mono λe m ⟨a,l,h,h1,b⟩=>by rw[h];exact d a l m h1 b.QcN
end sx
namespace sx
open Go Go.RowKit Go.Maps cls syn
set_option maxRecDepth 100000
variable {M:Pm D} {w:World} {b o i:Nat} {v:Value} {E:DataW Unit} {Z:aX}
theorem sY {xs:List (D.E b)} (hz:∀x:D.E b,∃u,(D.a_ b x)[0]?=some u) (d:ee M H0 w) (h:VR M (.list b xs) v):
  ∃a cap,v=.slice a xs.length cap/\(0<xs.length->∃c o,a=some ⟨c,o,none⟩/\Rd M w c o (aV (D:=D) b xs)/\c<w.heap.size):=by
 cases h with
 | @list b c o cap xs hs g f=>exact⟨_,cap,rfl,λe=>let ⟨u,hu⟩:=hz xs[0];⟨c,o,rfl,pW fL d hs,d.slt (hs 0 e 0 u hu)⟩⟩
 | ed=>exact⟨_,_,rfl,λh=>absurd h (Nat.lt_irrefl 0)⟩
theorem QfH {p:iC} (h:VR M (Hj p) v):∃c s,v=.agg #[c,s]/\VR M (.list 8 p.af) c/\VR M (.list 5 p.av) s:=by
 cases h with | @agg _ A h1 a=>?_
 obtain⟨l⟩:=A;obtain⟨c,s,e,b,d⟩:=EC ⟨h1,a⟩;grind
def Ϻ {l:dd} (h:VR M (.agg (D.a_ 2 l)) v):∃t,v=.agg #[.bool l.done,.int .i64 l.c0,.int .i64 l.c1,.int .i64 l.c2,.int .i64 l.c3,.int .i64 l.c4,.int .i64 l.c5,.int .i64 l.c6,.int .i64 l.c7,.int .i64 l.c8,.int .i64 l.c9,t]/\VR M (.list 1 l.aJ) t:=by
 cases h with | @agg _ A h1 g=>?_
 obtain⟨A⟩:=A;have h:LR M (D.a_ 2 l) A:=⟨h1,g⟩;cases l;obtain⟨i,A,rfl,a0,h⟩:=h.aM;obtain⟨j,A,rfl,c,h⟩:=h.aM;obtain⟨k,A,rfl,a2,h⟩:=h.aM;obtain⟨v3,A,rfl,a3,h⟩:=h.aM;obtain⟨m,A,rfl,a4,h⟩:=h.aM;obtain⟨v5,A,rfl,a5,h⟩:=h.aM;obtain⟨n,A,rfl,d,h⟩:=h.aM;obtain⟨o,A,rfl,e,h⟩:=h.aM;obtain⟨p,A,rfl,f,h⟩:=h.aM;obtain⟨v9,A,rfl,a9,h⟩:=h.aM;obtain⟨v10,A,rfl,a,h⟩:=h.aM;obtain⟨v11,A,rfl,b,h⟩:=h.aM;obtain rfl:=h.jA;obtain rfl:=nZ a0;obtain rfl:=fE c;obtain rfl:=fE a2;obtain rfl:=fE a3;obtain rfl:=fE a4;obtain rfl:=fE a5;obtain rfl:=fE d;obtain rfl:=fE e;obtain rfl:=fE f;obtain rfl:=fE a9;obtain rfl:=fE a;exact⟨_,rfl,b⟩
def L3 {f:FuncId} {Y:Type} {oM:List (AV D.E)->St D.E->C Y} {pre:Y->Prop} {a b r:Y->AV D.E} (h:Ok (bO f Y oM pre (λy=>[a y,b y]) r)) {y:Y} (l:pre y) {u:Value} (j:ee M H0 w) (k:TF M 0) (g:VR M (a y) v) (i:VR M (b y) u):
  Calls prog f #[v,u] w λe o=>∃(c:Pm D) (z:Value),e=.returned z/\VR c (r y) z/\Qs [] M w c o:=
 h.2 y l M #[v,u] w (.cons g (.cons i .nil)) j k _ λd n _ m hs=>⟨d,n,rfl,m,Qs.GF hs⟩
def Qlc {af:List aW} (h:Rd M w b o (aV (D:=D) 8 af)) (hi:i<af.length):w.cell? ⟨b,o+i*4,none⟩=some (.int .i64 (af.getD i ⟨0,0,0,[]⟩).op):=by
 obtain⟨v,h1,a⟩:=kr fL h hi 0 _ rfl;obtain rfl:=fE a;rw[Zag,Zaf hi];exact h1
def Qld {a:List Bool} (h:Rd M w b o (aV (D:=D) 17 a)) (hi:i<a.length):w.cell? ⟨b,o+i,none⟩=some (.bool (a.getD i false)):=by
 obtain⟨v,h1,c⟩:=kr fL h hi 0 _ rfl;obtain rfl:=nZ c;rw[Zag,Zaf hi];rw[show o+i=o+i*D.size 17+0 by show _=o+i*1+0;omega];exact h1
def Qle {xs:List Int} {x:Int} (h:Rd M w b o (aV (D:=D) 5 xs)) (d:xs[i]?=some x):w.cell? ⟨b,o+i,none⟩=some (.int .i64 x)/\fK .i64 x:=by
 obtain⟨hi,rfl⟩:=Zam.1 d;obtain⟨v,h1,a⟩:=kr fL h hi 0 _ rfl;obtain⟨rfl,c⟩:=eA a;rw[show o+i=o+i*D.size 5+0 by show _=o+i*1+0;omega];exact⟨h1,c⟩
def Jt {H:Type} {P:Program} (w:World) {ops:Array Oper} {rest:List Oper} {o:Oper} {a:Act} {Q:Exit->Act->World->Prop} (r:o.guard=none) (m x v:Operand) (t:TypeId) (l:o.op=Op.insert t m x v)
  (k e:TypeId) (K:Keyed P k) (ht:P.underlying t=some (.map k e)) (R:Value->Option (DataW H×List MemPlace)) (b n:Nat) (D:DataW H) (s:a.eval m=.map (some b)) (f:w.ownsMap P k R b n D) (u:n<maxLen) (key val:Value) (p:Lit)
  (z:a.eval x=key) (y:a.eval v=val) (c:keyOf P k key=some p) (d:DataW H) (A:List MemPlace) (h:R val=some (d,A))
  (q:∀i,i.ownsMap P k R b (n+1) (D.put p d)->w.grownBy i (some b)->wpList P ops Q rest (a.put o.dst Go.undef) i):wpList P ops Q (o::rest) a w:=by
 refine wpList_plain r λE j=>?_
 obtain⟨i,g,B,C⟩:=f.update K ht u c h;unfold Oper.wp;simp[execOp,l,s,z,y,g,Result.andThen];exact j _ _ (q i B C)
def Mp (E:DataW Unit) (F:Int->Bool):Prop:=IsMap E/\∀j:Int,E.atKey (.int .i64 j) (.lit (.int .i64 0))=.lit (.int .i64 (if F j=true then 1 else 0))
theorem Mp.nil:Mp (.map []) λ_=>false:=⟨⟨_,rfl⟩,λ_=>rfl⟩
theorem Mp.put {F:Int->Bool} (h:Mp E F) (j:Int) (b:Bool):Mp (E.put (.int .i64 j) (.lit (.int .i64 (if b=true then 1 else 0)))) λk=>if k=j then b else F k:=by
 refine⟨h.1.put _ _,λk=>?_⟩;by_cases e:k=j
 ·subst e;simp only[Zbv];exact atKey_put_same h.1 (by simp[WideAt.IsKeyLit]) _ _
 ·rw[atKey_put_other (by grind),h.2 k];grind
def Qlf {xs:List aX} (h:Rd M w b o (aV (D:=D) 1 xs)) (ht:xs[i]?=some Z):
  w.cell? ⟨b,o+i*11,none⟩=some (.int .i64 Z.pc)/\w.cell? ⟨b,o+i*11+1,none⟩=some (.int .i64 Z.c0)/\w.cell? ⟨b,o+i*11+2,none⟩=some (.int .i64 Z.c1)/\w.cell? ⟨b,o+i*11+3,none⟩=some (.int .i64 Z.c2)/\w.cell? ⟨b,o+i*11+4,none⟩=some (.int .i64 Z.c3)/\
  w.cell? ⟨b,o+i*11+5,none⟩=some (.int .i64 Z.c4)/\w.cell? ⟨b,o+i*11+6,none⟩=some (.int .i64 Z.c5)/\w.cell? ⟨b,o+i*11+7,none⟩=some (.int .i64 Z.c6)/\w.cell? ⟨b,o+i*11+8,none⟩=some (.int .i64 Z.c7)/\w.cell? ⟨b,o+i*11+9,none⟩=some (.int .i64 Z.c8)/\w.cell? ⟨b,o+i*11+10,none⟩=some (.int .i64 Z.c9)/\
  fK .i64 Z.pc/\∀x∈oz Z,fK .i64 x:=by
 obtain⟨hi,rfl⟩:=Zam.1 ht;have k:=kr fL h hi;obtain⟨G,a0,j⟩:=k 0 _ rfl;obtain⟨H,d,b1⟩:=k 1 _ rfl;obtain⟨I,a2,l⟩:=k 2 _ rfl;obtain⟨v3,a3,m⟩:=k 3 _ rfl;obtain⟨J,a4,n⟩:=k 4 _ rfl;obtain⟨v5,a5,p⟩:=k 5 _ rfl;obtain⟨K,e,q⟩:=k 6 _ rfl;obtain⟨L,f,r⟩:=k 7 _ rfl;obtain⟨N,g,b8⟩:=k 8 _ rfl;obtain⟨v9,a9,s⟩:=k 9 _ rfl;obtain⟨v10,a,c⟩:=k 10 _ rfl;obtain⟨rfl,u⟩:=eA j;obtain⟨rfl,v⟩:=eA b1;obtain⟨rfl,y⟩:=eA l;obtain⟨rfl,z⟩:=eA m;obtain⟨rfl,A⟩:=eA n;obtain⟨rfl,B⟩:=eA p;obtain⟨rfl,C⟩:=eA q;obtain⟨rfl,E⟩:=eA r;obtain⟨rfl,d8⟩:=eA b8;obtain⟨rfl,F⟩:=eA s;obtain⟨rfl,d10⟩:=eA c;exact⟨a0,d,a2,a3,a4,a5,e,f,g,a9,a,u,by simp[oz];exact⟨v,y,z,A,B,C,E,d8,F,d10⟩⟩
def ϻ (ht:∀x∈oz Z,fK .i64 x):VR M (.agg [.int .i64 Z.c0,.int .i64 Z.c1,.int .i64 Z.c2,.int .i64 Z.c3,.int .i64 Z.c4,.int .i64 Z.c5,.int .i64 Z.c6,.int .i64 Z.c7,.int .i64 Z.c8,.int .i64 Z.c9])
  (.agg #[.int .i64 Z.c0,.int .i64 Z.c1,.int .i64 Z.c2,.int .i64 Z.c3,.int .i64 Z.c4,.int .i64 Z.c5,.int .i64 Z.c6,.int .i64 Z.c7,.int .i64 Z.c8,.int .i64 Z.c9]):=by
 simp only[oz,Zbf,Zds,Zdt,forall_eq_or_imp,forall_eq] at ht;obtain⟨h0,h1,a,b,c,d,e,f,g,i⟩:=ht;have h:LR M [.int .i64 Z.c0,.int .i64 Z.c1,.int .i64 Z.c2,.int .i64 Z.c3,.int .i64 Z.c4,.int .i64 Z.c5,.int .i64 Z.c6,.int .i64 Z.c7,.int .i64 Z.c8,.int .i64 Z.c9] [.int .i64 Z.c0,.int .i64 Z.c1,.int .i64 Z.c2,.int .i64 Z.c3,.int .i64 Z.c4,.int .i64 Z.c5,.int .i64 Z.c6,.int .i64 Z.c7,.int .i64 Z.c8,.int .i64 Z.c9]:=
  .cons (.int h0) <| .cons (.int h1) <| .cons (.int a) <| .cons (.int b) <| .cons (.int c) <| .cons (.int d) <| .cons (.int e) <| .cons (.int f) <| .cons (.int g) <| .cons (.int i) .nil
 exact .agg h.1 h.2
def BA {a:World} {k:TypeId} {R:Value->Option (DataW Unit×List MemPlace)} (h:w.ownsMap prog k R b o E) (e:a.heap[b]?=w.heap[b]?):a.ownsMap prog k R b o E:=by
 obtain⟨es,clock,c,r⟩:=h;exact⟨es,clock,e.trans c,r⟩
def ON:Keyed prog 3:=int_keyed Tryz.underlying3
def Wy (w:World):(zeroValue 3).run prog w=.ok (.int .i64 0) w:=by kernel_rfl
set_option maxHeartbeats 4000000 in
theorem Qaa {p:iC} {l:dd} {m st:Int} (hr:b<p.av.length) (hst:p.av[b]?=some st) (pv:ND (p.af,st)) (hn:l.aJ.length<=1000000) {lv:Value} (hS:ee M H0 w) (hT:TF M 0)
  (hm:fK .i64 m=true) (hp:VR M (Hj p) v) (hl:VR M (.agg (D.a_ 2 l)) lv):
  Calls prog 208 #[v,.int .i64 b,lv,.int .i64 m] w λe w'=>∃(M':Pm D),e=.returned (.bool (vC ⟨p,b,l,m⟩))/\Qs [] M w M' w':=by
 obtain⟨cv,sv,rfl,hcv,hsv⟩:=QfH hp
 obtain⟨tv,rfl,htv⟩:=Ϻ hl
 obtain⟨sa,X,rfl,P⟩:=sY (λx=>⟨_,rfl⟩) hS hsv
 obtain⟨sb,so,rfl,hsr,hsb⟩:=P (Nat.lt_of_le_of_lt (Zaj _) hr)
 have hcs:=Qle hsr hst
 obtain⟨hcs,hin⟩:=hcs
 obtain⟨ca,A,rfl,hc2⟩:=sY (λx=>⟨_,rfl⟩) hS hcv
 have hb0:(0:Int)<=(b:Int):=ω
 have lG:(b:Int)<(p.av.length:Int):=ω
 obtain⟨ta,Qlg,rfl,ht2⟩:=sY (λx=>⟨_,rfl⟩) hS htv
 have G8:=Lib.hid ht2
 have hpos:0<p.af.length:=by have h1:0<=st:=pv.2.1;have Q:st<p.af.length:=pv.2.2;omega
 obtain⟨cb,co,rfl,hcr,hcb⟩:=hc2 hpos
 have hcall:∀W:World,Below w.heap.size w W->Calls prog 243 #[.slice (some ⟨cb,co,none⟩) p.af.length A,.int .i64 st] W λe w3=>∃(M3:Pm D) (z:Value),e=.returned z/\VR M3 (.list 17 (lJ p.af st)) z/\Qs [] M W M3 w3:=
  λW hb=>L3 Qcb (y:=(p.af,st)) pv (jj hS hb 0).fJ hT hcv (.int hin)
 have hcl:p.af.length<=1000:=pv.1.1
 have hs0:0<=st:=pv.2.1
 have hs9:st<1000:=by have h1:=pv.1.1;have Q:=pv.2.2;simp only at h1 Q;omega
 have hkey:keyOf prog 3 (.int .i64 st)=some (.int .i64 st):=keyOf_int_mk Tryz.underlying3 (WalkArith.wf_i64 ω)
 have G1:=Lib.hid hcv
 have G2:=Lib.hid htv
 have G3:=Lib.hid hS
 have G4:=Lib.hid hT
 have G5:=Lib.hid pv
 have G6:=Lib.hid hcr
 have G7:=Lib.hid hst
 have hgs:Ϗ ⟨p,b,l,m⟩=st:=by show p.av.getD (Int.toNat b) 0=st;rw[Zad,Zag,hst];rfl
 have GS:=Lib.hid hgs
 clear hgs
 clear hcv htv ht2 hS hT pv hc2 hcr P hp hl hsv hst hsr
 go_enter Tryz.func208,Tryz.ntmps208
 go_wp2_with fail
 go_region_with (go_at_call 243;refine(hcall _ (((Below.refl _ _).alloc (Zah _) _).alloc (by simp) _).drew).mono ?_;rintro e f ⟨M1,z,rfl,hz,s⟩)
 all_goals
  have hmm:=@run_makeMap prog
  obtain⟨za,Qwo,hzv,hz2⟩:=sY (λx=>⟨_,rfl⟩) s.fJ hz
  rw[show List.length (α:=D.E 17) (lJ p.af st)=p.af.length from mT _ _] at hzv
  obtain⟨zb,zo,rfl,hzr,hzb⟩:=hz2 (show 0<(lJ p.af st).length by rw[mT];exact hpos)
  subst hzv
  have T:∀c,c<w.heap.size+2->f.heap[c]?=((w.alloc (Obj.cells #[Value.slice (some ⟨cb,co,none⟩) p.af.length A,Value.slice (some { block:=sb,off:=so }) p.av.length X] 88)).alloc (Obj.cells #[Value.bool l.done,Value.int IntKind.i64 l.c0,Value.int IntKind.i64 l.c1,Value.int IntKind.i64 l.c2,Value.int IntKind.i64 l.c3,Value.int IntKind.i64 l.c4,Value.int IntKind.i64 l.c5,Value.int IntKind.i64 l.c6,Value.int IntKind.i64 l.c7,Value.int IntKind.i64 l.c8,Value.int IntKind.i64 l.c9,.slice ta (List.length (α:=D.E 1) l.aJ) Qlg] 106)).heap[c]?:=λc pv=>s.aO c (by simpa using pv) (by simp)
  have hs1:w.heap.size+2<=f.heap.size:=by have:=s.size;simpa using this
  have P:w.heap.size<f.heap.size:=ω
  have hs3:sb<f.heap.size:=ω
  have k0:f.heap[w.heap.size]?=some (Obj.cells #[Value.slice (some ⟨cb,co,none⟩) p.af.length A,Value.slice (some { block:=sb,off:=so }) p.av.length X] 88):=(T _ ω).trans (by rw[Below.heap_alloc _ _ _ (by simp)];exact heap_alloc_new _ _)
  have k1:f.cell? ⟨w.heap.size,1,none⟩=some (.slice (some ⟨sb,so,none⟩) p.av.length X):=by rw[iT k0];rfl
  have k2:f.cell? ⟨sb,so+b,none⟩=some (.int .i64 st):=(gk ((T sb ω).trans (by grind [Below.heap_alloc]))).trans hcs
  have hk4:∀c,c<w.heap.size->f.heap[c]?=w.heap[c]?:=λc pv=>(T c ω).trans (by grind [Below.heap_alloc])
  have K4:=Lib.hid hk4
  have hfin:∀Z,Below f.heap.size f Z->Qs [] M w M1 Z:=λZ hb=>((Qs.GF (F:=[]) (jj G3.out ((((Below.refl _ _).alloc (Zah _) _).alloc (by simp) _).drew) 0)).trans s λc pv=>nomatch pv).trans (Qs.GF (F:=[]) (jj s.fJ hb 0)) λc pv=>nomatch pv
  have KF:=Lib.hid hfin
  have hpl:∀(t:aX) (Z:World),(∀x∈oz t,fK .i64 x=true)->Below f.heap.size f Z->Calls prog 207 #[.agg #[.int .i64 t.c0,.int .i64 t.c1,.int .i64 t.c2,.int .i64 t.c3,.int .i64 t.c4,.int .i64 t.c5,.int .i64 t.c6,.int .i64 t.c7,.int .i64 t.c8,.int .i64 t.c9],.int .i64 m] Z λe w3=>e=.returned (.bool (fq t m))/\Below Z.heap.size Z w3:=λt Z ht hb=>by
   refine(L3 QcI (y:=(t,m)) trivial (jj s.fJ hb 0).fJ (λr hb=>(s.pl r).trans (G4.out r hb)) (ϻ ht) (.int hm)).mono ?_
   ·rintro e w3 ⟨M3,u,rfl,hu,hq⟩
    exact⟨by rw[nZ hu],hq.os,hq.tape,hq.output,hq.size,λc pv=>hq.aO c pv (by simp)⟩
  have KP:=Lib.hid hpl
  have K1:=Lib.hid T
  have K2:=Lib.hid hzr
  have K3:=Lib.hid s
  clear T hk4 hfin hpl hz s hz2 hzr
  go_wp2_with (refine Jt (H:=Unit) _ rfl _ _ _ 328 rfl 3 3 ON Tryz.underlying328 (plainElem prog 3) f.heap.size 0 _ rfl (World.ownsMap_made _ _ _ _) (by unfold maxLen;omega) _ _ _ rfl rfl hkey _ [] (plainElem_int Tryz.underlying3 (WalkArith.wf_i64 ω)) ?_;intro w2 hown2 I)
  generalize hB:f.heap.size=B at*
  have KB:=Lib.hid hB
  have QsW:Below B f w2:=((Below.refl _ _).alloc (Zd1 hB.symm) _).grown I (by simp;omega) λj hj=>by grind
  clear hB I k1 k2
  have QsX:f.cell? ⟨w.heap.size,0,none⟩=some (.slice (some ⟨cb,co,none⟩) p.af.length A):=by rw[iT k0];rfl
  clear k0
  go_loopg [32] p.af.length (λg i wr=>∃(k:Nat) (E:DataW Unit) (a:Nat),k<=p.af.length/\g=p.af.length-k/\i=.int .i64 k/\wr.ownsMap prog 3 (plainElem prog 3) B a E/\a<=k+1/\
   Mp E (LC p.af (lJ p.af st) k λj=>if j=st then true else false)/\Below B f wr)
  case atStart=>exact⟨0,_,1,Zaj _,ω,rfl,hown2,Zah _,Mp.nil.put st true,QsW⟩
  case round=>
   obtain⟨k,E,a,hk,rfl,rfl,C,hcnt,U,S⟩:=hrel
   have J1:=Lib.hid C
   have J2:=Lib.hid U
   have Y:=Lib.hid S
   clear C U S
   by_cases hlt:k<p.af.length
   ·have z1:wr.cell? ⟨zb,zo+k,none⟩=some (.bool ((lJ p.af st).getD k false)):=(Y.out.cell (by exact hzb)).trans (Qld K2.out (by rw[mT];exact hlt))
    have z2:wr.cell? ⟨w.heap.size,0,none⟩=some (.slice (some ⟨cb,co,none⟩) p.af.length A):=(Y.out.cell (by exact P)).trans QsX
    have z3:wr.cell? ⟨cb,co+k*4,none⟩=some (.int .i64 (p.af.getD k ⟨0,0,0,[]⟩).op):=(Y.out.cell (show cb<B from Nat.lt_trans hcb P)).trans ((gk (K4.out cb hcb)).trans (Qlc G6.out hlt))
    have c1:(0:Int)<=(k:Int):=ω
    have c2:(k:Int)<(p.af.length:Int):=ω
    cases O:(lJ p.af st).getD k false with
    | false=>
     rw[O] at z1
     have J4:=Lib.hid O
     clear O
     go_wp2_with fail
     go_roundg (p.af.length-(k+1))
     case measure=>omega
     case rel=>exact⟨k+1,E,a,ω,rfl,by go_num,J1.out,ω,by rw[LC,Zaa (by rw[J4.out];simp)];exact J2.out,Y.out⟩
    | true=>
     rw[O] at z1
     have J4:=Lib.hid O
     clear O
     by_cases L:(p.af.getD k ⟨0,0,0,[]⟩).op=1
     ·rw[L] at z3
      have J5:=Lib.hid L
      clear L
      have Qlh:keyOf prog 3 (.int .i64 ((k:Int)+1))=some (.int .i64 ((k:Int)+1)):=keyOf_int_mk Tryz.underlying3 (WalkArith.wf_i64 ω)
      go_wp2_with (at_mapUpdate;refine wpList_mapUpdate_own (H:=Unit) _ rfl _ _ _ 328 rfl 3 3 ON Tryz.underlying328 (plainElem prog 3) B a E rfl J1.out (by unfold maxLen;omega) _ _ _ rfl rfl Qlh _ [] (plainElem_int Tryz.underlying3 (WalkArith.wf_i64 ω)) ?_;intro w3 hown3 hgrow3)
      go_roundg (p.af.length-(k+1))
      case measure=>omega
      case rel=>exact⟨k+1,_,a+1,ω,rfl,by go_num,hown3,ω,by rw[LC,Zac ⟨J4.out,J5.out⟩];exact J2.out.put ((k:Int)+1) true,Y.out.grown hgrow3 (Zav (Zd1 KB.out.symm) Y.out.size) (λj hj=>by grind)⟩
     ·generalize hg:(p.af.getD k ⟨0,0,0,[]⟩).op=q at z3 L
      have J5:=Lib.hid hg
      have q1:(q==1)=false:=by simpa using L
      have q2:decide (q=1)=false:=by assumption
      clear hg
      go_wp2_with fail
      go_roundg (p.af.length-(k+1))
      case measure=>omega
      case rel=>exact⟨k+1,E,a,ω,rfl,by go_num,J1.out,ω,by rw[LC,Zaa (by rw[J5.out];exact λh=>L h.2)];exact J2.out,Y.out⟩
   ·obtain rfl:k=p.af.length:=ω
    have k5:wr.cell? ⟨w.heap.size+1,11,none⟩=some (.slice ta (List.length (α:=D.E 1) l.aJ) Qlg):=(Y.out.cell (show w.heap.size+1<B by omega)).trans (by rw[iT ((K1.out _ ω).trans (sR (by simp) _))];rfl)
    have c2:¬((p.af.length:Int)<(p.af.length:Int)):=ω
    go_wp2_with fail
    clear k5
    go_loopg [54] l.aJ.length (λg i wr=>∃(q:Nat) (E:DataW Unit) (a:Nat) (F:Int->Bool),q<=l.aJ.length/\g=l.aJ.length-q/\i=.int .i64 q/\wr.ownsMap prog 3 (plainElem prog 3) B a E/\a<=1001+q/\
     Mp E F/\Below B f wr/\XL m (l.aJ.drop q) F=vC ⟨p,b,l,m⟩)
    case atStart=>exact⟨0,E,a,_,Zaj _,ω,rfl,J1.out,ω,J2.out,Y.out,by rw[ZbQ,vC,show Ϗ ⟨p,b,l,m⟩=st from GS.out]⟩
    case round=>
     obtain⟨q,E2,d,F,hq,rfl,rfl,C,hcnt2,U,S,hwt⟩:=hrel
     have N1:=Lib.hid C
     have N2:=Lib.hid U
     have N3:=Lib.hid S
     have N4:=Lib.hid hwt
     clear C U S hwt
     by_cases J:q<l.aJ.length
     ·obtain⟨t,ht⟩:∃t,l.aJ[q]?=some t:=⟨_,Zaf J⟩
      obtain⟨tb,tO,rfl,htr,htb⟩:=G8.out (Nat.lt_of_le_of_lt (Zaj _) J)
      obtain⟨e0,e1,e2,e3,e4,e5,e6,e7,e8,e9,e10,f0,f1⟩:=Qlf htr ht
      have tw:∀o,(wr.cell? ⟨tb,o,none⟩)=w.cell? ⟨tb,o,none⟩:=λo=>(N3.out.cell (show tb<B from Nat.lt_trans htb P)).trans (gk (K4.out tb htb))
      rw[<-tw] at e0 e1 e2 e3 e4 e5 e6 e7 e8 e9 e10
      have c3:(0:Int)<=(q:Int):=ω
      have c4:(q:Int)<(l.aJ.length:Int):=ω
      have hns:B<wr.heap.size:=by obtain⟨es,clock,hb,_⟩:=N1.out;exact(ZbU.1 hb).1
      have P1:=Lib.hid ht
      have wfp:(Lit.int .i64 t.pc).wf=true:=WalkArith.wf_i64 (cL.1 f0)
      have n:keyOf prog 3 (.int .i64 t.pc)=some (.int .i64 t.pc):=keyOf_int_mk Tryz.underlying3 wfp
      have V:∀o,(wr.alloc o).ownsMap prog 3 (plainElem prog 3) B d E2:=λo=>BA N1.out (Below.heap_alloc _ _ _ hns)
      have hbX:∀o,Below B f (wr.alloc o):=λo=>N3.out.alloc (Zcx hns) o
      have Qli:vC ⟨p,b,l,m⟩=(F t.pc&&fq t m&&XL m (l.aJ.drop (q+1)) λk=>if k=t.pc then false else F k):=by
       rw[<-N4.out,Zaq J,XL]
       have:l.aJ[q]=t:=by rw[Zaf J] at ht;exact ZbN ht
       rw[this]
      have P3:=Lib.hid f1
      have P4:=Lib.hid V
      have P5:=Lib.hid hbX
      have P6:=Lib.hid Qli
      clear ht f0 f1 tw htr V hbX Qli
      cases hF:F t.pc with
      | false=>
       have Q1:=Lib.hid hF
       clear hF
       go_wp2_with (at_lookup;refine wpList_lookup_own_int (H:=Unit) _ rfl _ _ 328 rfl 3 3 .i64 ON Tryz.underlying328 Tryz.underlying3 (Wy _) B d E2 rfl (P4.out _) _ _ rfl n ?_;intro c R hwc;obtain rfl:c=0:=by(have Q:=N2.out.2 t.pc;rw[R,Q1.out] at Q;simpa using Q))
       go_ret
       refine⟨M1,?_,KF.out _ (P5.out _)⟩
       rw[P6.out,Q1.out]
       rfl
      | true=>
       have Q1:=Lib.hid hF
       clear hF
       have G:=KP.out t _ P3.out (P5.out (Obj.cells #[.int .i64 t.pc,.int .i64 t.c0,.int .i64 t.c1,.int .i64 t.c2,.int .i64 t.c3,.int .i64 t.c4,.int .i64 t.c5,.int .i64 t.c6,.int .i64 t.c7,.int .i64 t.c8,.int .i64 t.c9] 179))
       cases N:fq t m with
       | false=>
        rw[N] at G
        have Q2:=Lib.hid N
        clear N
        go_wp2_with (first | (at_lookup;refine wpList_lookup_own_int (H:=Unit) _ rfl _ _ 328 rfl 3 3 .i64 ON Tryz.underlying328 Tryz.underlying3 (Wy _) B d E2 rfl (P4.out _) _ _ rfl n ?_;intro c R hwc;obtain rfl:c=1:=by(have Q:=N2.out.2 t.pc;rw[R,Q1.out] at Q;simpa using Q)) | (go_at_call 207;refine G.mono ?_;rintro e w3 ⟨rfl,K⟩))
        go_ret
        refine⟨M1,?_,KF.out _ ((P5.out _).trans (K.mono (by simp;omega)))⟩
        rw[P6.out,Q1.out,Q2.out]
        rfl
       | true=>
        rw[N] at G
        have Q2:=Lib.hid N
        clear N
        go_wp2_with (first | (at_lookup;refine wpList_lookup_own_int (H:=Unit) _ rfl _ _ 328 rfl 3 3 .i64 ON Tryz.underlying328 Tryz.underlying3 (Wy _) B d E2 rfl (P4.out _) _ _ rfl n ?_;intro c R hwc;obtain rfl:c=1:=by(have Q:=N2.out.2 t.pc;rw[R,Q1.out] at Q;simpa using Q)) | (go_at_call 207;refine G.mono ?_;rintro e w3 ⟨rfl,K⟩;have w3c:w3.cell? ⟨wr.heap.size,0,none⟩=some (.int .i64 t.pc):=(K.cell (by simp)).trans (by rw[iT (sR rfl _)];rfl)) | (at_mapUpdate;refine wpList_mapUpdate_own (H:=Unit) _ rfl _ _ _ 328 rfl 3 3 ON Tryz.underlying328 (plainElem prog 3) B d E2 rfl (BA (P4.out _) (K.block B (by simp;omega))) (by unfold maxLen;omega) _ _ _ rfl rfl n _ [] (plainElem_int Tryz.underlying3 (WalkArith.wf_i64 ω)) ?_;intro w4 hown4 hgrow4))
        go_roundg (l.aJ.length-(q+1))
        case measure=>omega
        case rel=>
         have hb4:Below B f w4:=((P5.out _).trans (K.mono (by simp;omega))).grown hgrow4 (by have:=K.size;simp at this;omega) λj hj=>by cases hj;exact Zah _
         exact⟨q+1,_,d+1,_,ω,rfl,by go_num,hown4,ω,N2.out.put t.pc false,hb4,by rw[P6.out,Q1.out,Q2.out];rfl⟩
     ·obtain rfl:q=l.aJ.length:=ω
      have c4:¬((l.aJ.length:Int)<(l.aJ.length:Int)):=ω
      go_wp2_with fail
      go_ret
      refine⟨?_,M1,KF.out _ N3.out⟩
      have e:vC ⟨p,b,l,m⟩=true:=by rw[<-N4.out,ZbH];rfl
      rw[e]
      rfl
theorem QcO:Ok VG:=by
 refine⟨⟨f208,_,by kernel_rfl,cN (by kernel_rfl)⟩,λy t M A w a i j R h=>?_⟩;obtain⟨p,r,l,m⟩:=y;obtain⟨k,h0,h1,g⟩:=t;obtain⟨A⟩:=A;obtain⟨v,A,rfl,a0,a⟩:=LR.aM a;obtain⟨x,A,rfl,f,a⟩:=a.aM;obtain⟨z,A,rfl,a2,a⟩:=a.aM;obtain⟨v3,A,rfl,a3,a⟩:=a.aM;obtain rfl:=a.jA;obtain rfl:=fE f;obtain⟨rfl,q⟩:=eA a3;obtain⟨n,rfl⟩:=Zau h0;have b:n<p.av.length:=Zd0.1 h1;have c:p.av[n]?=some (Ϗ ⟨p,n,l,m⟩):=by
  show _=some (p.av.getD (Int.toNat n) 0)
  grind
 exact(Qaa b c k g i j q a0 a2).mono λe u ⟨d,o,s⟩=>by rw[o];exact h d _ u (.bool _) s.QcN
end sx
set_option maxRecDepth 100000
set_option maxHeartbeats 4000000
namespace sx
noncomputable section
open Go Go.RowKit cls syn
structure oN where
 p:iC
 m:Int
 L:List dd
def OO (l:dd):aX:=⟨0,l.c0,l.c1,l.c2,l.c3,l.c4,l.c5,l.c6,l.c7,l.c8,l.c9⟩
def wlN (l:dd):Bool:=(oz (OO l)).all λx=>decide (x= -1)
def uS (y:oN) (i:Nat):Bool:=!(!(y.L.getD i fu).done&&!wlN (y.L.getD i fu))&&fq (OO (y.L.getD i fu)) y.m&&vC ⟨y.p,i,y.L.getD i fu,y.m⟩
def gh (y:oN):Nat->Bool
 | 0=>true
 | k+1=>gh y k&&uS y k
def gX (y:oN):Bool:=lk (decide (0<=y.m)&&decide (y.m<=1099511627776)&&decide (y.L.length=y.p.av.length)&&gh y y.L.length)
def sZ (y:oN):Prop:=F5 y.p/\y.L.length<=1000/\∀l∈y.L,l.aJ.length<=1000000
def mcA (y:oN):AV D.E:=.agg [.int .i64 y.m,.list 2 y.L]
def QsY (v:AV D.E) (s:St D.E):C (Int×List dd):=az (asAgg v) λcs=>match cs with
 | [m,l]=>aP (cT m) λ_ m=>az (aL D s 2 l) λl=>.ret (m,(l:List dd))
 | _=>.fail
def QsZ (a:List (AV D.E)) (s:St D.E):C oN:=match a with
 | [p,m]=>az (Hk p s) λp=>aP (QsY m s) λm l=>.ret ⟨p,m,l⟩
 | _=>.fail
def OP:bh D:=bO 165 oN QsZ sZ (λy=>[Hj y.p,mcA y]) λy=>.bool (gX y)
def Qs0 (y:OP.Y):cH D:=⟨[],[],[(58,⟨Nat,[30,31],λk=>[(2,.ptr 0 0),(3,.ptr 1 0),(32,Qvo k)],[],λ_=>[SU (oN.p y),(1,.cells [Qvo (oN.m y),.list 2 (oN.L y)] 31 false)],2,λk=>k<=(oN.L y).length/\gh y k,λk=>(oN.L y).length-k⟩)],[],1,[]⟩
def Wz (y:oN):Prop:=let d:=ag y.L;let q1:=y.L.length;let k:=aw 1099511627776 y.m;let l:=!(aB d (ag y.p.av));let e:=λp:Prop=>RAI y.L d p;let f:=λp:Prop=>RAI y.m y.L (RA3 y.p p);let n:Prop:=(RAH y.m (false=gX y/\True));Iv (F5 y.p)/\RA3 y.p (aj (aw y.m 0) (false=gX y/\True) (aj k (false=gX y/\True) (aj l (false=gX y/\True) ((∃z:Nat,e (0=(z:Int)/\f ((Iv (z<=q1/\gh y z)))))/\(∀x:Nat,let a:=gt (dd.mk false 0 0 0 0 0 0 0 0 0 0 []) y.L (x:Int).toNat;let c:=zO.mk y.p (x:Int) a y.m;let h:=!(fq (aX.mk 0 a.c0 a.c1 a.c2 a.c3 a.c4 a.c5 a.c6 a.c7 a.c8 a.c9) y.m);let g:=!((aB a.c0 (-1))&&((aB a.c1 (-1))&&((aB a.c2 (-1))&&((aB a.c3 (-1))&&((aB a.c4 (-1))&&((aB a.c5 (-1))&&((aB a.c6 (-1))&&((aB a.c7 (-1))&&((aB a.c8 (-1))&&(aB a.c9 (-1)))))))))));let b:=λp:Prop=>aa [a.c0,a.c1,a.c2,a.c3,a.c4,a.c5,a.c6,a.c7,a.c8,a.c9,y.m] p;let i:Prop:=(b (false=gX y/\True));let j:Prop:=(aa [a.c0,a.c1,a.c2,a.c3,a.c4,a.c5,a.c6,a.c7,a.c8,a.c9,y.m] (aa [y.p.af] (aa [y.p.av] (aa [a.done] (aa [a.c0,a.c1,a.c2,a.c3,a.c4,a.c5,a.c6,a.c7,a.c8,a.c9] (aa [a.aJ] (aa [y.m] (aj (!(vC c)) (false=gX y/\True) (∃z:Nat,e (ay .i64 (x:Int) 1=(z:Int)/\f ((Iv ((z<=q1/\gh y z)/\(q1-z)<(q1-x))))))))))))));(Iv (x<=q1/\gh y x))->aj (aw (x:Int) d) (aG 0 (x:Int)/\aw (x:Int) d/\aj (!a.done) (Iv True/\aj g (aa [a.done] (aa [a.c0,a.c1,a.c2,a.c3,a.c4,a.c5,a.c6,a.c7,a.c8,a.c9,a.c0,a.c1,a.c2,a.c3,a.c4,a.c5,a.c6,a.c7,a.c8,a.c9] (false=gX y/\True))) (Iv True/\b (aj h (aa [a.done] (aa [a.c0,a.c1,a.c2,a.c3,a.c4,a.c5,a.c6,a.c7,a.c8,a.c9,a.c0,a.c1,a.c2,a.c3,a.c4,a.c5,a.c6,a.c7,a.c8,a.c9,a.c0,a.c1,a.c2,a.c3,a.c4,a.c5,a.c6,a.c7,a.c8,a.c9,y.m] (false=gX y/\True))) (Iv (wtP c)/\aa [y.p.af] (aa [y.p.av] (aa [(x:Int)] (aa [a.done] (aa [a.c0,a.c1,a.c2,a.c3,a.c4,a.c5,a.c6,a.c7,a.c8,a.c9] (aa [a.aJ] (aa [y.m] (aa [a.done] (aa [a.c0,a.c1,a.c2,a.c3,a.c4,a.c5,a.c6,a.c7,a.c8,a.c9,a.c0,a.c1,a.c2,a.c3,a.c4,a.c5,a.c6,a.c7,a.c8,a.c9,a.c0,a.c1,a.c2,a.c3,a.c4,a.c5,a.c6,a.c7,a.c8,a.c9,y.m] (aa [y.p.af] (aa [y.p.av] (aa [a.done] (aa [a.c0,a.c1,a.c2,a.c3,a.c4,a.c5,a.c6,a.c7,a.c8,a.c9] (aa [a.aJ] (aa [y.m] (aj (!(vC c)) (false=gX y/\True) (∃z:Nat,e (ay .i64 (x:Int) 1=(z:Int)/\f ((Iv ((z<=q1/\gh y z)/\(q1-z)<(q1-x))))))))))))))))))))))))) (Iv True/\b (aj h (aa [a.done] (aa [a.c0,a.c1,a.c2,a.c3,a.c4,a.c5,a.c6,a.c7,a.c8,a.c9,y.m] (false=gX y/\True))) (Iv (wtP c)/\aa [y.p.af] (aa [y.p.av] (aa [(x:Int)] (aa [a.done] (aa [a.c0,a.c1,a.c2,a.c3,a.c4,a.c5,a.c6,a.c7,a.c8,a.c9] (aa [a.aJ] (aa [y.m] (aa [a.done] (aa [a.c0,a.c1,a.c2,a.c3,a.c4,a.c5,a.c6,a.c7,a.c8,a.c9,y.m] (aa [y.p.af] (aa [y.p.av] (aa [a.done] (aa [a.c0,a.c1,a.c2,a.c3,a.c4,a.c5,a.c6,a.c7,a.c8,a.c9] (aa [a.aJ] (aa [y.m] (aj (!(vC c)) (false=gX y/\True) (∃z:Nat,e (ay .i64 (x:Int) 1=(z:Int)/\f ((Iv ((z<=q1/\gh y z)/\(q1-z)<(q1-x))))))))))))))))))))))))) (true=gX y/\True))))))
theorem FL {y:oN}:∀{n k:Nat},k<=n->gh y n->gh y k
 | 0,k,h,e=>by
  obtain rfl:k=0:=ω;exact e
 | n+1,k,h,e=>by
  rw[gh,ZaW] at e;by_cases hk:k=n+1
  ·grind [gh]
  ·exact FL ω e.1
theorem kn (y:oN):gX y=(decide (0<=y.m)&&decide (y.m<=1099511627776)&&decide (y.L.length=y.p.av.length)&&gh y y.L.length):=aC _
theorem Ju {y:oN} {x:Nat} (a:x<y.L.length) (h:uS y x=false):false=gX y:=by
 rw[kn];cases e:gh y y.L.length with
 | false=>simp
 | true=>
  have:=FL (show x+1<=y.L.length by omega) e;grind [gh]
def WA (l:dd):wlN l=decide (l.c0= -1/\l.c1= -1/\l.c2= -1/\l.c3= -1/\l.c4= -1/\l.c5= -1/\l.c6= -1/\l.c7= -1/\l.c8= -1/\l.c9= -1):=by simp[wlN,OO,oz]
theorem Qs2 (y:oN) (j:sZ y):Wz y:=by
 unfold Wz;have⟨h,q,i⟩:=j;have⟨s,u,v,w,k,l⟩:=h;simp only[bL,bC,au,dq,Zad,Zan,Zao];refine⟨h,λk1=>?_,λk1=>⟨λk2=>?_,λk2=>⟨λk3=>?_,λk3=>⟨⟨0,rfl,Zaj _,rfl⟩,λx r=>⟨λk4=>?_,λk4=>?_⟩⟩⟩⟩⟩
 ·grind [kn]
 ·grind [kn]
 ·grind [kn]
 ·have b:x<y.L.length:=ω;have d:x<y.p.av.length:=ω;have ht:y.L.getD x fu∈y.L:=by grind
  have hw:wtP ⟨y.p,↑x,y.L.getD x fu,y.m⟩:=by
   have⟨n,o,_⟩:=l x d;exact⟨⟨k,n,o⟩,ZaF _,Zd0.2 d,i _ ht⟩
  have hi:ay .i64 ↑x 1=((x+1:Nat):Int):=ba ω ω;have g:uS y x->gh y (x+1):=λe=>by grind [gh]
  have f:(⟨false,0,0,0,0,0,0,0,0,0,0,[]⟩:dd)=fu:=rfl;have c:∀e:uS y x,∃z:Nat,ay .i64 ↑x 1=↑z/\(z<=y.L.length/\gh y z)/\y.L.length-z<y.L.length-x:=λe=>⟨x+1,hi,⟨b,g e⟩,ω⟩
  have a:=Ju b;simp only[f];have hu:uS y x=(!(!(y.L.getD x fu).done&&!wlN (y.L.getD x fu))&&fq (OO (y.L.getD x fu)) y.m&&vC ⟨y.p,x,y.L.getD x fu,y.m⟩):=rfl;rw[WA] at hu;unfold OO at hu;generalize vC ⟨y.p,x,y.L.getD x fu,y.m⟩=W at*
  generalize fq ⟨0,(y.L.getD x fu).c0,(y.L.getD x fu).c1,(y.L.getD x fu).c2,(y.L.getD x fu).c3,(y.L.getD x fu).c4,(y.L.getD x fu).c5,(y.L.getD x fu).c6,(y.L.getD x fu).c7,(y.L.getD x fu).c8,(y.L.getD x fu).c9⟩ y.m=PP at*
  generalize y.L.getD x fu=t at*
  refine⟨ω,ω,λk5=>⟨λk6=>a ?_,λk6=>⟨λk7=>a ?_,λk7=>⟨hw,λk8=>a ?_,λk8=>c ?_⟩⟩⟩,λk5=>⟨λk7=>a ?_,λk7=>⟨hw,λk8=>a ?_,λk8=>c ?_⟩⟩⟩
  all_goals rw[hu]
  all_goals simp_all [aB]
 ·grind [kn]
def Qlk (a:Ok dB):Ok OP:=okZ [NF,Nu,VF,VG] f165 Qs0 ⟨Qip a,Qb5,QcI,QcO⟩ Qs2
def Qac (x:aW) (i:Int):List Int:=if x.op=2 then[x.x,x.y] else if x.op=3 then[x.x] else if x.op=7 then[] else[i+1]
def tX (af:List aW) (i:Int):List Int:=Qac (af.getD i.toNat cX) i
def WB (a:List (AV D.E)) (s:St D.E):C (iC×Int):=match a with
 | [p,i]=>az (Hk p s) λp=>aP (cT i) λ_ i=>.ret (p,i)
 | _=>.fail
def QfI (y:iC×Int):Prop:=0<=y.2/\y.2<y.1.af.length/\y.1.af.length<=1000
def Qad:bh D:=bO 238 (iC×Int) WB QfI (λy=>[Hj y.1,Qvo y.2]) λy=>.list 5 (tX y.1.af y.2)
def vG (y:iC×Int):Int:=y.1.av.getD y.2.toNat 0
def Qae (y:iC×Int):Prop:=ND (y.1.af,vG y)/\0<=y.2/\y.2<y.1.av.length
def OQ:bh D:=bO 200 (iC×Int) WB Qae (λy=>[Hj y.1,Qvo y.2]) λy=>.list 17 (lJ y.1.af (vG y))
def Qs4 (y:OQ.Y):cH D:=⟨[],[3,4],[(124,⟨sy,[],λx=>[(2,.ptr 0 0),(5,.own 1 1 (ag x.s)),(6,.own 2 1 (ag x.l))],[],λx=>[SU (Prod.fst (α:=iC) y),(1,.arr 17 x.s 4 false),(2,.arr 5 x.l 3 false)],3,qC ((Prod.fst (α:=iC) y).af,vG y),λx=>x.f⟩)],[],1,[]⟩
def QfJ (y:iC×Int):Prop:=YQ y/\HD y.1 y.2
def Qaf:bh D:=bO 237 (iC×Int) WB QfJ (λy=>[Hj y.1,Qvo y.2]) λ_=>.lit true
def WC:bh D:={ NF with f:=198 }
def Qs7 (y:WC.Y):cH D:=⟨[],[],[(58,⟨Nat,[],λk=>[(1,.ptr 0 0),(3,Qvo k)],[],λ_=>[SU y],1,λk=>k<=(iC.af y).length,λk=>(iC.af y).length-k⟩),
 (122,⟨Nat,[],λk=>[(1,.ptr 0 0),(4,Qvo k)],[],λ_=>[SU y],1,λk=>k<=(iC.av y).length,λk=>(iC.av y).length-k⟩),
 (250,⟨Nat,[],λk=>[(1,.ptr 0 0),(5,Qvo k)],[],λ_=>[SU y],1,λk=>k<=(iC.av y).length,λk=>(iC.av y).length-k⟩)],[],1,
 [(32038,⟨Nat,λr=>⟨Nat,[5,6],λk=>[(1,.ptr 0 0),(7,Qvo k)],[],λ_=>[SU y],1,λk=>k<=(iC.af y).length/\r<(iC.av y).length,λk=>(iC.af y).length-k⟩,none⟩)]⟩
def QfK:bh D:={ Nu with f:=99 }
def Qll:bh D:={ VF with f:=199 }
end
end sx
end Go.Proofs.YtiiiphndmbabcaaGreat
