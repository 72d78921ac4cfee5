/- PointReads: a part of the proof. -/
import Derived.Test.YtiiiphndmbabcaaGreatC8
import Derived.Test.YtiiiphndmbabcaaGreatC5
import Derived.Test.YtiiiphndmbabcaaGreatC7
import Derived.Test.YtiiiphndmbabcaaGreatProg
import Derived.WalkKit
import Derived.Test.YtiiiphndmbabcaaGreatC3
import Derived.Lib.Hide
import Derived.Deep.LoopGhost
import Derived.Deep.DeepCutAuto
import Derived.Laws.AppendOwnNone
import Derived.BigQuiet
import Derived.Deep.QuietTactic
import Derived.Lib.MinMax
import Derived.Deep.DeepMust
import Derived.RegionTactic
import Derived.Laws.ResultCell
set_option linter.all false
namespace Go.Proofs.YtiiiphndmbabcaaGreat
open Go.Proofs.Tryz
set_option maxRecDepth 100000
set_option maxHeartbeats 4000000
namespace sx
noncomputable section
open Go Go.RowKit cls syn
variable {Z:Nat} {Y:Nat->List aW} {x:Nd} {g:Nat->aW}
def lq (t:ah) (b:Nat):bS t b=if t.op=2 then[⟨1,0,0,t.r⟩] else if t.op=7 then[⟨5,0,0,[]⟩] else if t.op=8 then[⟨6,0,0,[]⟩]
  else if t.op=3 then bu t.ae b
  else if t.op=4 then kj t.ae b (b+aQ t.ae+2*(t.ae.length-1))
  else if t.op=5 then IK (λb=>bu t.ae b) (aQ t.ae) t.mn t.mx t.lz b
  else if t.op=6 then⟨4,2*t.cap,0,[]⟩::(bu t.ae (b+1)++[⟨4,2*t.cap+1,0,[]⟩])
  else[]:=by cases t;rw[bS];rfl
theorem pH (a:∀b,(Y b).length=Z):∀(n b:Nat),(iq Y Z n b).length=n*Z
 | 0,b=>by simp[iq]
 | n+1,b=>by rw[iq,Zab,a,pH a n,ZaV,Zc1]
theorem pI (a:∀b,(Y b).length=Z):∀(n b:Nat),(fp g Y Z n b).length=n*(Z+1)
 | 0,b=>by simp[fp]
 | n+1,b=>by rw[fp,Zae,Zab,a,pI a n,ZaV];omega
theorem Bg:∀(n b:Nat),iq Y Z (n+1) b=iq Y Z n b++Y (b+n*Z)
 | 0,b=>by simp[iq]
 | n+1,b=>by
  rw[iq,Bg n,iq,ZaD,ZaV];congr 3;omega
theorem Bh:∀(n b:Nat),fp g Y Z (n+1) b=fp g Y Z n b++(g (b+n*(Z+1))::Y (b+n*(Z+1)+1))
 | 0,b=>by simp[fp]
 | n+1,b=>by
  rw[fp,Bh n,fp,Za1,ZaD,ZaV,show b+1+Z+n*(Z+1)=b+(n*(Z+1)+(Z+1)) by omega]
theorem Bi:∀(n b:Nat),jL Z (n+1) b=jL Z n b++[((b+n*(Z+1):Nat):Int)]
 | 0,b=>by simp[jL]
 | n+1,b=>by
  rw[jL,Bi n,jL,Za1,ZaV,show b+1+Z+n*(Z+1)=b+(n*(Z+1)+(Z+1)) by omega]
theorem Fl:∀(n b:Nat),(jL Z n b).length=n
 | 0,b=>rfl
 | n+1,b=>by rw[jL,Zae,Fl n]
theorem Ol.op (h:Ol x) (h1:x.op≠1):x.op=2\/x.op=7\/x.op=8\/x.op=3\/x.op=4\/x.op=5\/x.op=6:=by
 have⟨g,h⟩:=h;grind [ck]
theorem Ol.none (h:Ol x) (h1:x.op=1):x.ae=0:=by
 have⟨g,h⟩:=h;grind [ck]
theorem Ol.aH (h:Ol x) (h1:x.op=4):2<=x.ae:=by
 obtain⟨g,h⟩:=h;grind [ck]
theorem Ol.vg (h:Ol x) (h1:x.op=6):x.ae=1/\1<=x.cap/\x.cap<=4:=by
 have⟨g,h⟩:=h;grind [ck]
mutual
theorem iR:∀(t:ah) (b:Nat),ku t->(bS t b).length=bt t
 | .mk op r mn mx lz cap nk ks,b,h=>by
  rw[ku] at h
  have hl:=λb=>nh ks b h.2.2
  have ha:=λb e=>lu ks b e h.2.2
  rw[bS,bt]
  unfold pF
  by_cases h1:op=1
  ·have h0:(ks.length:Int)=0:=h.1.none h1
   have:ks=[]:=Zap ω
   subst this
   subst h1
   simp[aQ]
  ·by_cases h2:op=2
   ·simp[h2]
   ·by_cases h7:op=7
    ·simp[h7]
    ·by_cases h8:op=8
     ·simp[h8]
     ·by_cases h3:op=3
      ·simp[h3,hl]
      ·by_cases h4:op=4
       ·simp[h4,ha]
       ·by_cases h5:op=5
        ·simp only[h5]
         simp only[show ¬((5:Int)=2) by decide,show ¬((5:Int)=7) by decide,show ¬((5:Int)=8) by decide,show ¬((5:Int)=3) by decide,show ¬((5:Int)=4) by decide,show ¬((5:Int)=6) by decide,Za0,Zbv,or_self]
         unfold IK
         rw[Zab,pH hl]
         split
         ·simp[hl];omega
         ·rw[pI hl];rfl
        ·have h6:op=6:=by
          have:=h.1.op h1
          simp only at this
          omega
         simp[h6,hl]
theorem nh:∀(l:List ah) (b:Nat),nf l->(bu l b).length=aQ l
 | [],b,_=>by simp[bu,aQ]
 | t::l,b,h=>by
  rw[nf] at h
  rw[bu,aQ,Zab,iR t b h.1,nh l _ h.2]
theorem lu:∀(l:List ah) (b e:Nat),nf l->(kj l b e).length=aQ l+2*(l.length-1)
 | [],b,e,_=>by simp[kj,aQ]
 | t::l,b,e,h=>by
  rw[nf] at h
  have h1:=λb=>iR t b h.1
  have h2:=λb=>lu l b e h.2
  rw[kj,aQ]
  cases l with
  | nil=>simp[h1,aQ]
  | cons u l=>
   simp only[List.isEmpty_cons,ZaE,Za0,Zae,Zab,h1,h2]
   omega
end
variable {b:Nat} {l:List ah} {p q:List aW}
theorem nf.mem (h:nf l) (a:b<l.length):ku (l.getD b bF):=by grind [qq]
theorem nf.take (h:nf l) (n:Nat):nf (l.take n):=by grind [qq]
theorem Ζ (h:nf l) (b e:Nat):(fH l b e).length=aQ l+2*l.length:=by
 induction l generalizing b with
 | nil=>simp[fH,aQ]
 | cons t l a=>
  grind [nf,fH,iR,aQ]
theorem IM (l:List ah) (t:ah) (b:Nat):bu (l++[t]) b=bu l b++bS t (b+aQ l):=by
 induction l generalizing b with
 | nil=>simp[bu,aQ]
 | cons a l c=>rw[Za1,bu,c,bu,aQ,ZaD,Za4]
theorem Ot (l:List ah) (t:ah) (b e:Nat):fH (l++[t]) b e=fH l b e++(⟨2,(b+(aQ l+2*l.length)+1:Nat),(b+(aQ l+2*l.length)+2+bt t:Nat),[]⟩::(bS t (b+(aQ l+2*l.length)+1)++[⟨3,e,0,[]⟩])):=by
 induction l generalizing b with
 | nil=>simp[fH,aQ]
 | cons a l c=>
  rw[Za1,fH,c,fH,aQ,Zae,Za1,ZaD,Za1,show b+2+bt a+(aQ l+2*l.length)=b+(bt a+aQ l+2*(l.length+1)) by omega]
theorem Ou (l:List ah) (t:ah) (b:Nat):jR (l++[t]) b=jR l b++[((b+(aQ l+2*l.length)+1+bt t:Nat):Int)]:=by
 induction l generalizing b with
 | nil=>simp[jR,aQ]
 | cons a l c=>
  rw[Za1,jR,c,jR,aQ,Zae,Za1,show b+2+bt a+(aQ l+2*l.length)=b+(bt a+aQ l+2*(l.length+1)) by omega]
theorem Fp (l:List ah) (b:Nat):(jR l b).length=l.length:=by
 induction l generalizing b with
 | nil=>rfl
 | cons a l c=>rw[jR,Zae,c,Zae]
theorem qu (l:List ah) (t:ah) (b e:Nat):kj (l++[t]) b e=fH l b e++bS t (b+(aQ l+2*l.length)):=by
 induction l generalizing b with
 | nil=>simp[kj,fH,aQ]
 | cons a l c=>
  grind [kj,fH,aQ,List.length_cons]
theorem Vr {x:aW} {e:Int} (a:p.length=b):ll e (p++x::q) (b:Int)=p++⟨x.op,e,x.y,x.bm⟩::q:=by
 grind [ll]
theorem sP {x:aW} {e:Int} {lz:Bool} (a:p.length=b):fx e lz (p++x::q) (b:Int)=p++⟨x.op,if lz=true then e else(b:Int)+1,if lz=true then(b:Int)+1 else e,x.bm⟩::q:=by
 grind [fx]
theorem iS (e:Int) (l:List aW) (j:Int):(ll e l j).length=l.length:=by grind [ll]
theorem ep (e:Int) (lz:Bool) (l:List aW) (j:Int):(fx e lz l j).length=l.length:=by grind [fx]
theorem Bj (e:Int):∀(a:List Int) (l:List aW),(a.foldl (ll e) l).length=l.length
 | [],l=>rfl
 | j::a,l=>by rw[Zb2,Bj e a,iS]
theorem Bk (e:Int) (lz:Bool):∀(a:List Int) (l:List aW),(a.foldl (fx e lz) l).length=l.length
 | [],l=>rfl
 | j::a,l=>by rw[Zb2,Bk e lz a,ep]
theorem CI {e:Nat}:∀(l:List ah) (p q:List aW) (b:Nat),nf l->p.length=b->(jR l b).foldl (ll e) (p++(fH l b 0++q))=p++(fH l b e++q)
 | [],p,q,b,_,_=>by rfl
 | t::l,p,q,b,h,hb=>by
  have h1:=iR t (b+1) h.1;rw[jR,fH,fH,Zb2];have a:p++((⟨2,(b+1:Nat),(b+2+bt t:Nat),[]⟩::(bS t (b+1)++⟨3,(0:Nat),0,[]⟩::fH l (b+2+bt t) 0))++q)=(p++(⟨2,(b+1:Nat),(b+2+bt t:Nat),[]⟩::bS t (b+1)))++(⟨3,(0:Nat),0,[]⟩::(fH l (b+2+bt t) 0++q)):=by simp
  rw[a,Vr (by grind)];have e2:∀x:aW,(p++(⟨2,(b+1:Nat),(b+2+bt t:Nat),[]⟩::bS t (b+1)))++(x::(fH l (b+2+bt t) 0++q))=((p++(⟨2,(b+1:Nat),(b+2+bt t:Nat),[]⟩::bS t (b+1)))++[x])++(fH l (b+2+bt t) 0++q):=λx=>by simp
  rw[e2,CI l _ q (b+2+bt t) h.2 (by simp;omega)];simp
theorem CJ {lz:Bool} {f:Nat->List aW} {sz:Nat} (c:∀e,(f e).length=sz):∀(n:Nat) (p:List aW) (e:Nat),p.length=e->(jL sz n e).foldl (fx b lz) (p++fp (λ_=>⟨2,0,0,[]⟩) f sz n e)=p++fp (λi=>hZ lz i b) f sz n e
 | 0,p,e,_=>by rfl
 | n+1,p,e,a=>by
  rw[jL,fp,fp,Zb2,sP a];have e2:∀x:aW,p++x::(f (e+1)++fp (λ_=>⟨2,0,0,[]⟩) f sz n (e+1+sz))=(p++x::f (e+1))++fp (λ_=>⟨2,0,0,[]⟩) f sz n (e+1+sz):=λx=>by simp
  rw[e2,CJ c n _ (e+1+sz) (by grind)];grind [hZ]
theorem QrC (y:eD×aW) (a:vu.pre y):Vm y:=by
 have h:y.1.af.length<=1000:=a;grind [Vm]
def Lu:Ok vu:=okZ [] f119 Qru trivial QrC
theorem CK {α:Type} {l:List α} {v d:α} (h:b<l.length):gt d (cS l b v) b=v:=by
 grind [cS]
theorem tT {α:Type} (l:List α) (i:Nat) (a b:α):cS (cS l i a) i b=cS l i b:=by grind [cS,List.set_set]
def QrD (y:eD×Int×Int×Bool) (f:Fc.pre y):Vn y:=by
 have⟨m,a,o,lz⟩:=y;obtain⟨h1,b,c⟩:m.af.length<=1000/\0<=a/\a<m.af.length:=f;have hi:a.toNat<m.af.length:=ω;unfold Vn;simp only[bC,fm,dA,au,ep,CK hi,tT];have e:ay .i64 a 1=a+1:=ba ω ω;have d:gt (aW.mk 0 0 0 []) m.af a.toNat=m.af.getD a.toNat in0:=rfl;refine⟨b,c,b,c,λh=>⟨b,c,b,c,?_⟩,λh=>?_⟩
 ·simp only[e,d,h,fx,Zbv];rfl
 ·simp only[e,d,h,fx,ZaE,Za0];rfl
def QcB:Ok Fc:=okZ [] f215 (λ_=>dY ()) trivial QrD
structure AtK (m:eD) (a:Nat) (t:ah):Prop where
 len:m.bz.length<=480
 nds:∀x∈m.bz,iO x
 wf:ku t
 fit:m.af.length+bt t<=400
 nd:∃r,m.bz.drop a=aD t++r
 sz:∃r,m.cF.drop a=jK t++r
 en:∃r,m.aS.drop a=qE t a++r
variable {a x:Nat} {Z:ah} {m:eD}
theorem ln.out {i:Int} (h:ln (m,i)):∃a:Nat,i=a/\AtK m a (eD.t (m,i)):=by
 have⟨h0,h1,b,t,c,d,⟨r,f⟩,g,j⟩:=h;obtain⟨a,rfl⟩:=Zau h0;have e:eD.t (m,(a:Int))=t:=by grind [eD.t,ki]
 exact⟨a,rfl,by rw[e];exact⟨h1,b,c,d,⟨r,f⟩,g,j⟩⟩
theorem AtK.t (h:AtK m a Z):eD.t (m,(a:Int))=Z:=by
 have⟨r,b⟩:=h.nd;exact ki h.wf b
def AtK.nda (h:AtK m a Z):ln (m,(a:Int)):=
 ⟨ω,h.len,h.nds,Z,h.wf,h.fit,by simp only[Zad];exact h.nd,by simp only[Zad];exact h.sz,by simp only[Zad];exact h.en⟩
def AtK.cod (h:AtK m a Z):ir (m,(a:Int))=m.af++bS Z m.af.length:=by
 unfold ir;rw[aC,h.t]
def fO (t:ah) (a x:Nat):Nat:=a+1+(aA (t.ae.take x)).length
theorem Bl (l:List ah) (x:Nat) (a:x<l.length):aQ l=aQ (l.take x)+bt (l.getD x bF)+aQ (l.drop (x+1)):=by
 grind [List.drop_eq_getElem_cons,List.take_append_drop,tS,aQ]
theorem yH {α:Type} {l:List α} {b:Nat} {u v w r:List α} (h:l.drop a=(u++(v++w))++r) (c:b=a+u.length):l.drop b=v++(w++r):=by
 subst c;rw[<-ZbZ,h];simp
theorem AtK.Vs (h:AtK m a Z) (b:x<Z.ae.length) (c:List aW) (d:c.length+bt (Z.ae.getD x bF)<=400):AtK ⟨c,m.bz,m.cF,m.aS⟩ (fO Z a x) (Z.ae.getD x bF):=by
 have⟨r,h1⟩:=h.nd;have⟨g,j⟩:=h.sz;have⟨i,k⟩:=h.en;have e:Z.ae=Z.ae.take x++(Z.ae.getD x bF::Z.ae.drop (x+1)):=by
  simp_all
 have hk:=wi h1 b;refine⟨h.len,h.nds,((iQ _).mp h.wf).2.2.mem b,d,⟨_,hk⟩,⟨fW (Z.ae.drop (x+1))++g,?_⟩,lf (Z.ae.drop (x+1)) (fO Z a x+(aD (Z.ae.getD x bF)).length)++i,?_⟩
 ·have f:jK Z=(eP (bt Z)::fW (Z.ae.take x))++(jK (Z.ae.getD x bF)++fW (Z.ae.drop (x+1))):=by
   grind [rB,Ky,fW]
  grind [yH,fO,lg]
 ·have f:qE Z a=(((a+(aD Z).length:Nat):Int)::lf (Z.ae.take x) (a+1))++(qE (Z.ae.getD x bF) (fO Z a x)++lf (Z.ae.drop (x+1)) (fO Z a x+(aD (Z.ae.getD x bF)).length)):=by
   rw[II]
   conv=>lhs;rw[e]
   rw[yG,lf];rfl
  grind [yH,fO,pG]
theorem Bm (b:x<Z.ae.length):fO Z a (x+1)=fO Z a x+(aD (Z.ae.getD x bF)).length:=by
 grind [fO,cq,cG,aA]
theorem Lv {α:Type} {l r:List α} {x d:α} (h:l.drop a=x::r):a<l.length/\l.getD a d=x:=by
 grind [List.drop_of_length_le,List.drop_eq_getElem_cons]
theorem AtK.enx (h:AtK m a Z):a<m.aS.length/\m.aS.getD a 0=((a+(aD Z).length:Nat):Int):=by
 have⟨r,b⟩:=h.en;grind [II,Lv]
theorem AtK.ndx (h:AtK m a Z):a<m.bz.length/\gt (Nd.mk 0 [] 0 0 false 0 0) m.bz a=⟨Z.op,Z.r,Z.mn,Z.mx,Z.lz,Z.cap,Z.ae.length⟩:=by
 have⟨r,b⟩:=h.nd;grind [qt]
theorem AtK.num (h:AtK m a Z):a<=480/\Z.ae.length<=480:=by
 have⟨r,h1⟩:=h.nd;have b:=qt h1;have c:=h.len;have key:∀l:List ah,l.length<=(aA l).length:=λl=>by
  induction l with
  | nil=>simp
  | cons x l d=>simp only[aA,Zab,Zae];rw[bT];simp;omega
 grind [bT]
def Lw (h:AtK m a Z) (k:Nat):vv (m,(a:Int)) k=(fO Z a k:Nat):=by
 unfold vv fO;rw[aC,h.t];omega
theorem ky (t:ah) (a:Nat):fO t a 0=a+1:=by rfl
def Vt (h:a<Z.ae.length):2*dm (Z.ae.getD a bF)+1<2*dm Z:=by have:=iP h;omega
def AtK.go (h:AtK m a Z) (b:x<Z.ae.length) (c:List aW) (e:c.length+bt (Z.ae.getD x bF)<=400):
  ln (⟨c,m.bz,m.cF,m.aS⟩,(fO Z a x:Nat))/\eD.t (⟨c,m.bz,m.cF,m.aS⟩,(fO Z a x:Nat))=Z.ae.getD x bF/\ir (⟨c,m.bz,m.cF,m.aS⟩,(fO Z a x:Nat))=c++bS (Z.ae.getD x bF) c.length/\(bS (Z.ae.getD x bF) c.length).length=bt (Z.ae.getD x bF)/\(fO Z a x:Nat)<m.aS.length/\m.aS.getD (fO Z a x) 0=(fO Z a (x+1):Nat):=by
 have hk:=h.Vs b c e;have⟨d,e2⟩:=hk.enx;exact⟨hk.nda,hk.t,hk.cod,iR _ _ hk.wf,d,by rw[e2,Bm b]⟩
theorem QrG (y:vt) (l:IL.pre y):Vo y:=by
 have⟨m,i⟩:=y;obtain⟨a,rfl,h⟩:=ln.out l;have d:ln (m,(a:Int)):=l;have C:lk (cu (List.drop a m.bz)).1=eD.t (m,(a:Int)):=rfl;have z:=h.cod;have A:∀k,Fe (m,(a:Int)) k=m.af++bu ((eD.t (m,(a:Int))).ae.take k) m.af.length:=λk=>by grind [Fe,aC]
 have B:∀k,vv (m,(a:Int)) k=(fO (eD.t (m,(a:Int))) a k:Nat):=Lw h;unfold Vo Qfq Qfr;simp only[Zad,C,A,B,z];generalize eD.t (m,(a:Int))=t at*
 have⟨g1,g2⟩:=h.ndx;have⟨b1,I⟩:=h.num;rw[g2];have wf:=(iQ _).mp h.wf;have j:=h.fit;have f:=lq t m.af.length;have di:=size_eq t;unfold pF at di;have J:t.r.length<=1000000:=by
  have⟨r,h1⟩:=h.nd;have:(⟨t.op,t.r,t.mn,t.mx,t.lz,t.cap,t.ae.length⟩:Nd)∈m.bz:=Zc5 (i:=a) (by grind [bT]);exact h.nds _ this
 simp only[bL,bC,au,dq,br,Zad];refine⟨ω,ω,λE=>⟨ω,ω,?_⟩,λE=>⟨λG=>⟨ω,?_⟩,λG=>⟨λH=>⟨ω,?_⟩,λH=>⟨λF=>⟨⟨0,by grind [ky],rfl,by simp[bu],by simp[bu],Zaj _⟩,λx K=>⟨λe=>?_,λe=>?_⟩⟩,λF=>⟨λn=>⟨⟨d,n⟩,ω⟩,λn=>⟨λo=>⟨⟨d,o⟩,ω⟩,λo=>⟨λp=>?_,λp=>?_⟩⟩⟩⟩⟩⟩⟩
 ·grind
 ·grind
 ·grind
 ·have c:x<t.ae.length:=ω;have g:=Bl t.ae x c;have hl:=nh (t.ae.take x) m.af.length (wf.2.2.take x);have⟨c1,c2,c3,c4,c5,c6⟩:=h.go c (m.af++bu (t.ae.take x) m.af.length) (by grind);have b:lk (cu (List.drop (fO t a x) m.bz)).1=t.ae.getD x bF:=c2;have ht:=cq bF c;rw[b,c3];have hs:m.af++bu (t.ae.take x) m.af.length++bS (t.ae.getD x bF) (m.af++bu (t.ae.take x) m.af.length).length=m.af++bu (t.ae.take (x+1)) m.af.length:=by
   grind [IM]
  exact⟨⟨c1,by have:=Vt c;omega⟩,ω,ω,x+1,c6,bK ω,by rw[hs],hs,ω,ω⟩
 ·grind
 ·have⟨q,s,u⟩:=wf.1.vg p;have q:(t.ae.length:Int)=1:=q;have s:1<=t.cap:=s;have u:t.cap<=4:=u;have c:0<t.ae.length:=ω;have D:t.ae=[t.ae.getD 0 bF]:=by
   match hk:t.ae,(show t.ae.length=1 by omega) with
   | [k],_=>rfl
  have qX:aQ t.ae=bt (t.ae.getD 0 bF):=by grind [aQ]
  have e8:gG .i64 2 t.cap=2*t.cap:=xK ω ω;have w:ay .i64 (2*t.cap) 1=2*t.cap+1:=ba ω ω;have v:ay .i64 (a:Int) 1=(fO t a 0:Nat):=by grind [ky]
  simp only[e8,w,v,Zad];have⟨c1,c2,c3,c4,c5,c6⟩:=h.go c (m.af++[aW.mk 4 (2*t.cap) 0 []]) (by grind);have b:lk (cu (List.drop (fO t a 0) m.bz)).1=t.ae.getD 0 bF:=c2;rw[b,c3];have hs:m.af++[aW.mk 4 (2*t.cap) 0 []]++bS (t.ae.getD 0 bF) (m.af++[aW.mk 4 (2*t.cap) 0 []]).length++[aW.mk 4 (2*t.cap+1) 0 []]=m.af++bS t m.af.length:=by
   grind [bu]
  refine⟨ω,⟨c1,by have:=Vt c;omega⟩,?_,by rw[hs],hs⟩;grind
 ·grind
theorem QrH (y:vt) (hy:On.pre y):Vp y:=by
 have⟨m,i⟩:=y;obtain⟨B,F⟩:ln (m,i)/\(eD.t (m,i)).op=4:=hy;obtain⟨a,rfl,h⟩:=ln.out B;have T:lk (cu (List.drop a m.bz)).1=eD.t (m,(a:Int)):=rfl;have O:=h.cod;have Q:∀k,Ff (m,(a:Int)) k=m.af++fH ((eD.t (m,(a:Int))).ae.take k) m.af.length 0:=λk=>by grind [Ff,aC]
 have P:∀k,Fh (m,(a:Int)) k=jR ((eD.t (m,(a:Int))).ae.take k) m.af.length:=λk=>by grind [Fh,aC]
 have S:CG (m,(a:Int))=m.af++kj (eD.t (m,(a:Int))).ae m.af.length 0:=by unfold CG;rw[aC]
 have N:CH (m,(a:Int))=jR (eD.t (m,(a:Int))).ae.dropLast m.af.length:=by unfold CH;rw[aC]
 have U:∀j,Fi (m,(a:Int)) j=((CH (m,(a:Int))).take j).foldl (ll (ir (m,(a:Int))).length) (CG (m,(a:Int))):=λj=>by unfold Fi;rw[aC]
 have R:∀k,vv (m,(a:Int)) k=(fO (eD.t (m,(a:Int))) a k:Nat):=Lw h;unfold Vp;simp only[Zad,T,Q,P,U,R,O,S,N];generalize eD.t (m,(a:Int))=t at*
 have⟨g1,g2⟩:=h.ndx;have⟨b1,b2⟩:=h.num;rw[g2];have wf:=(iQ _).mp h.wf;have J:=h.fit;have o:=lq t m.af.length;rw[Zaa ω,Zaa ω,Zaa ω,Zaa ω,Zac F] at o;have di:=size_eq t;unfold pF at di;rw[Zaa ω,Zac F] at di;have X:2<=t.ae.length:=by have h:=wf.1.aH F;simp only at h;omega
 have g:t.ae=t.ae.dropLast++[t.ae.getD (t.ae.length-1) bF]:=by
  conv=>lhs;rw[<-ZaM (l:=t.ae),show t.ae.length=(t.ae.length-1)+1 by omega]
  grind [cq]
 have r:t.ae.take (t.ae.length-1)=t.ae.dropLast:=by grind
 have D:nf t.ae.dropLast:=by rw[<-r];exact wf.2.2.take _
 simp only[bL,bC,au,dq,br,Zad,aT,ZaX,ZaY,ZaZ];have A:ay .i64 (a:Int) 1=(fO t a 0:Nat):=by rw[ba ω ω,ky];rfl
 have K:cx .i64 (t.ae.length:Int) 1=((t.ae.length-1:Nat):Int):=A0 ω ω;refine⟨⟨ω,ω,⟨0,by rfl,A,rfl,by simp[fH],by simp[fH],ω⟩,λx hx=>⟨λe=>?_,λe=>ω⟩⟩,⟨0,rfl,by simp,rfl,Zaj _⟩,λj hj=>⟨λe=>?_,λe=>?_⟩⟩
 ·have d:x<t.ae.length:=ω;have H:=Bl t.ae x d;have hl:=Ζ (wf.2.2.take x) m.af.length 0;have s:(t.ae.take x).length=x:=by grind
  have c:(m.af++fH (t.ae.take x) m.af.length 0).length=m.af.length+(aQ (t.ae.take x)+2*x):=by grind
  refine⟨ω,ω,λel=>?_,λel=>?_⟩
  ·have E:x=t.ae.length-1:=ω;have⟨c1,c2,c3,c4,c5,c6⟩:=h.go d (m.af++fH (t.ae.take x) m.af.length 0) ω;have f:lk (cu (List.drop (fO t a x) m.bz)).1=t.ae.getD x bF:=c2;rw[f,c3];have hs:m.af++fH (t.ae.take x) m.af.length 0++bS (t.ae.getD x bF) (m.af++fH (t.ae.take x) m.af.length 0).length=m.af++kj t.ae m.af.length 0:=by
    conv=>rhs;rw[g,qu]
    rw[c,E,r,ZaD,show t.ae.dropLast.length=t.ae.length-1 by simp]
   exact⟨⟨c1,by have:=Vt d;omega⟩,by grind,by rw[hs],hs⟩
  ·have⟨c1,c2,c3,c4,c5,c6⟩:=h.go d (m.af++fH (t.ae.take x) m.af.length 0++[aW.mk 2 0 0 []]) (by grind);have f:lk (cu (List.drop (fO t a x) m.bz)).1=t.ae.getD x bF:=c2;rw[f,c3];have hs:fx (((m.af++fH (t.ae.take x) m.af.length 0++[aW.mk 2 0 0 []]++bS (t.ae.getD x bF) (m.af++fH (t.ae.take x) m.af.length 0++[aW.mk 2 0 0 []]).length++[aW.mk 3 0 0 []]).length:Nat):Int) false (m.af++fH (t.ae.take x) m.af.length 0++[aW.mk 2 0 0 []]++bS (t.ae.getD x bF) (m.af++fH (t.ae.take x) m.af.length 0++[aW.mk 2 0 0 []]).length++[aW.mk 3 0 0 []]) ((m.af++fH (t.ae.take x) m.af.length 0).length:Nat)=m.af++fH (t.ae.take (x+1)) m.af.length 0:=by
    rw[cq bF d,Ot,s];have M:∀(p:List aW) (u v:aW) (q:List aW),p++[u]++q++[v]=p++u::(q++[v]):=λp u v q=>by simp
    rw[M,sP rfl,ZaD,c];have z:(m.af++fH (t.ae.take x) m.af.length 0++[(aW.mk 2 0 0 []:aW)]).length=m.af.length+(aQ (t.ae.take x)+2*x)+1:=by grind
    rw[z];have n2:(m.af++(fH (t.ae.take x) m.af.length 0++(aW.mk 2 0 0 []:aW)::(bS (t.ae.getD x bF) (m.af.length+(aQ (t.ae.take x)+2*x)+1)++[aW.mk 3 0 0 []]))).length=m.af.length+(aQ (t.ae.take x)+2*x)+2+bt (t.ae.getD x bF):=by
     grind
    simp only[ZaD,n2];rfl
   have n3:(m.af++fH (t.ae.take x) m.af.length 0++[aW.mk 2 0 0 []]++bS (t.ae.getD x bF) (m.af++fH (t.ae.take x) m.af.length 0++[aW.mk 2 0 0 []]).length).length=m.af.length+(aQ (t.ae.take x)+2*x)+1+bt (t.ae.getD x bF):=by
    grind
   refine⟨ω,⟨c1,Vt d⟩,ω,?_,⟨?_,ω,?_⟩,ω,ω,x+1,?_,c6,bK ω,by rw[hs],hs,ω,ω⟩
   ·grind [Fp]
   ·grind
   ·grind
   ·rw[cq bF d,Ou,s,n3]
 ·have d:j<(jR t.ae.dropLast m.af.length).length:=ω;have L:(List.foldl (ll ((m.af++bS t m.af.length).length:Nat)) (m.af++kj t.ae m.af.length 0) ((jR t.ae.dropLast m.af.length).take j)).length=(m.af++bS t m.af.length).length:=by
   grind [Bj,lu]
  have Y:∀(l:List ah) (b:Nat) (v:Int),v∈jR l b->0<=v/\v<(b+aQ l+2*l.length:Nat):=λl=>by
   induction l with
   | nil=>intro b v w;cases w
   | cons u l ih=>
    intro b v w;rw[aQ,Zae];rcases List.mem_cons.mp w with w | w
    ·omega
    ·grind
  have V:(jR t.ae.dropLast m.af.length).getD j 0∈jR t.ae.dropLast m.af.length:=by grind
  have⟨v1,v2⟩:=Y _ _ _ V;have Z:aQ t.ae.dropLast<=aQ t.ae:=by
   grind [tS]
  have z:(m.af++bS t m.af.length).length=m.af.length+(aQ t.ae+2*(t.ae.length-1)):=by grind [lu]
  have I:t.ae.dropLast.length=t.ae.length-1:=by simp
  have C:∀(n:List Int) (l:List aW) (e:Int),n.take (j+1)=n.take j++[n.getD j 0]->List.foldl (ll e) l (n.take (j+1))=ll e (List.foldl (ll e) l (n.take j)) (n.getD j 0):=λn l e h=>by grind
  have G:=C _ (m.af++kj t.ae m.af.length 0) ((m.af++bS t m.af.length).length:Nat) (cq 0 d);have W:=Fp t.ae.dropLast m.af.length;rw[L];refine⟨ω,e,v1,ω,j+1,bK ω,?_,?_,ω,ω⟩
  ·rw[G,iS,L]
  ·rw[G];rfl
 ·have d:j=(jR t.ae.dropLast m.af.length).length:=ω;have hs:List.foldl (ll ((m.af++bS t m.af.length).length:Nat)) (m.af++kj t.ae m.af.length 0) (jR t.ae.dropLast m.af.length)=m.af++bS t m.af.length:=by
   have z:(m.af++bS t m.af.length).length=m.af.length+aQ t.ae+2*(t.ae.length-1):=by grind [lu]
   rw[z];have:=CI (e:=m.af.length+aQ t.ae+2*(t.ae.length-1)) t.ae.dropLast m.af (bS (t.ae.getD (t.ae.length-1) bF) (m.af.length+(aQ t.ae.dropLast+2*t.ae.dropLast.length))) m.af.length D rfl;grind [qu]
  grind
theorem AtK.QrI (h:AtK m a Z) (g:x<Z.ae.length):fO Z a x<m.cF.length/\m.cF.getD (fO Z a x) 0=eP (bt (Z.ae.getD x bF)):=by
 have⟨i,c⟩:=h.sz;have f:Z.ae=Z.ae.take x++(Z.ae.getD x bF::Z.ae.drop (x+1)):=by
  simp_all
 have d:jK Z=(eP (bt Z)::fW (Z.ae.take x))++(jK (Z.ae.getD x bF)++fW (Z.ae.drop (x+1))):=by
  grind [rB,Ky,fW]
 rw[d] at c;have e:=yH (b:=fO Z a x) c (by grind [fO,lg]);grind [rB,Lv]
theorem QrJ (y:vt) (hy:Oo.pre y):Vq y:=by
 have⟨m,i⟩:=y;obtain⟨K,R⟩:ln (m,i)/\(eD.t (m,i)).op=5:=hy;obtain⟨a,rfl,h⟩:=ln.out K;have eT:lk (cu (List.drop a m.bz)).1=eD.t (m,(a:Int)):=rfl;have Z:=h.cod;have eK:∀k,sO (m,(a:Int)) k=m.af++iq (bu (eD.t (m,(a:Int))).ae) (aQ (eD.t (m,(a:Int))).ae) k m.af.length:=λk=>by grind [sO,aC]
 have Y:Oq (m,(a:Int))=(sO (m,(a:Int)) (eD.t (m,(a:Int))).mn.toNat).length:=by grind [Oq,aC]
 have eS:∀k,zL (m,(a:Int)) k=sO (m,(a:Int)) (eD.t (m,(a:Int))).mn.toNat++fp (λ_=>aW.mk 2 0 0 []) (bu (eD.t (m,(a:Int))).ae) (aQ (eD.t (m,(a:Int))).ae) k (Oq (m,(a:Int))):=λk=>by unfold zL;rw[aC]
 have eJ:∀k,vz (m,(a:Int)) k=jL (aQ (eD.t (m,(a:Int))).ae) k (Oq (m,(a:Int))):=λk=>by unfold vz;rw[aC]
 have eM:lK (m,(a:Int))=lj (eD.t (m,(a:Int))).mn (eD.t (m,(a:Int))).mx:=by unfold lK;rw[aC]
 have eX:∀j,Fj (m,(a:Int)) j=((vz (m,(a:Int)) (lK (m,(a:Int)))).take j).foldl (fx (ir (m,(a:Int))).length (eD.t (m,(a:Int))).lz) (zL (m,(a:Int)) (lK (m,(a:Int)))):=λj=>by unfold Fj;rw[aC]
 unfold Vq;simp only[Zad,eT,eX,Z,eJ,eS,Y,eM,eK];generalize eD.t (m,(a:Int))=t at*
 have⟨g1,g2⟩:=h.ndx;have⟨b1,b2⟩:=h.num;rw[g2];have wf:=(iQ _).mp h.wf;have T:=h.fit;have d:=lq t m.af.length;rw[Zaa ω,Zaa ω,Zaa ω,Zaa ω,Zaa ω,Zac R] at d;unfold IK at d;have di:=size_eq t;unfold pF at di;rw[Zaa ω,Zaa ω,Zaa ω,Zac R] at di;have⟨V,W,X,w4⟩:=wf.1.rep R;have V:(t.ae.length:Int)=1:=V;have W:0<=t.mn:=W;have X:t.mn<=30:=X;have w4:t.mx= -1\/(t.mn<=t.mx/\t.mx<=30):=w4;have B:0<t.ae.length:=ω;have hks:t.ae=[t.ae.getD 0 bF]:=by
  match hk:t.ae,(show t.ae.length=1 by omega) with
  | [k],_=>rfl
 have qX:aQ t.ae=bt (t.ae.getD 0 bF):=by grind [aQ]
 have hcl:∀b,bu t.ae b=bS (t.ae.getD 0 bF) b:=λb=>by grind [bu]
 have f:∀b,(bu t.ae b).length=aQ t.ae:=λb=>nh _ b wf.2.2
 have hrl:=λn=>pH f n m.af.length
 have I:ay .i64 (a:Int) 1=(fO t a 0:Nat):=by grind [ky]
 have⟨s1,U⟩:=h.QrI B;rw[<-qX] at U;have L:(t.ae.length:Int)=t.nk:=wf.2.1.symm;have hk1:=ky t a;have s:=Vt B;have hN:t.mn=(t.mn.toNat:Int):=ω
 
 have go:∀c:List aW,c.length+aQ t.ae<=400->ln (⟨c,m.bz,m.cF,m.aS⟩,(fO t a 0:Nat))/\ir (⟨c,m.bz,m.cF,m.aS⟩,(fO t a 0:Nat))=c++bu t.ae c.length:=λc r=>by
  rw[qX] at r;have⟨c1,c2,c3,c4,c5,c6⟩:=h.go B c r;grind
 have c2:∀c:List aW,c.length+aQ t.ae<=400->lk (cu (List.drop (fO t a 0) m.bz)).1=t.ae.getD 0 bF:=λc r=>by
  rw[qX] at r;exact(h.go B c r).2.1
 simp only[bL,bC,I,au,dq,br,Zad,aT,ZaX,ZaY,ZaZ,L,U];generalize aQ t.ae=sz at*
 generalize hNn:t.mn.toNat=N at*
 refine⟨ω,ω,⟨ω,ω,λe=>⟨⟨0,rfl,by simp[iq],by simp[iq],Zaj _⟩,λx hx=>⟨λE=>?_,λE=>?_⟩⟩,λe=>?_⟩,λem=>?_,λem=>?_⟩
 ·have o:x+1<=N:=ω;have hle:x*sz+sz<=N*sz:=by rw[<-ZaV];exact Zbc _ o
  have H:m.af.length+N*sz<=400:=by grind
  have C:(m.af++iq (bu t.ae) sz x m.af.length).length=m.af.length+x*sz:=by grind
  have⟨z,A⟩:=go (m.af++iq (bu t.ae) sz x m.af.length) ω;have hs:m.af++iq (bu t.ae) sz x m.af.length++bu t.ae (m.af++iq (bu t.ae) sz x m.af.length).length=m.af++iq (bu t.ae) sz (x+1) m.af.length:=by
   grind [Bg]
  grind [bK]
 ·grind
 ·have hz:sz=0:=by unfold eP at e;omega
  grind
 ·rw[Zac em] at di d;have C:(m.af++iq (bu t.ae) sz N m.af.length).length=m.af.length+N*sz:=by grind
  have F:m.af++bS t m.af.length=(m.af++iq (bu t.ae) sz N m.af.length)++hZ t.lz (m.af.length+N*sz) (m.af.length+N*sz+sz+2)::(bu t.ae (m.af.length+N*sz+1)++[⟨3,(m.af.length+N*sz:Nat),0,[]⟩]):=by
   grind
  rw[F,<-C];generalize m.af++iq (bu t.ae) sz N m.af.length=c0 at*
  have⟨z,A⟩:=go (c0++[aW.mk 2 0 0 []]) (by grind);have D:=c2 (c0++[aW.mk 2 0 0 []]) (by grind);have P:(c0++[aW.mk 2 0 0 []]).length=c0.length+1:=by simp
  rw[D,A,P];have Q:(c0++[aW.mk 2 0 0 []]++bu t.ae (c0.length+1)++[aW.mk 3 c0.length 0 []]).length=c0.length+sz+2:=by grind
  have hs:fx ((c0++[aW.mk 2 0 0 []]++bu t.ae (c0.length+1)++[aW.mk 3 c0.length 0 []]).length:Nat) t.lz (c0++[aW.mk 2 0 0 []]++bu t.ae (c0.length+1)++[aW.mk 3 c0.length 0 []]) (c0.length:Nat)=c0++hZ t.lz c0.length (c0.length+sz+2)::(bu t.ae (c0.length+1)++[aW.mk 3 c0.length 0 []]):=by
   rw[Q];have E:∀(p:List aW) (u v:aW) (q:List aW),p++[u]++q++[v]=p++u::(q++[v]):=λp u v q=>by simp
   rw[E,sP rfl];unfold hZ;cases t.lz<;>simp
  have n4:(c0++[aW.mk 2 0 0 []]++bu t.ae (c0.length+1)).length=c0.length+sz+1:=by grind
  exact⟨ω,⟨z,s⟩,ω,⟨ω,ω,ω⟩,by rw[hs],hs⟩
 ·rw[Zaa em] at di d;have C:(m.af++iq (bu t.ae) sz N m.af.length).length=m.af.length+N*sz:=by grind
  have F:m.af++bS t m.af.length=(m.af++iq (bu t.ae) sz N m.af.length)++fp (λi=>hZ t.lz i (m.af.length+N*sz+lj t.mn t.mx*(sz+1))) (bu t.ae) sz (lj t.mn t.mx) (m.af.length+N*sz):=by
   grind
  have hM:cx .i64 t.mx t.mn=((lj t.mn t.mx:Nat):Int):=by
   grind [lj]
  have G:t.mx.toNat-N=lj t.mn t.mx:=by unfold lj;omega
  have hMb:lj t.mn t.mx<=30:=ω;rw[G] at di;rw[F,hM,<-C];generalize lj t.mn t.mx=M at*
  generalize m.af++iq (bu t.ae) sz N m.af.length=c0 at*
  have O:∀(g:Nat->aW) (k:Nat),(fp g (bu t.ae) sz k c0.length).length=k*(sz+1):=λg k=>pI f k _
  have J:∀k,(jL sz k c0.length).length=k:=λk=>Fl k _
  refine⟨⟨0,by rfl,rfl,by simp[fp],by simp[fp],Zaj _⟩,λx hx=>⟨λe=>?_,λe=>⟨⟨0,?_,rfl,?_,?_,Zaj _⟩,λj hj=>⟨λe2=>?_,λe2=>?_⟩⟩⟩⟩
  ·have o:x+1<=M:=ω;have hle:x*(sz+1)+(sz+1)<=M*(sz+1):=by rw[<-ZaV];exact Zbc _ o
   have P:(c0++fp (λ_=>aW.mk 2 0 0 []) (bu t.ae) sz x c0.length).length=c0.length+x*(sz+1):=by grind
   have Q:(c0++fp (λ_=>aW.mk 2 0 0 []) (bu t.ae) sz x c0.length++[aW.mk 2 0 0 []]).length=c0.length+x*(sz+1)+1:=by grind
   have⟨z,A⟩:=go (c0++fp (λ_=>aW.mk 2 0 0 []) (bu t.ae) sz x c0.length++[aW.mk 2 0 0 []]) ω;have D:=c2 (c0++fp (λ_=>aW.mk 2 0 0 []) (bu t.ae) sz x c0.length++[aW.mk 2 0 0 []]) ω;have hs:c0++fp (λ_=>aW.mk 2 0 0 []) (bu t.ae) sz x c0.length++[aW.mk 2 0 0 []]++bu t.ae (c0++fp (λ_=>aW.mk 2 0 0 []) (bu t.ae) sz x c0.length++[aW.mk 2 0 0 []]).length=c0++fp (λ_=>aW.mk 2 0 0 []) (bu t.ae) sz (x+1) c0.length:=by
    rw[Bh,Q];simp
   rw[D,A];refine⟨ω,?_,⟨z,s⟩,x+1,?_,bK ω,by rw[hs],hs,ω,ω⟩
   ·grind
   ·rw[Bi,P]
  ·grind
  ·grind
  ·grind
  ·have w:x=M:=ω;subst w;rw[J] at e2;have e3:j<(jL sz x c0.length).length:=by grind
   have n0:(List.foldl (fx ((c0++fp (λi=>hZ t.lz i (c0.length+x*(sz+1))) (bu t.ae) sz x c0.length).length:Nat) t.lz) (c0++fp (λ_=>aW.mk 2 0 0 []) (bu t.ae) sz x c0.length) ((jL sz x c0.length).take j)).length=c0.length+x*(sz+1):=by grind [Bk]
   have n5:(c0++fp (λi=>hZ t.lz i (c0.length+x*(sz+1))) (bu t.ae) sz x c0.length).length=c0.length+x*(sz+1):=by grind
   have hp:∀(k b:Nat) (v:Int),v∈jL sz k b->0<=v/\v<(b+k*(sz+1):Nat):=λk=>by
    induction k with
    | zero=>intro b v hv;cases hv
    | succ k ih=>
     grind [jL]
   have⟨v1,v2⟩:=hp _ _ _ (show(jL sz x c0.length).getD j 0∈jL sz x c0.length by grind);have S:∀(l:List aW) (e:Int),List.foldl (fx e t.lz) l ((jL sz x c0.length).take (j+1))=fx e t.lz (List.foldl (fx e t.lz) l ((jL sz x c0.length).take j)) ((jL sz x c0.length).getD j 0):=λl e=>by grind [cq]
   rw[n0];rw[n5] at*
   refine⟨ω,ω,⟨ω,v1,v2⟩,j+1,bK ω,?_,?_,ω,ω⟩
   ·rw[S,ep]
   ·rw[S]
  ·have w:x=M:=ω;have hs:List.foldl (fx ((c0++fp (λi=>hZ t.lz i (c0.length+j*(sz+1))) (bu t.ae) sz j c0.length).length:Nat) t.lz) (c0++fp (λ_=>aW.mk 2 0 0 []) (bu t.ae) sz j c0.length) ((jL sz j c0.length).take j)=c0++fp (λi=>hZ t.lz i (c0.length+j*(sz+1))) (bu t.ae) sz j c0.length:=by
    rw[ZaA (by grind),Zab,O];exact CJ f j c0 c0.length rfl
   grind
def rC (l:List Nd):ah:=lk (cu l).1
def qF (t:ah) (r b:Nat):List aW:=⟨4,0,0,[]⟩::(bS t (b+1)++[⟨4,1,0,[]⟩,⟨7,r,0,[]⟩])
def ni:List (List Nd)->Nat->List aW->List Int->(List aW×List Int)×Int×Int
 | [],_,c,s=>((c,s),0,0)
 | l::ls,r,c,s=>if dS l=false then(([],[]),1,r) else if 400<c.length+bt (rC l)+3 then(([],[]),12,r) else ni ls (r+1) (c++qF (rC l) r c.length) (s++[(c.length:Int)])
def IN (y:List (List Nd)):(List aW×List Int)×Int×Int:=if 8<y.length then(([],[]),13,8) else ni y 0 [] []
def bZ (y:List (List Nd)):(List aW×List Int)×Int×Int:=lk (IN y)
def Qj9 (args:List (AV D.E)) (s:St D.E):C (List (List Nd)):=match args with
 | [a]=>az (aL D s 9 a) λl=>.ret (l:List (List Nd))
 | _=>.fail
def pJ (y:List (List Nd)):Prop:=y.length<=1000000/\∀l∈y,∀x∈l,iO x
def IP:bh D:=bO 76 (List (List Nd)) Qj9 pJ (λy=>[.list 9 y]) λy=>.tuple [.agg [.list 8 (bZ y).1.1,.list 5 (bZ y).1.2],Qvo (bZ y).2.1,Qvo (bZ y).2.2]
structure CmX where
 c:List aW
 s:List Int
 n:List Nd
 z:List Int
 e:List Int
 r:Nat
def Η (y:List (List Nd)) (x:CmX):Prop:=x.r<=y.length/\y.length<=8/\x.c.length<=400/\x.s.length=x.r/\ni (y.drop x.r) x.r x.c x.s=bZ y
def QrK (y:IP.Y):cH D:=⟨[],[],[(250,⟨CmX,[15,16],λx=>[(2,.ptr 0 0),(3,.num .i64 0),(4,.num .i64 0),(5,.ptr 1 0),(6,.grow 5 x.s 3),(17,Qvo x.r)],[],λx=>[(0,.cells [.dF,.dF] 88 false),(1,.cells [.own 2 4 (ag x.c),.list 7 x.n,.list 5 x.z,.list 5 x.e] 197 false),(2,.arr 8 x.c 203 false),(3,.tok 5 3)],4,Η y,λx=>y.length-x.r⟩)],[],1,[]⟩
def Vu (y:List (List Nd)):Prop:=let k:=(bZ y).2.2;let q1:=(bZ y).2.1;aj (aw 8 (ag y)) ([]=(bZ y).1.1/\[]=(bZ y).1.2/\13=q1/\8=k/\True) ((∃z:CmX,aa [y] (aa [ag y] ([]=z.s/\0=((z.r:Nat):Int)/\0=ag z.c/\[]=z.n/\[]=z.z/\[]=z.e/\[]=z.c/\(Iv (Η y z)))))/\(∀x:CmX,let f:=((x.r:Nat):Int);let d:=gt [] y f.toNat;let g:=ag d;let o:=bM x.s [(x.c.length:Int)];let i:=oF g 0;let b:=nw.mk d i 0;let t:=ag (x.c++[aW.mk 4 0 0 []]);let q:=gt 0 (F7 b) 0;let l:=aw 400 (ay .i64 (ay .i64 (ag x.c) q) 3);let h:=(eD.mk (x.c++[aW.mk 4 0 0 []]) d (F7 b) (IG b),(0:Int));let a:=ir h;let m:=ag (a++[aW.mk 4 1 0 []]);let j:=λp:Prop=>aa [d] (aa ([ag i,0]:List Int) (aa [i] p));(Iv (Η y x))->aj (aw f (ag y)) (aG 0 f/\aw f (ag y)/\Iv (cE d)/\aa [d] (aj (!(dS d)) ([]=(bZ y).1.1/\[]=(bZ y).1.2/\1=q1/\f=k/\True) (aG 0 g/\aG g g/\bJ g 8/\aG 0 g/\aG g g/\bJ g 8/\Iv (Om b)/\j (Iv (Om b)/\j (Tt 1 (aw 0 (ag i)/\aa [ag x.c,ag i,q] (aj l ([]=(bZ y).1.1/\[]=(bZ y).1.2/\12=q1/\f=k/\True) (Iv (x.c.length<=1000)/\aa ([4,0,0]:List Int) (aa ([[]]:List (List (Int×Int))) (aa [ag x.c] (aa [d] (aa [F7 b,IG b] (aa [x.c] (bJ (ag o) 8/\Iv (ln h)/\aa ([0,t]:List Int) (aa [d] (aa [F7 b,IG b] (aa [x.c++[aW.mk 4 0 0 []]] (Iv (a.length<=1000)/\aa ([4,1,0]:List Int) (aa ([[]]:List (List (Int×Int))) (aa [ag a] (aa [d] (aa [F7 b,IG b] (aa [a] (Iv ((a++[aW.mk 4 1 0 []]).length<=1000)/\aa ([7,f,0]:List Int) (aa ([[]]:List (List (Int×Int))) (aa [m] (aa [d] (aa [F7 b,IG b] (aa [a++[aW.mk 4 1 0 []]] (∃z:CmX,aa [y] (aa [ag y] (o=z.s/\ay .i64 f 1=((z.r:Nat):Int)/\ag ((a++[aW.mk 4 1 0 []])++[aW.mk 7 f 0 []])=ag z.c/\d=z.n/\F7 b=z.z/\IG b=z.e/\((a++[aW.mk 4 1 0 []])++[aW.mk 7 f 0 []])=z.c/\(Iv (Η y z/\(y.length-z.r)<(y.length-x.r))))))))))))))))))))))))))))))))))) (x.c=(bZ y).1.1/\x.s=(bZ y).1.2/\0=q1/\0=k/\True)))
inductive Fk where
 | n | a | r
noncomputable section
def fkC:Fk->bh D
 | .n=>IL | .a=>On | .r=>Oo
def QrM:∀i,(fkC i).Y->Nat
 | .n=>λy=>2*dm (eD.t y)+1 | .a=>λy=>2*dm (eD.t y) | .r=>λy=>2*dm (eD.t y)
def fkF:Fk->Func
 | .n=>f120 | .a=>f177 | .r=>f178
def Qkb:Fk->s7
 | .n=>[vu] | .a=>[vu,Fc] | .r=>[vu,Fc]
def fkO:∀i,(fkC i).Y->cH D
 | .n=>Qj6 | .a=>Qj7 | .r=>Qj8
def QrN:∀i,Ok (fkC i):=
 xH [.n,.a,.r] fkC QrM (fn:=fkF) (tab:=Qkb) (fI:=fkO)
  (λi=>match i with
   | .n=>Lu | .a=>⟨Lu,QcB⟩ | .r=>⟨Lu,QcB⟩)
  (λi=>match i with
   | .n=>by kernel_rfl | .a=>by kernel_rfl | .r=>by kernel_rfl)
  (λi=>match i with
   | .n=>by kernel_rfl | .a=>by kernel_rfl | .r=>by kernel_rfl)
  λi=>match i with
   | .n=>λy b=>Eq.mp (Α y) (QrG y b) | .a=>λy b=>Eq.mp (Β y) (QrH y b) | .r=>λy b=>Eq.mp (Ε y) (QrJ y b)
end
theorem QrO (y:List (List Nd)) (J:IP.pre y):Vu y:=by
 obtain⟨h1,v⟩:y.length<=1000000/\∀l∈y,∀x∈l,iO x:=J;have i:bZ y=IN y:=by grind [bZ,aC]
 unfold Vu;simp only[bL,bC,au,dq,br,Zad,aT,Zan,Zao,Zah,ZaQ,ZaF];unfold IN at i;refine⟨λe=>?_,λe=>?_⟩
 ·grind
 ·rw[Zaa ω] at i;refine⟨⟨⟨[],[],[],[],[],0⟩,rfl,rfl,rfl,rfl,rfl,rfl,rfl,Zaj _,ω,Zaj _,rfl,i.symm⟩,λx I=>?_⟩;obtain⟨c,s,n,z,en,r⟩:=x;obtain⟨i1,i2,i3,i4,i5⟩:=I;simp only at i1 i3 i4 i5 ⊢;refine⟨λe2=>?_,λe2=>?_⟩
  ·have M:r<y.length:=ω;have D:y.drop r=y.getD r []::y.drop (r+1):=by simp_all
   have d:cE (y.getD r []):=v _ (by grind);rw[D,ni] at i5;generalize y.getD r []=l at*
   refine⟨e2,d,λq=>?_,λq=>?_⟩
   ·grind
   ·rw[Zaa (by grind)] at i5;obtain⟨t,h,L,u⟩:=jl q;have ht:rC l=t:=by
     have:=ki (a:=0) (r:=[]) h (show l.drop 0=aD t++[] by grind);assumption
    have f:(oF (l.length:Int) (0:Int)).length=l.length:=by simp[oF]
    have g:Om ⟨l,oF (l.length:Int) 0,0⟩:=⟨ZaQ _,f,u,t,[],h,by grind⟩;have K:nw.t ⟨l,oF (l.length:Int) 0,0⟩=t:=by assumption
    have H:∀s:List Int,s.length=l.length->kx (oF (l.length:Int) 0) 0 s=s:=λs hs=>by
     grind [kx]
    have F:(aD t).length=l.length:=by rw[L]
    have di:F7 ⟨l,oF (l.length:Int) 0,0⟩=jK t:=by grind [F7,aC,Fa]
    have j:IG ⟨l,oF (l.length:Int) 0,0⟩=qE t 0:=by grind [IG,aC,Fb]
    have p:0<l.length:=by grind [sM]
    have k:(jK t).getD 0 0=eP (bt t):=by rw[rB];rfl
    rw[ht] at i5;rw[di,j,k,f];have B:=IJ (bt t);rw[ba (a:=(c.length:Int)) (b:=eP (bt t)) ω ω,ba ω ω];have o:eP (bt t)=min (bt t:Int) 401:=rfl;refine⟨ω,ω,g,g,ω,λA=>?_,λA=>?_⟩
    ·grind
    ·rw[Zaa ω] at i5;have m:AtK ⟨c++[aW.mk 4 0 0 []],l,jK t,qE t 0⟩ 0 t:=⟨u,d,h,by grind,⟨[],by grind⟩,⟨[],by simp⟩,⟨[],by simp⟩⟩;have w:ir (⟨c++[aW.mk 4 0 0 []],l,jK t,qE t 0⟩,(0:Int))=c++[aW.mk 4 0 0 []]++bS t (c++[aW.mk 4 0 0 []]).length:=m.cod;have G:ln (⟨c++[aW.mk 4 0 0 []],l,jK t,qE t 0⟩,(0:Int)):=m.nda;have C:=iR t (c++[aW.mk 4 0 0 []]).length h;rw[w];have hs:c++[aW.mk 4 0 0 []]++bS t (c++[aW.mk 4 0 0 []]).length++[aW.mk 4 1 0 []]++[aW.mk 7 r 0 []]=c++qF t r c.length:=by
      unfold qF;simp
     have E:(c++qF t r c.length).length=c.length+bt t+3:=by
      grind
     refine⟨ω,by grind,G,?_,?_,⟨c++qF t r c.length,s++[(c.length:Int)],l,jK t,qE t 0,r+1⟩,rfl,bK ω,by rw[hs],rfl,rfl,rfl,hs,⟨show r+1<=y.length by omega,i2,show(c++qF t r c.length).length<=400 by omega,by simp[i4],i5⟩,show y.length-(r+1)<y.length-r by omega⟩
     ·grind
     ·grind
  ·grind [ni]
def Qkc (a:Ok dB):Ok IP:=okZ [Ie,szC,enC,vu,IL] f76 QrK ⟨Qck a,Qrs,Qrt,Lu,QrN .n⟩ QrO
def nmB (c:UInt8):Bool:=(97<=c.toNat&&c.toNat<=122)||(65<=c.toNat&&c.toNat<=90)||(48<=c.toNat&&c.toNat<=57)||c.toNat==45||c.toNat==95||c.toNat==46
def iZ (s:By):Bool:=decide (s≠[])&&decide (s.length<=32)&&s.all nmB
def IQ:bh D:=bO 111 By (λa _=>Y5 a) (λ_=>True) (λy=>[.str y]) λy=>.bool (iZ y)
def vA (y:By) (i:Nat):Prop:=i<=y.length/\∀j,j<i->nmB (y.getD j 0)
def QrP (y:IQ.Y):cH D:=⟨[],[],[(58,⟨Nat,[0,14],λi=>[(15,Qvo i)],[],λ_=>[],0,vA y,λi=>y.length-i⟩)],[],1,[]⟩
def Ov:bh D:=bO 78 By (λa _=>Y5 a) (λ_=>True) (λy=>[.str y]) λy=>.bool (iZ y)
def QrR (y:Ov.Y):cH D:=⟨[],[],[(58,⟨Nat,[0],λi=>[(3,Qvo i)],[],λ_=>[],0,vA y,λi=>y.length-i⟩)],[],1,[]⟩
def CL (l:List Row):Prop:=l.Pairwise λa b=>a.k<b.k
def IS:Row:=⟨[],0⟩
def lL (l:List Row) (k:By):Nat:=l.findIdx λr=>!decide (r.k<k)
def jM (l:List Row) (k:By):Bool:=l.any λr=>decide (r.k=k)
def rD (l:List Row) (k:By) (v:Int):List Row:=if jM l k=true then l.set (lL l k) ⟨(l.getD (lL l k) IS).k,v⟩ else l.take (lL l k)++⟨k,v⟩::l.drop (lL l k)
structure XJ where
 l:List Row
 k:By
 v:Int
def tbO (n:Nat) (l:List Row):List (Nat×AO D.E):=[(0,.cells [.own n 2 (ag l)] 271 false),(n,.arr 16 l 275 false)]
def Qft (v:AV D.E) (s:St D.E):C (List Row):=match v with
 | .ptr b _=>az (cR (s.h.get b)) λo=>match o with
  | .cells cs _ _=>match cs with
   | [c]=>az (aL D s 16 c) λc=>.ret (c:List Row)
   | _=>.fail
  | _=>.fail
 | _=>.fail
def TbP (y:XJ):Prop:=CL y.l/\y.l.length<=1000
def Ow:bh D:=⟨171,XJ,λa s=>match a with
 | [p,k]=>az (Qft p s) λl=>az (fY k) λk=>.ret ⟨l,k,0⟩
 | _=>.fail,TbP,λy=>[.ptr 0 0,.str y.k],λy=>tbO 1 y.l,λy=>.tuple [Qvo (lL y.l y.k),.bool (jM y.l y.k)],λy=>tbO 1 y.l,2,2⟩
def Vv (y:XJ) (x:Nat×Nat):Prop:=x.1<=x.2/\x.2<=y.l.length/\(∀j,j<x.1->(y.l.getD j IS).k<y.k)/\∀j,x.2<=j->j<y.l.length->¬(y.l.getD j IS).k<y.k
def QrT (y:Ow.Y):cH D:=⟨[],[],[(28,⟨Nat×Nat,[0,1],λx=>[(6,Qvo x.1),(7,Qvo x.2)],[],λ_=>tbO 1 y.l,2,Vv y,λx=>x.2-x.1⟩)],[],1,[]⟩
def IT:bh D:=⟨112,XJ,λa s=>match a with
 | [p,k,v]=>az (Qft p s) λl=>az (fY k) λk=>aP (cT v) λ_ v=>.ret ⟨l,k,v⟩
 | _=>.fail,TbP,λy=>[.ptr 0 0,.str y.k,Qvo y.v],λy=>tbO 1 y.l,λy=>.bool (!jM y.l y.k),λy=>tbO 2 (rD y.l y.k y.v),2,3⟩
def Vw:bh D:=⟨110,Unit,λ_ _=>.ret (),λ_=>True,λ_=>[],λ_=>[],λ_=>.ptr 0 0,λ_=>[(0,.cells [.own 1 2 0] 271 false),(1,.arr 16 [] 275 false)],0,2⟩
structure cj where
 r:List iX
 c:By
variable {y:By} {x:Nat} {l:List Row}
def Lx (a:List (AV D.E)) (s:St D.E):C cj:=match a with
 | [x]=>az (asAgg x) λcs=>match cs with
  | [r,c]=>az (aL D s 3 r) λr=>az (fY c) λc=>.ret ⟨r,c⟩
  | _=>.fail
 | _=>.fail
def CM (y:cj):AV D.E:=.agg [.list 3 y.r,.str y.c]
def Vx:bh D:=bO 74 cj Lx (λy=>y.r.length<=1000) (λy=>[CM y]) CM
def Vy (y:List UInt8):Prop:=let c:=y.length;let h:=λp:Prop=>RAH y (dD y) p;aj (seq y []) (false=iZ y/\True) (aj (aw 32 (dD y)) (false=iZ y/\True) ((∃z:Nat,h (0=(z:Int)/\(Iv (vA y z))))/\(∀x:Nat,let a:=sat y (x:Int);let d:=aw (x:Int) (dD y);let b:Prop:=(∃z:Nat,h (ay .i64 (x:Int) 1=(z:Int)/\(Iv (vA y z/\(c-z)<(c-x)))));let e:Prop:=(aj (aB a 45) (b) (aj (aB a 95) (b) (aj (!(aB a 46)) (false=iZ y/\True) (b))));let f:Prop:=(aj (aG 48 a) (aj (aG a 57) (b) (e)) (e));let g:Prop:=(aj (aG 65 a) (aj (aG a 90) (b) (f)) (f));(Iv (vA y x))->aj d (aG 0 (x:Int)/\d/\aj (aG 97 a) (aj (aG a 122) (b) (g)) (g)) (true=iZ y/\True))))
def Vz (y:List UInt8):Prop:=let c:=y.length;let h:=λp:Prop=>RAG y p;aj (seq y []) (false=iZ y/\True) (aj (aw 32 (dD y)) (false=iZ y/\True) ((∃z:Nat,h (0=(z:Int)/\(Iv (vA y z))))/\(∀x:Nat,let a:=sat y (x:Int);let d:=aw (x:Int) (dD y);let b:Prop:=(∃z:Nat,h (ay .i64 (x:Int) 1=(z:Int)/\(Iv (vA y z/\(c-z)<(c-x)))));let e:Prop:=(aj (!(aB a 45)) (aj (!(aB a 95)) (aj (!(aB a 46)) (false=iZ y/\True) (b)) (b)) (b));let f:Prop:=(aj (aw a 48) (e) (aj (aw 57 a) (e) (b)));let g:Prop:=(aj (aw a 65) (f) (aj (aw 90 a) (f) (b)));(Iv (vA y x))->aj d (aG 0 (x:Int)/\d/\aj (aw a 97) (g) (aj (aw 122 a) (g) (b))) (true=iZ y/\True))))
def VA (y:XJ):Prop:=let b:=ag y.l;let d:=λp:Prop=>RAH b y.l p;RAG b ((∃z:Nat×Nat,aa [y.k] (0=(z.1:Int)/\b=(z.2:Int)/\d ((Iv (Vv y z)))))/\(∀x:Nat×Nat,let a:=(x.1:Int);let e:=(x.2:Int);let c:=XT .i64 (ay .i64 a e) 2;let f:=slt (gt (Row.mk [] 0) y.l c.toNat).k y.k;(Iv (Vv y x))->aj (aw a e) (Tt 1 (aG 0 c/\aw c b/\aj f (∃z:Nat×Nat,aa [y.k] (ay .i64 c 1=(z.1:Int)/\e=(z.2:Int)/\d ((Iv (Vv y z/\(z.2-z.1)<(x.2-x.1)))))) (∃z:Nat×Nat,aa [y.k] (a=(z.1:Int)/\c=(z.2:Int)/\d ((Iv (Vv y z/\(z.2-z.1)<(x.2-x.1)))))))) (aj (aw a b) (aG 0 a/\aw a b/\aa [b,b] (aa [(gt (Row.mk [] 0) y.l a.toNat).k] (a=((lL y.l y.k:Nat):Int)/\seq (gt (Row.mk [] 0) y.l a.toNat).k y.k=jM y.l y.k/\d (True)))) (aa [b] (a=((lL y.l y.k:Nat):Int)/\false=jM y.l y.k/\d (True))))))
def QcC (y:Unit):Prop:=(0:Int)=(0:Int)/\aa ([[]]:List (List Row)) (True)
def QcD (y:cj):Prop:=bJ (ag y.r) 32/\aa [y.r] (aa [y.c] (True))
theorem Ly (c:UInt8):nmB c↔(97<=c.toNat/\c.toNat<=122)\/(65<=c.toNat/\c.toNat<=90)\/(48<=c.toNat/\c.toNat<=57)\/c.toNat=45\/c.toNat=95\/c.toNat=46:=by
 grind [nmB]
theorem Fq (h:vA y x) (b:x<y.length) (h0:y≠[]) (h1:y.length<=32):(nmB (y.getD x 0)->∃z:Nat,ay .i64 (x:Int) 1=(z:Int)/\vA y z/\y.length-z<y.length-x)/\(¬nmB (y.getD x 0)->false=iZ y):=by
 refine⟨λh=>⟨x+1,bK ω,⟨b,λj c=>?_⟩,ω⟩,λh=>?_⟩
 ·rename_i a
  rcases Zbm j x with e | e
  ·exact a.2 j e
  ·grind
 ·grind [iZ]
theorem LA (h:vA y y.length) (h0:y≠[]) (h1:y.length<=32):true=iZ y:=by
 unfold iZ;symm;simp only[ZaW,ZaP,List.all_eq_true];refine⟨⟨h0,h1⟩,λc a=>?_⟩;obtain⟨i,hi,rfl⟩:=Za3 a;have:=h.2 i hi;grind
theorem Qke (y:By) (_:IQ.pre y):Vy y/\Vz y:=by
 unfold Vy Vz;have hs:∀x:Nat,sat y (x:Int)=((y.getD x 0).toNat:Int):=λ_=>rfl
 simp only[bL,bC,ib,xJ,hs,Zan,Zao];have f:∀{s:By},seq s []=false↔s≠[]:=λ{s}=>by grind
 have c:y=[]->false=iZ y:=λh=>by subst h;rfl
 have d:32<(y.length:Int)->false=iZ y:=λh=>by
  grind [iZ]
 have i0:vA y 0:=⟨Zaj _,λj g=>absurd g (Zbo _)⟩;refine⟨⟨c,λh0=>⟨d,λh1=>⟨⟨0,rfl,i0⟩,λx a=>⟨λe=>⟨ω,e,?_⟩,λe=>?_⟩⟩⟩⟩,⟨c,λh0=>⟨d,λh1=>⟨⟨0,rfl,i0⟩,λx a=>⟨λe=>⟨ω,e,?_⟩,λe=>?_⟩⟩⟩⟩⟩
 all_goals have b:=f.mp h0
 ·obtain⟨p,q⟩:=Fq a ω b ω;rw[Ly] at p q
  with_reducible repeat' first | apply And.intro | intro _
  all_goals first | exact p ω | exact q ω
 ·rw[show x=y.length by have:=a.1;omega] at a;grind [LA]
 ·obtain⟨p,q⟩:=Fq a ω b ω;rw[Ly] at p q
  with_reducible repeat' first | apply And.intro | intro _
  all_goals first | exact p ω | exact q ω
 ·rw[show x=y.length by have:=a.1;omega] at a;grind [LA]
def Qkf:Ok IQ:=okZ (V:=Vy) [] f111 QrP trivial λy a=>(Qke y a).1
def Qkg:Ok Ov:=okZ (V:=Vz) [] f78 QrR trivial λy a=>(Qke y a).2
theorem CN (h:CL l) {j:Nat} (a:x<j) (b:j<l.length):(l.getD x IS).k<(l.getD j IS).k:=by
 rw[eL b,eL ω];exact List.pairwise_iff_getElem.mp h x j ω b a
theorem Qfu (h1:x<=l.length) (a:∀j,j<x->(l.getD j IS).k<y) (b:x<l.length->¬(l.getD x IS).k<y):lL l y=x:=by
 grind [lL,List.findIdx_eq]
theorem Qfv (f:CL l) (h1:x<l.length) (c:∀j,j<x->(l.getD j IS).k<y) (d:¬(l.getD x IS).k<y):jM l y=seq (l.getD x IS).k y:=by
 rw[ZaG];unfold jM;simp only[ZcT,ZaP,xJ];constructor
 ·rintro⟨r,a,rfl⟩;obtain⟨i,hi,e⟩:=Za3 a;have b:l.getD i IS=r:=by grind
  grind [CN]
 ·grind
theorem QrX (y:XJ) (q:Ow.pre y):VA y:=by
 obtain⟨l,k,v⟩:=y;obtain⟨g,hl⟩:CL l/\l.length<=1000:=q;unfold VA;have m:∀n,gt (Row.mk [] 0) l n=l.getD n IS:=λ_=>rfl
 have st:∀{a b:By},slt a b↔a<b:=λ{a b}=>by simp[slt]
 have r:∀{a b:By},slt a b=false↔¬a<b:=λ{a b}=>by grind
 simp only[bL,bC,au,m,st,r,Zad];refine⟨⟨(0,l.length),rfl,rfl,Zaj _,Zah _,λj d=>absurd d (Zbo _),λj h1 f=>absurd (show l.length<=j from h1) (Nat.not_le_of_lt f)⟩,λx p=>?_⟩;obtain⟨lo,hi⟩:=x;obtain⟨i1,i2,i3,i4⟩:=p;simp only at i1 i2 i3 i4 ⊢;refine⟨λe=>?_,λe=>?_⟩
 ·have o:XT .i64 (ay .i64 (lo:Int) (hi:Int)) 2=(((lo+hi) / 2:Nat):Int):=by
   grind [XT,dG,sq]
  rw[o];simp only[Zad];refine⟨ω,ω,λc=>⟨((lo+hi) / 2+1,hi),bK ω,rfl,⟨show(lo+hi) / 2+1<=hi by omega,i2,λj d=>?_,i4⟩,show hi-((lo+hi) / 2+1)<hi-lo by omega⟩,λc=>⟨(lo,(lo+hi) / 2),rfl,rfl,⟨show lo<=(lo+hi) / 2 by omega,show(lo+hi) / 2<=l.length by omega,i3,λj h1 f=>?_⟩,show(lo+hi) / 2-lo<hi-lo by omega⟩⟩
  ·have d:j<(lo+hi) / 2+1:=d;rcases Zbm j ((lo+hi) / 2) with e2 | e2
   ·exact Zdk (CN g e2 ω) c
   ·grind
  ·have h1:(lo+hi) / 2<=j:=h1;rcases Zbm ((lo+hi) / 2) j with e2 | e2
   ·exact λc2=>c (Zdk (CN g e2 f) c2)
   ·grind
 ·have i:lo=hi:=ω;subst i;have s:lL l k=lo:=Qfu i2 i3 λh=>i4 lo (Zah _) h
  grind [Qfv,jM,List.getElem_of_mem]
def Qkh:Ok Ow:=okZ [] f171 QrT trivial QrX
theorem Qki:Ok Vw:=okZ (V:=QcC) [] f110 (λ_=>dY ()) trivial λy _=>by grind [QcC]
theorem Qkj:Ok Vx:=okZ (V:=QcD) [] f74 (λ_=>dY ()) trivial λy a=>by
 have:y.r.length<=1000:=a;grind [QcD]
structure Qkk where
 tab:List Row
 out:List (List Nd)
 an:Int
 at_:Int
def l3:List iX->Nat->List Row->List (List Nd)->Qkk
 | [],_,t,o=>⟨t,o,0,0⟩
 | x::l,i,t,o=>if iZ x.name=false then⟨[],[],14,i⟩ else if jM t x.name=true then⟨[],[],8,i⟩ else if (cm x.text).2.1≠0 then⟨[],[],(cm x.text).2.1,i⟩ else l3 l (i+1) (rD t x.name i) (o++[cP (cm x.text).1])
def bs (y:cj):Qkk:=lk (l3 y.r 0 [] [])
def zM (y:cj):Bool:=decide ((bs y).an=0)
def CO (k:cj->Bool) (args:List (AV D.E)) (s:St D.E):C (cj×Bool):=az (Lx args s) λp=>.split (k p) (.ret (p,true)) (.ret (p,false))
def VB (y:cj×Bool):Prop:=y.1.r.length<=8/\y.2=zM y.1
def Ft:bh D:=⟨73,cj×Bool,CO zM,VB,λy=>[CM y.1],λ_=>[],
 λy=>match y.2 with
  | true=>.tuple [.list 9 (bs y.1).out,.ptr 0 0,Qvo 0,Qvo 0]
  | false=>.tuple [.dF,.fT,Qvo (bs y.1).an,Qvo (bs y.1).at_],
 λy=>match y.2 with
  | true=>tbO 1 (bs y.1).tab
  | false=>[],0,2⟩
structure CP where
 t:List Row
 o:List (List Nd)
 i:Nat
def yI (y:cj) (x:CP):Prop:=x.i<=y.r.length/\CL x.t/\x.t.length<=x.i/\x.o.length=x.i/\l3 (y.r.drop x.i) x.i x.t x.o=bs y
def Qkl (y:Ft.Y):cH D:=⟨[],[],[(122,⟨CP,[15,16],λx=>[(6,.ptr 0 0),(7,.grow 9 x.o 2),(17,Qvo x.i)],[],λx=>tbO 1 x.t++[(2,.tok 9 138)],3,yI y.1,λx=>y.1.r.length-x.i⟩)],[],1,[]⟩
structure LdR where
 af:List aW
 st:List Int
 cc:List aW
 cs:List Int
 an:Int
 at_:Int
def LB (e a:Int):LdR:=⟨[],[],[],[],e,a⟩
def jm (y:cj):LdR:=
 if 8<y.r.length then LB 13 8
 else if (bs y).an≠0 then LB (bs y).an (bs y).at_
 else if y.c≠[]/\(cm y.c).2.1≠0 then LB (cm y.c).2.1 y.r.length
 else if (bZ (bs y).out).2.1≠0 then LB (bZ (bs y).out).2.1 (bZ (bs y).out).2.2
 else if y.c≠[] then(if (bZ [cP (cm y.c).1]).2.1≠0 then LB (bZ [cP (cm y.c).1]).2.1 y.r.length
  else⟨(bZ (bs y).out).1.1,(bZ (bs y).out).1.2,(bZ [cP (cm y.c).1]).1.1,(bZ [cP (cm y.c).1]).1.2,0,0⟩)
 else⟨(bZ (bs y).out).1.1,(bZ (bs y).out).1.2,[],[],0,0⟩
def b9 (y:cj):LdR:=lk (jm y)
def oK (y:cj):Bool:=decide ((b9 y).an=0)
def Qfw (n:Nat) (y:cj) (l:LdR) (t:List Row):List (Nat×AO D.E):=(n,.cells [.list 3 y.r,.str y.c,.list 8 l.af,.list 5 l.st,.list 8 l.cc,.list 5 l.cs,.ptr (n+1) 0] 137 false)::[(n+1,.cells [.own (n+2) 2 (ag t)] 271 false),(n+2,.arr 16 t 275 false)]
def qG (y:cj×Bool):Prop:=y.1.r.length<=1000/\y.2=oK y.1
def zN:bh D:=⟨28,cj×Bool,CO oK,qG,λy=>[CM y.1],λ_=>[],
 λy=>match y.2 with
  | true=>.tuple [.ptr 0 0,Qvo 0,Qvo 0]
  | false=>.tuple [.fT,Qvo (b9 y.1).an,Qvo (b9 y.1).at_],
 λy=>match y.2 with
  | true=>Qfw 0 y.1 (b9 y.1) (bs y.1).tab
  | false=>[],0,3⟩
def CQ (y:cj):List Nd:=lk (if y.c≠[] then(cm y.c).1 else[])
def Qkp (y:zN.Y):cH D:=⟨[],[],[],[(127,⟨Unit,[5,8],λ_=>[(1,.ptr 0 0),(9,.ptr 1 0),(10,.list 7 (CQ y.1))],[],λ_=>[(0,.cells [.list 3 y.1.r,.str y.1.c] 24 false)]++Qfw 1 y.1 (LB 0 0) (bs y.1).tab,4,λ_=>y.1.c≠[]->(cm y.1.c).2.1=0,λ_=>0⟩)],1,[]⟩
def Ox:bh D:={ QhN with f:=103 }
def QrY (y:Ox.Y):cH D:=Qn0 y
structure j8 where
 s:cj
 p:iC
 q:iC
 t:List Row
def IU (y:j8):List (Nat×AO D.E):=Qfw 0 y.s ⟨y.p.af,y.p.av,y.q.af,y.q.av,0,0⟩ y.t
def Qfx (v:AV D.E) (s:St D.E):C j8:=match v with
 | .ptr b _=>az (cR (s.h.get b)) λo=>match o with
  | .cells cs _ _=>match cs with
   | [r,c,p,q,a,b,t]=>az (aL D s 3 r) λr=>az (fY c) λc=>az (aL D s 8 p) λp=>az (aL D s 5 q) λq=>az (aL D s 8 a) λa=>az (aL D s 5 b) λb=>az (Qft t s) λt=>.ret ⟨⟨r,c⟩,⟨p,q⟩,⟨a,b⟩,t⟩
   | _=>.fail
  | _=>.fail
 | _=>.fail
def Τ (a:List (AV D.E)) (s:St D.E):C j8:=match a with
 | [p]=>Qfx p s
 | _=>.fail
def Oy (y:j8):Prop:=XG y.p
def Υ (y:j8):Prop:=XG y.q
def Χ:bh D:=⟨65,j8,Τ,Oy,λ_=>[.ptr 0 0],IU,λy=>Hj y.p,IU,3,3⟩
def ϊ:bh D:=⟨63,j8,Τ,Υ,λ_=>[.ptr 0 0],IU,λy=>.tuple [Hj y.q,.bool (!seq y.s.c [])],IU,3,3⟩
abbrev RA4 (v:cj) (p:Prop):Prop:=aa [v.r] (aa [v.c] p)
def QcE (y:j8):Prop:=Iv (XG y.p)/\RA3 y.p (RA3 y.p (RA4 y.s (RA3 y.p (RA3 y.q (RAH (ag y.t) y.t (True))))))
def QcF (y:j8):Prop:=Iv (XG y.q)/\RA3 y.q (RA3 y.q (RAI y.s.c y.s.c y.s.c (RA3 y.q (aa [!(seq y.s.c [])] (RA4 y.s (RA3 y.p (RA3 y.q (RAH (ag y.t) y.t (True)))))))))
def QcG:Ok Ox:=okZ [] f103 QrY trivial Qn6
def Qks:Ok Χ:=okZ (V:=QcE) [Ox] f65 (λ_=>dY ()) QcG λy a=>by
 unfold QcE;simp only[dw,Zai,kU];exact a
def Qkt:Ok ϊ:=okZ (V:=QcF) [Ox] f63 (λ_=>dY ()) QcG λy a=>by
 unfold QcF;simp only[dw,Zai,kU];exact a
def F5.pg {p:iC} (h:F5 p):XG p:=⟨by have:=h.1;omega,by have:=h.2.1;omega,h.2.2.2.1⟩
def RwD (d:S2) (p:Prop):Prop:=aa [d.a,d.b,d.c,d.d,d.n] p
def RwM (v:pq) (p:Prop):Prop:=aa [v.p.af] (aa [v.p.av] (aa [v.aI,ag v.L,ag v.s.pl,ag v.s.us] (aa [v.s.us] (aa [v.s.pl] (aa [v.L] p)))))
def RwU (v:pq) (p:Prop):Prop:=aa [v.p.af] (aa [v.p.av] (aa [v.aI,ag v.L,ag v.s.pl,ag v.s.us] (aa [v.s.pl] (aa [v.s.us] (aa [v.L] p)))))
def RwS (s:Dg) (p:Prop):Prop:=RwM s.v (RwD s.d p)
def RwE (s:Dg) (p:Prop):Prop:=RwD s.d (RwU s.v p)
def IV (y:j8) (p:Prop):Prop:=aa [y.p.af] (aa [y.p.av] (aa [y.q.af] (aa [y.q.av] p)))
def sQ (y:j8) (p:Prop):Prop:=aa [y.s.r] (aa [y.s.c] (IV y (aa [ag y.t] (aa [y.t] p))))
def RwR (y:j8) (p:Prop):Prop:=sQ y (IV y p)
def j9:(∀d p,RwD d p=p)/\(∀v p,RwM v p=p)/\(∀v p,RwU v p=p)/\(∀s p,RwS s p=p)/\(∀s p,RwE s p=p)/\(∀y p,IV y p=p)/\(∀y p,sQ y p=p)/\∀y p,RwR y p=p:=by
 refine⟨λ_ _=>?_,λ_ _=>?_,λ_ _=>?_,λ_ _=>?_,λ_ _=>?_,λ_ _=>?_,λ_ _=>?_,λ_ _=>?_⟩<;>simp[RwD,RwM,RwU,RwS,RwE,IV,sQ,RwR]
structure ώ where
 ru:j8
 pos:Int
 bN:Int
 bj:Int
 size:Int
 ch:Bool
 aS:List dd
 aH:Dg
 aZ:Dg
 a8:Dg
inductive SFm where
 | n | p | c | o | a
variable {N:Int} {s:Dg}
def sfJ (f:SFm):Bool:=match f with
 | .n=>false | .p=>false | _=>true
def Qr4 (f:SFm) (y:ώ):Prop:=Ue y.aH/\(sfJ f->Ue y.aZ/\0<(Qe7 y.aZ).length)/\(f=.o->Ue y.a8/\y.aS.length<=1000/\0<=y.size/\y.size<=500)
def Qr5 (f:SFm) (y:ώ):Prop:=Qr4 f y/\0<=y.bN/\y.bN<=y.pos/\y.pos<=100000000/\(y.ch=false->y.pos-y.bN<=200)
theorem VC {v:pq} {l:List Gt} (h:Y4 v N):∀x,x<=l.length->(HH v (l.take x)).p=v.p
 | 0,_=>by rfl
 | x+1,a=>by
  rw[AX (show x<l.length by omega)];exact((Ct _ (Cu (l:=l) h x ω).1 _).2.1).trans (VC h x ω)
theorem VD (h:Ue s):(Qe7 s).length=s.v.L.length:=by
 have c:=h.1.2.2;have b:=Uf c;have a:=Cu b (l:=bdG (uoF (HG s.d)).n.toNat) _ (Zah _);have f:=VC b (l:=bdG (uoF (HG s.d)).n.toNat) _ (Zah _);rw[ZaM] at a f;have e:=(KV a.1.1 (Im s).L.length).2;have e2:(Qe7 s).length=(Im s).L.length:=e;have g:(Im s).p.av.length=(Im s).L.length:=a.2.1;have i:(Im s).p=s.v.p:=f;rw[e2,<-g,i];exact c.2.1
def XK (s:Dg) (N:Int):Prop:=0<=s.d.n/\s.d.n<=3/\(HG s.d=[]\/ji (HG s.d))/\Y4 s.v N
def Qkv (f:SFm) (y:ώ):Prop:=XK y.aH (16*y.pos)/\(sfJ f->XK y.aZ (16*y.pos)/\0<y.aZ.v.L.length)/\(f=.o->XK y.a8 (16*y.pos)/\y.aS.length<=1000/\0<=y.size/\y.size<=500)/\0<=y.bN/\y.bN<=y.pos/\(y.ch=false->y.pos-y.bN<=200)
def XK.le {M:Int} (h:XK s N) (a:N<=M):XK s M:=⟨h.1,h.2.1,h.2.2.1,h.2.2.2.1,h.2.2.2.2.1,h.2.2.2.2.2.1,Int.le_trans h.2.2.2.2.2.2 a⟩
def XK.P (h:XK s N) (a:N<=900000000000):Ue s:=⟨⟨h.1,h.2.1,h.2.2.2.1,h.2.2.2.2.1,h.2.2.2.2.2.1,by have:=h.2.2.2.2.2.2;omega⟩,h.2.2.1⟩
theorem Qkv.Q {f:SFm} {y:ώ} (h:Qkv f y) (c:y.pos<=100000000):Qr5 f y:=by
 have⟨a,a2,a3,a4,a5,b⟩:=h;refine⟨⟨a.P ω,λk=>?_,λk=>?_⟩,a4,a5,c,b⟩
 ·have d:=(a2 k).1.P ω;grind [VD]
 ·exact⟨(a3 k).1.P ω,(a3 k).2⟩
def bc (b:By) (k:Nat):Int:=((b.getD k 0).toNat:Int)
def jnR (y:j8):Bool:=!seq y.s.c []
structure VE where
 pos:Int
 bN:Int
 ch:Bool
 jH:Bool
 bj:Int
 size:Int
 aS:List dd
def Qkw (y:VE) (a8 aH aZ:List (AV D.E)):AV D.E:=.agg ([.int .i64 y.pos,.int .i64 y.bN,.bool y.ch,.bool y.jH,.int .i64 y.bj,.int .i64 y.size,.list 2 y.aS]++a8++aH++aZ)
def scQ (s:Dg):Prop:=dcP s.d/\lsP s.v.L
structure Qwg where
 ru:j8
 st:VE
 a8:Dg
 aH:Dg
 aZ:Dg
def oz (t:aX):List Int:=[t.c0,t.c1,t.c2,t.c3,t.c4,t.c5,t.c6,t.c7,t.c8,t.c9]
def fq (t:aX) (m:Int):Bool:=(oz t).all λx=>decide (-1<=x)&&decide (x<=m)
def VF:bh D:=bO 207 (aX×Int) (λa _=>match a with
 | [c,m]=>az (asAgg c) λcs=>match cs with
  | [a0,b,a2,a3,a4,a5,d,e,f,a9]=>aP (cT a0) λ_ a0=>aP (cT b) λ_ b=>aP (cT a2) λ_ a2=>aP (cT a3) λ_ a3=>aP (cT a4) λ_ a4=>aP (cT a5) λ_ a5=>aP (cT d) λ_ d=>aP (cT e) λ_ e=>aP (cT f) λ_ f=>aP (cT a9) λ_ a9=>aP (cT m) λ_ m=>.ret (⟨0,a0,b,a2,a3,a4,a5,d,e,f,a9⟩,m)
  | _=>.fail
 | _=>.fail) (λ_=>True) (λy=>[.agg [Qvo y.1.c0,Qvo y.1.c1,Qvo y.1.c2,Qvo y.1.c3,Qvo y.1.c4,Qvo y.1.c5,Qvo y.1.c6,Qvo y.1.c7,Qvo y.1.c8,Qvo y.1.c9],Qvo y.2]) λy=>.bool (fq y.1 y.2)
def LC (af:List aW) (a:List Bool):Nat->(Int->Bool)->Int->Bool
 | 0,F=>F
 | n+1,F=>if a.getD n false/\(af.getD n ⟨0,0,0,[]⟩).op=1 then λk=>if k=(n:Int)+1 then true else LC af a n F k else LC af a n F
def XL (m:Int):List aX->(Int->Bool)->Bool
 | [],_=>true
 | t::l,F=>F t.pc&&fq t m&&XL m l λk=>if k=t.pc then false else F k
structure zO where
 p:iC
 r:Int
 l:dd
 m:Int
def Ϗ (y:zO):Int:=y.p.av.getD y.r.toNat 0
def vC (y:zO):Bool:=XL y.m y.l.aJ (LC y.p.af (lJ y.p.af (Ϗ y)) y.p.af.length λk=>if k=Ϗ y then true else false)
def wtP (y:zO):Prop:=ND (y.p.af,Ϗ y)/\0<=y.r/\y.r<y.p.av.length/\y.l.aJ.length<=1000000
def VG:bh D:=bO 208 zO (λa s=>match a with
 | [p,r,l,m]=>az (Hk p s) λp=>aP (cT r) λ_ r=>az (asAgg l) λcs=>az (uW D 2 cs) λl=>aP (cT m) λ_ m=>.ret ⟨p,r,(l:dd),m⟩
 | _=>.fail) wtP (λy=>[Hj y.p,Qvo y.r,.agg (D.a_ 2 y.l),Qvo y.m]) λy=>.bool (vC y)
def LD (y:aX×Int):Prop:=aj (aw y.1.c0 (-1)) (false=fq y.1 y.2/\True) (aj (aw y.2 y.1.c0) (false=fq y.1 y.2/\True) (aj (aw y.1.c1 (-1)) (false=fq y.1 y.2/\True) (aj (aw y.2 y.1.c1) (false=fq y.1 y.2/\True) (aj (aw y.1.c2 (-1)) (false=fq y.1 y.2/\True) (aj (aw y.2 y.1.c2) (false=fq y.1 y.2/\True) (aj (aw y.1.c3 (-1)) (false=fq y.1 y.2/\True) (aj (aw y.2 y.1.c3) (false=fq y.1 y.2/\True) (aj (aw y.1.c4 (-1)) (false=fq y.1 y.2/\True) (aj (aw y.2 y.1.c4) (false=fq y.1 y.2/\True) (aj (aw y.1.c5 (-1)) (false=fq y.1 y.2/\True) (aj (aw y.2 y.1.c5) (false=fq y.1 y.2/\True) (aj (aw y.1.c6 (-1)) (false=fq y.1 y.2/\True) (aj (aw y.2 y.1.c6) (false=fq y.1 y.2/\True) (aj (aw y.1.c7 (-1)) (false=fq y.1 y.2/\True) (aj (aw y.2 y.1.c7) (false=fq y.1 y.2/\True) (aj (aw y.1.c8 (-1)) (false=fq y.1 y.2/\True) (aj (aw y.2 y.1.c8) (false=fq y.1 y.2/\True) (aj (aw y.1.c9 (-1)) (false=fq y.1 y.2/\True) (aj (aw y.2 y.1.c9) (false=fq y.1 y.2/\True) (true=fq y.1 y.2/\True))))))))))))))))))))
def VH (t:aX) (m:Int):Prop:=(-1<=t.c0/\t.c0<=m)/\(-1<=t.c1/\t.c1<=m)/\(-1<=t.c2/\t.c2<=m)/\(-1<=t.c3/\t.c3<=m)/\(-1<=t.c4/\t.c4<=m)/\(-1<=t.c5/\t.c5<=m)/\(-1<=t.c6/\t.c6<=m)/\(-1<=t.c7/\t.c7<=m)/\(-1<=t.c8/\t.c8<=m)/\(-1<=t.c9/\t.c9<=m)
def Fu (t:aX) (m:Int):fq t m↔VH t m:=by simp[fq,VH,oz]
def Qkx (y:aX×Int):LD y:=by
 unfold LD;simp only[pd,Zai,dA,hU];have a:¬VH y.1 y.2->false=fq y.1 y.2:=λh=>(Bool.eq_false_iff.2 λe=>h ((Fu _ _).1 e)).symm
 have ht:VH y.1 y.2->true=fq y.1 y.2:=λh=>((Fu _ _).2 h).symm
 unfold VH at a ht
 repeat' first | apply And.intro | intro _
 all_goals first | exact a ω | exact ht ω
def QcI:Ok VF:=okZ (V:=LD) [] f207 (λ_=>⟨[],[],[],[],11,[]⟩) trivial λy _=>Qkx y
end
end sx
namespace sl
open Go.RowKit
variable {α:Type} {a_:α->List Value} {k:Nat}
theorem CR {w:World} {k:Nat} {o:Obj} (h:w.heap[k]?=some o):k<w.heap.size:=by
 grind
def flat (a_:α->List Value) (l:List α):List Value:=l.flatMap a_
theorem nj (hk:∀x,(a_ x).length=k) (l:List α):(flat a_ l).length=l.length*k:=by
 induction l with
 | nil=>simp[flat]
 | cons x t a=>
  grind [flat]
theorem jN (l m:List α):flat a_ (l++m)=flat a_ l++flat a_ m:=by simp[flat]
theorem yJ (hk:∀x,(a_ x).length=k) (l:List α) (i t:Nat) (x:α) (a:l[i]?=some x) (ht:t<k):(flat a_ l)[i*k+t]?=(a_ x)[t]?:=by
 induction l generalizing i with
 | nil=>simp at a
 | cons y m b=>
  have e:flat a_ (y::m)=a_ y++flat a_ m:=rfl;rcases i with _ | i
  ·grind
  ·grind
structure Rd (a_:α->List Value) (w:World) (a:Option Addr) (l:List α) (cap:Nat):Prop where
 none_:a=none->l=[]/\cap=0
 le:l.length<=cap
 max:cap<=maxLen
 at_:∀ad,a=some ad->0<cap->ad.spot=none/\ad.block<w.heap.size/\∀j u,(flat a_ l)[j]?=some u->w.cell? ⟨ad.block,ad.off+j,none⟩=some u
variable {l:List α} {B:Nat} {w:World} {a:Option Addr}
theorem Rd.nil (a_:α->List Value) (w:World):Rd a_ w none [] 0:=⟨λ_=>⟨rfl,rfl⟩,Zah _,ω,λ_ h _=>by cases h⟩
theorem Rd.cells {cap:Nat} (h:Rd a_ w a l cap) (hk:∀x,(a_ x).length=k) {i:Nat} {x:α} (j:l[i]?=some x):
  ∃b off,a=some ⟨b,off,none⟩/\b<w.heap.size/\∀t u,t<k->(a_ x)[t]?=some u->w.cell? ⟨b,off+(i*k+t),none⟩=some u:=by
 obtain⟨h1,f,g,c⟩:=h;rcases a with _ | ⟨b,off,sp⟩
 ·grind
 ·have hi:i<l.length:=by
   grind
  obtain⟨hs,d,e⟩:=c _ rfl ω;obtain rfl:sp=none:=hs;exact⟨b,off,rfl,d,λt u ht hu=>e _ _ (by grind [yJ])⟩
def Rd.below {f:World} (h:Rd a_ w a l B) {cap:Nat} (c:Below cap w f) (k:∀b,a=some b->0<B->b.block<cap):Rd a_ f a l B:=
 ⟨h.none_,h.le,h.max,λb e d=>by
  obtain⟨h1,g,i⟩:=h.at_ b e d;exact⟨h1,ZbB g c.size,λj u hu=>(c.cell (p:=⟨b.block,b.off+j,none⟩) (k b e d)).trans (i j u hu)⟩⟩
def Rd.kept {b:World} (h:Rd a_ w a l B) (d:Below w.heap.size w b):Rd a_ b a l B:=
 h.below d λc e f=>(h.at_ c e f).2.1
def j_ (a_:α->List Value) (k:Nat) (E:TypeId) (B:Nat) (w:World) (v:Value) (l:List α):Prop:=w.ownsRow B E k v l.length (flat a_ l)
theorem j_.rd {E:TypeId} {v:Value} (h:j_ a_ k E B w v l):∃a cap,v=.slice a l.length cap/\Rd a_ w a l cap/\∀b,a=some b->B<=b.block:=by
 rcases h.2 with⟨rfl,c⟩ | ⟨g,cap,a8,rfl,f,i,c,d,hs,ht⟩
 ·grind [Rd.nil]
 ·refine⟨some ⟨g,0,none⟩,cap,rfl,⟨λh=>(nomatch h),c,d,λb e _=>?_⟩,λb e=>(by grind)⟩;grind [World.cell?]
theorem getD_eq (h:B<l.length) (d:α):l[B]?=some (l.getD B d):=by
 grind
structure l_ (P:Program) (T E:TypeId) (k bytes:Nat):Prop where
 uV:P.underlying T=some (.slice E)
 ex:∃i z,P.info? E=some i/\i.zero=some z/\i.size=k/\i.bytes=bytes/\z.cells.size=k
 pos:0<k
variable {B a m X:Nat} {E c:TypeId} {w d:World} {v:Value} {l:List α} {Z:Program} {Y:Array Value} {W:Type} {V:Array Oper} {U:List Oper} {O:Exit->Act->World->Prop} {s x:Operand}
variable {N:List W}
def l_.mk' {z:Value} (h1:Z.underlying E=some (.slice c)) (bytes:(Z.info? c).map (λi=>(i.zero,i.size,i.bytes))=some (some z,B,a)) (b:z.cells.size=B) (T:0<B):l_ Z E c B a:=by
 obtain⟨i,hi,hz,hs,d⟩:=info_parts bytes;exact⟨h1,⟨i,z,hi,hz,hs,d,b⟩,T⟩
theorem j_.nil (a_:α->List Value) (k:Nat) (E:TypeId) (B:Nat) (w:World):j_ a_ k E B w (.slice none 0 0) []:=World.ownsRow_nil _ _ _ _
theorem j_.alloc (h:j_ a_ k E B w v l) (o:Obj):j_ a_ k E B (w.alloc o) v l:=World.ownsRow.alloc h o
def j_.drewN (h:j_ a_ k E B w v l) (n:Nat):j_ a_ k E B (w.drewN n) v l:=h
theorem j_.below (h:j_ a_ k E B w v l) (i:Below a w d) (f:w.heap.size<=a):j_ a_ k E B d v l:=by
 refine⟨h.1,?_⟩;rcases h.2 with b | ⟨g,cap,a8,h1,b,c,e⟩
 ·grind
 ·exact .inr ⟨g,cap,a8,h1,b,(i.block g (ZbB (CR c) f)).trans c,e⟩
def j_.lt (h:j_ a_ k E B w v l):∀k,v.ownBlock=some k->B<=k/\k<w.heap.size:=World.ownsRow.lt h
theorem j_.mono (h:j_ a_ k E B w v l) (d:a<=B):j_ a_ k E a w v l:=by
 refine⟨h.1,?_⟩;rcases h.2 with b | ⟨g,cap,a8,h1,b,c⟩
 ·grind
 ·exact .inr ⟨g,cap,a8,h1,Zav d b,c⟩
def Below.grow {b:World} (w0:Below a w d) (h:j_ a_ k E B d v l) (e:d.grownBy b v.ownBlock) (c:a<=B) (hs:a<=d.heap.size):Below a w b:=
 w0.grown e hs λk hk=>Zav c (h.lt k hk).1
theorem Rd.built {cs:Array Value} (l:List α) (n:Nat) (d:l.length=n) (a:cs.toList=flat a_ l) (c:n<=4096):Rd a_ (w.alloc (.cells cs E)) (some ⟨w.heap.size,0,none⟩) l n:=
 ⟨λh=>(nomatch h),ω,by grind [maxLen],λb e _=>by
  cases e;refine⟨rfl,by simp,λj u hu=>?_⟩;rw[<-a] at hu;simp;simpa using hu⟩
theorem yK {o:Oper} {bytes:Act} {p:Option Addr} {f:List α}
  (G:l_ Z E c k B) (g:o.guard=none) (C:o.op=.call { callee:=.builtin .append,args:=#[s,x],argTypes:=#[E,E] })
  (hs:bytes.eval s=v) (D:bytes.eval x=.slice p m X) (e:j_ a_ k c a w v l) (d:Rd a_ w p f X) (A:m=f.length) (hk:∀x,(a_ x).length=k) (h1:∀x,∀u∈a_ x,u.oneCell')
  (n:l.length+f.length<=1000000000) (Pc:B<=65536) (H:a<=w.heap.size)
  (h:∀F t,j_ a_ k c a t F (l++f)->w.grownBy t v.ownBlock->wpList Z V O U (bytes.put o.dst F) t):wpList Z V O (o::U) bytes w:=by
 obtain⟨hu,⟨i,z,hi,hz,di,q,hzc⟩,J⟩:=G;rcases p with _ | ⟨b,off,sp⟩
 ·obtain⟨rfl,rfl⟩:=d.none_ rfl;subst A;refine wpList_append_own_none g s x E C a c i k hu hi v l.length _ hs e D ?_;grind [World.grownBy.refl]
 ·have r:∀j u,(flat a_ f)[j]?=some u->w.cell? ((⟨b,off,sp⟩:Addr).add j)=some u:=λj u M=>by
   have hle:=d.le;have I:0<f.length:=by
    grind [flat]
   obtain⟨K,_,L⟩:=d.at_ _ rfl ω;grind [Addr.add_lit]
  have hmul:(l.length+f.length)*B<=1000000000*65536:=Zci n Pc;refine wpList_append_own w g s x E C a c i z k B hu hi hz di q hzc J v l.length _ hs e ⟨b,off,sp⟩ m X (flat a_ f) D (by rw[nj hk,A]) r (λu hu=>?_) (by grind [maxLen]) (by grind) H ?_
  ·obtain⟨y,_,N⟩:=ZbG.1 hu;grind
  ·grind [j_,jN]
theorem pK {o:Oper} {bytes:Act} {e:TypeId}
  (i:l_ Z E c k B) (T:o.guard=none) (n:o.op=.call { callee:=.builtin .append,args:=#[s,x],argTypes:=#[E,E] })
  (hs:bytes.eval s=v) (p:bytes.eval x=.slice (some ⟨m,0,none⟩) 1 1) (j:m=w.heap.size) (b:j_ a_ k c a w v l) (y:α) (r:Y.toList=a_ y) (hk:∀x,(a_ x).length=k) (h1:∀x,∀u∈a_ x,u.oneCell')
  (f:l.length<1000000000) (Pc:B<=65536) (q:a<=w.heap.size)
  (h:∀g d,j_ a_ k c a d g (l++[y])->(w.alloc (.cells Y e)).grownBy d v.ownBlock->wpList Z V O U (bytes.put o.dst g) d):wpList Z V O (o::U) bytes (w.alloc (.cells Y e)):=by
 subst j;exact yK i T n hs p (b.alloc _) (Rd.built [y] 1 rfl (by grind [flat]) ω) rfl hk h1 (by simp;omega) Pc (by simp;omega) h
def nY {b:World} (e:Below a w d) (h:j_ a_ k E B d v l) (f:(d.alloc (.cells Y c)).grownBy b v.ownBlock) (w0:a<=B) (hs:a<=d.heap.size):Below a w b:=
 Below.grow (e.alloc hs _) (h.alloc _) f w0 (by simp;omega)
theorem xt {x:W} (h:N[B]?=some x):B<N.length:=by
 grind
theorem VI (hk:∀x,(a_ x).length=k) (l:List α) (i t:Nat) (x y:α) (u:Value) (a:l[i]?=some x) (ht:t<k) (c:(a_ x).set t u=a_ y):(flat a_ l).set (i*k+t) u=flat a_ (l.set i y):=by
 induction l generalizing i with
 | nil=>simp at a
 | cons z m b=>
  have e:∀z,flat a_ (z::m)=a_ z++flat a_ m:=λ_=>rfl
  rcases i with _ | i
  ·grind
  ·simp only[Zcm] at a;rw[Zdd,e,ZbY _ _ (by grind),hk,show(i+1)*k+t-k=i*k+t by grind,b i a];rfl
theorem j_.store (h:j_ a_ k E B w (.slice (some ⟨a,0,none⟩) m X) l) (g:m=l.length) (hk:∀x,(a_ x).length=k) {i t:Nat} {x y:α} {u:Value} (c:l[i]?=some x) (ht:t<k) (b:(a_ x).set t u=a_ y):
  j_ a_ k E B (w.setCell ⟨a,i*k+t,none⟩ u) (.slice (some ⟨a,0,none⟩) m X) (l.set i y):=by
 subst g;have:=(World.ownsRow.stored h (i*k+t) u).1;grind [VI,j_]
theorem j_.form (h:j_ a_ k E B w v l) (b:l≠[]):∃g cap,v=.slice (some ⟨g,0,none⟩) l.length cap/\B<=g/\g<w.heap.size/\l.length<=cap/\cap<=maxLen:=by
 rcases h.2 with⟨rfl,a⟩ | ⟨g,cap,a8,rfl,c,d,a,e,hs,ht⟩
 ·grind
 ·grind
theorem j_.cellAt (h:j_ a_ k E B w (.slice (some ⟨a,0,none⟩) m X) l) (b:m=l.length) (hk:∀x,(a_ x).length=k) {i t:Nat} {x:α} (c:l[i]?=some x) (ht:t<k) (hu:(a_ x)[t]?=some v):
  w.cell? ⟨a,i*k+t,none⟩=some v/\w.frozen? ⟨a,i*k+t,none⟩=false:=by
 subst b;have hi:=xt c;have g:i*k+t<l.length*k:=by
  have:(i+1)*k<=l.length*k:=Zbc k hi;grind
 refine⟨?_,World.ownsRow.frozenAt h _⟩;rw[World.ownsRow.cellAt h (i*k+t) g,<-hu];grind [yJ]
def pL (h:Below B w d) (n:Nat):Below B w (d.drewN n):=⟨h.os,h.tape,h.output,h.size,h.block⟩
theorem tU {β:Type} (f:W->List β) {p:W} (h:N[B]?=some p):(N.take (B+1)).flatMap f=(N.take B).flatMap f++f p:=by
 grind [List.take_add_one]
theorem fA {β:Type} (f:W->List β) (n:Nat) (h:∀x,(f x).length<=n) (l:List W):(l.flatMap f).length<=l.length*n:=by
 induction l with
 | nil=>simp
 | cons x t a=>simp only[Zbt,Zab,Zae];have:=h x;rw[ZaV];omega
variable {α:Type} {a_:α->List Value} {k:Nat}
variable {E Y g:TypeId} {B:Nat} {v:Value} {l:List α} {w:World}
def bV (w:World) (v a:Value):Prop:=a.ownBlock=v.ownBlock\/a.ownBlock=none\/∃k,a.ownBlock=some k/\w.heap.size<=k
theorem ϑ {P:Program} (w:World) {ty:TypeId} {bytes:Nat} {b off m c:Nat} (news:List Value)
  (I:l_ P E Y k B) (d:j_ a_ k Y bytes w v l) (hl:news.length=m*k) (C:∀j u,news[j]?=some u->w.cell? ⟨b,off+j,none⟩=some u) (h1:∀u∈news,u.oneCell')
  (t:l.length+m<=maxLen) (f:(l.length+m)*B<=140737488355328) (L:bytes<=w.heap.size):
  ∃q r,(Builtin.append_ #[E,E] ty #[v,.slice (some ⟨b,off,none⟩) m c]).run P w=.ok q r/\r.ownsRow bytes Y k q (l.length+m) (flat a_ l++news)/\w.grownBy r v.ownBlock/\bV w v q:=by
 obtain⟨hu,⟨i,z,hi,hz,di,o,hzc⟩,H⟩:=I;have n:∀j u,news[j]?=some u->w.cell? ((⟨b,off,none⟩:Addr).add j)=some u:=λj u h=>by grind [Addr.add_lit]
 obtain⟨q,r,s,J,K,_⟩:=run_append_own (P:=P) w bytes E ty Y i z k B hu hi hz di o hzc H v l.length _ d ⟨b,off,none⟩ m c news hl n h1 t f L;refine⟨q,r,s,J,K,?_⟩;rcases d.2 with⟨rfl,Q⟩ | ⟨g,cap,a8,rfl,M,O,R,N,x,D⟩
 ·have A:l=[]:=Zap Q;subst A;obtain⟨U,V,a,k2,_,_⟩:=run_append_own (P:=P) w w.heap.size E ty Y i z k B hu hi hz di o hzc H (.slice none 0 0) 0 [] (World.ownsRow_nil _ _ _ _) ⟨b,off,none⟩ m c news hl n h1 (by assumption) (by assumption) (Zah _);rw[s] at a;cases a;rcases k2.2 with⟨rfl,_⟩ | ⟨g2,F,G,rfl,y,_⟩
  ·exact .inr (.inl rfl)
  ·exact .inr (.inr ⟨g2,rfl,y⟩)
 ·by_cases e:l.length+m<=cap
  ·have p:l.length*i.size+news.length<=a8.size:=by rw[hl,x,di,<-ZbL];exact Zbc _ e
   have a:=run_append_room (P:=P) w E ty Y i hu hi g l.length cap a8 O ⟨b,off,none⟩ m c news (by grind) n h1 e p;rw[s] at a;cases a;exact .inl rfl
  ·have holds:∀j u,(flat a_ l)[j]?=some u->w.cell? ((⟨g,0,none⟩:Addr).add j)=some u:=World.ownsRow.cells d (g:=g) rfl;have S:l.length+m<=9223372036854775807:=by assumption
   have a:=run_append_grow (P:=P) w E ty Y i z hu hi hz ⟨g,0,none⟩ l.length cap (flat a_ l) (by rw[di];exact d.1) holds ⟨b,off,none⟩ m c news (by grind) n ω ω (growslice_fits ω (by grind));rw[s] at a;cases a;exact .inr (.inr ⟨_,rfl,Zah _⟩)
theorem CS {P:Program} {ops:Array Oper} {rest:List Oper} {o:Oper} {a:Act} {Q:Exit->Act->World->Prop} {T E:TypeId} {bytes:Nat} {s x:Operand} {cs:Array Value} {n:Nat}
  (r:l_ P T E k B) (i:o.guard=none) (F:o.op=.call { callee:=.builtin .append,args:=#[s,x],argTypes:=#[T,T] })
  (hs:a.eval s=v) (H:a.eval x=.slice (some ⟨n,0,none⟩) 1 1) (D:n=w.heap.size) (d:j_ a_ k E bytes w v l) (y:α) (I:cs.toList=a_ y) (hk:∀x,(a_ x).length=k) (h1:∀x,∀u∈a_ x,u.oneCell')
  (q:l.length<1000000000) (Pc:B<=65536) (M:bytes<=w.heap.size)
  (h:∀e f,j_ a_ k E bytes f e (l++[y])->(w.alloc (.cells cs g)).grownBy f v.ownBlock->bV w v e->wpList P ops Q rest (a.put o.dst e) f):wpList P ops Q (o::rest) a (w.alloc (.cells cs g)):=by
 subst D;have hmul:(l.length+1)*B<=1000000000*65536:=Zci ω Pc;have p:=Rd.built (w:=w) (E:=g) (cs:=cs) (a_:=a_) [y] 1 rfl (by simp[I,flat]) ω;obtain⟨_,_,C⟩:=p.at_ _ rfl ω;obtain⟨e,f,G,J,t,b⟩:=ϑ (P:=P) (ty:=o.type) (m:=1) (c:=1) (w.alloc (.cells cs g)) (flat a_ [y]) r (d.alloc _) (by rw[nj hk];rfl) C (λu hu=>by
  obtain⟨z,_,hz⟩:=ZbG.1 hu;exact h1 z u hz) (by grind [maxLen]) ω (by grind)
 refine wpList_plain i λK A=>?_
 unfold Oper.wp execOp;simp only[F,resolve,invoke,builtin,Zzd,Zzc,Zzb,List.map_toArray,Zbl,Zcj,hs,H,G];refine A _ _ (h e f ?_ t ?_)
 ·grind [j_,jN]
 ·rcases b with b | b | ⟨j,b,L⟩
  ·exact .inl b
  ·exact .inr (.inl b)
  ·exact .inr (.inr ⟨j,b,by grind⟩)
def iu (v u:Value):Prop:=∀k,v.ownBlock=some k->u.ownBlock≠some k
theorem j_.aO {a:World} {u:Value} (h:j_ a_ k E B w v l) (c:w.grownBy a u.ownBlock) (b:iu v u):j_ a_ k E B a v l:=by
 refine World.ownsRow.kept h c ?_;rcases d:v.ownBlock with _ | j
 ·grind
 ·refine .inr λe=>b j d e.symm
theorem iu.fresh {u c:Value} (d:iu v u) (h:j_ a_ k E B w v l) (a:bV w u c):iu v c:=by
 intro j b e;rcases a with a | a | ⟨k2,a,f⟩
 ·exact d j b (a▸e)
 ·grind
 ·have:=(h.lt j b).2;grind
end sl
namespace sx
open Go Go.RowKit cls syn sl
abbrev E8:={l:List Value // l.length=8/\∀u∈l,u.oneCell'=true}
def e8 (x:E8):List Value:=x.1
def IW (x:E8):(e8 x).length=8:=x.2.1
def Qfy (x:E8):∀u∈e8 x,u.oneCell':=x.2.2
def ϒ:l_ prog 219 221 8 96:=l_.mk' (z:=.agg #[.int .i64 0,.slice none 0 0,.int .i64 0,.int .i64 0,.bool false,.int .i64 0,.int .i64 0,.slice none 0 0]) Tryz.underlying219 (by kernel_rfl) rfl (by decide)
abbrev qH (w:World) (v:Value) (l:List E8):Prop:=j_ e8 8 221 0 w v l
def h_ (v:Value):List Nat:=match v.ownBlock with
 | some b=>[b]
 | none=>[]
mutual
def TA (M:Pm D) (w:World):ah->E8->List Nat->Prop
 | .mk op r mn mx lz cap nk ks,x,F=>∃(vr kv:Value) (l:List E8) (G:List Nat),x.1=[.int .i64 op,vr,.int .i64 mn,.int .i64 mx,.bool lz,.int .i64 cap,.int .i64 nk,kv]/\VR M (.list 6 r) vr/\(fK .i64 op&&fK .i64 mn&&fK .i64 mx&&fK .i64 cap&&fK .i64 nk)=true/\
  qH w kv l/\F=h_ kv++G/\KA M w ks l G
def KA (M:Pm D) (w:World):List ah->List E8->List Nat->Prop
 | [],l,F=>l=[]/\F=[]
 | t::ts,l,F=>∃(x:E8) (l':List E8) (F1 F2:List Nat),l=x::l'/\F=F1++F2/\TA M w t x F1/\KA M w ts l' F2
end
theorem nm {w a:World} {v:Value} {l:List E8} (h:qH w v l) (hk:∀b∈h_ v,b<w.heap.size->a.heap[b]?=w.heap[b]?):qH a v l:=by
 refine⟨h.1,?_⟩;rcases h.2 with c | ⟨g,cap,a8,rfl,c,d,e⟩
 ·grind
 ·grind [h_,Value.ownBlock]
mutual
theorem wj {M M':Pm D} {w w':World} (hM:Le M M'):∀(t:ah) (x:E8) (F:List Nat),TA M w t x F->(∀b∈F,b<w.heap.size->w'.heap[b]?=w.heap[b]?)->TA M' w' t x F
 | .mk op r mn mx lz cap nk ks,x,F,h,hk=>by
  rw[TA] at h ⊢
  obtain⟨vr,kv,l,G,h1,h2,h3,h4,rfl,h6⟩:=h
  exact⟨vr,kv,l,G,h1,h2.mono hM,h3,nm h4 λb hb=>hk b (Zay _ hb),rfl,qw hM ks l G h6 λb hb=>hk b (ZaC _ hb)⟩
theorem qw {M M':Pm D} {w w':World} (hM:Le M M'):∀(ts:List ah) (l:List E8) (F:List Nat),KA M w ts l F->(∀b∈F,b<w.heap.size->w'.heap[b]?=w.heap[b]?)->KA M' w' ts l F
 | [],l,F,h,_=>by rw[KA] at h ⊢;exact h
 | t::ts,l,F,h,hk=>by
  rw[KA] at h ⊢
  obtain⟨x,l',F1,F2,h1,rfl,h3,h4⟩:=h
  exact⟨x,l',F1,F2,h1,rfl,wj hM t x F1 h3 λb hb=>hk b (Zay _ hb),qw hM ts l' F2 h4 λb hb=>hk b (ZaC _ hb)⟩
end
variable {w:World} {M:Pm D} {v:Value} {b:Nat} {Z:TypeId} {a:List Nat} {Y:Array Value} {X:Program}
theorem IX:∀{a:List ah} {l:List E8} {F:List Nat},KA M w a l F->l.length=a.length
 | [],l,F,h=>by rw[KA] at h;rw[h.1];rfl
 | t::a,l,F,h=>by
  rw[KA] at h;obtain⟨x,e,c,d,rfl,_,_,b⟩:=h;simp[IX b]
theorem VJ {t:ah} {x:E8} (c:TA M w t x a):∀{b:List ah} {l:List E8} {F:List Nat},KA M w b l F->KA M w (b++[t]) (l++[x]) (F++a)
 | [],l,F,h=>by
  rw[KA] at h;obtain⟨rfl,rfl⟩:=h;exact⟨x,[],a,[],rfl,by simp,c,by rw[KA];exact⟨rfl,rfl⟩⟩
 | u::b,l,F,h=>by
  rw[KA] at h;obtain⟨y,i,d,e,rfl,rfl,f,g⟩:=h;rw[Za1,KA];exact⟨y,i++[x],d,e++a,rfl,by rw[ZaD],f,VJ c g⟩
theorem iT {fr:Nat×Nat} (a:w.heap[b]?=some (.cells Y Z fr)) (j:Nat):w.cell? ⟨b,j,none⟩=Y[j]?:=by simp[World.cell?,a]
theorem LF (a:w.heap[b]?=some (.cells Y Z (0,0))) (j:Nat):w.frozen? ⟨b,j,none⟩=false:=by simp[World.frozen?,a]
def sR (h:b=w.heap.size) (o:Obj):(w.alloc o).heap[b]?=some o:=by subst h;exact heap_alloc_new w o
def eA {k:IntKind} {n:Int} (h:VR M (.int k n) v):v=.int k n/\fK k n:=by cases h with | int h=>exact⟨rfl,h⟩
def nZ {b:Bool} (h:VR M (.bool b) v):v=.bool b:=by cases h;rfl
def Bn {c:List (D.E b)} (h:VR M (.list b c) v):∃a n k,v=.slice a n k:=by cases h<;>exact⟨_,_,_,rfl⟩
def yL {t:ah} {x:E8} (h:TA M w t x a):∃F n c b g d,x.1=[.int .i64 t.op,.slice F n c,.int .i64 t.mn,.int .i64 t.mx,.bool t.lz,.int .i64 t.cap,.int .i64 t.nk,.slice b g d]:=by
 cases t;rw[TA] at h;obtain⟨o,m,l,G,h1,e,i,f,j,k⟩:=h;obtain⟨_,_,_,rfl⟩:=Bn e;obtain⟨_,_,rfl,_⟩:=f.rd;exact⟨_,_,_,_,_,_,h1⟩
def VK {fn:Func} {p u:Tmp} (h:fn.results=#[.cell p Z,.tmp u]) (tmps:Array Value) {a:Addr} (b:tmps.getD p Go.undef=.pointer (some a)) (c:(loadVar Z a).run X w=.ok v w):(results fn tmps).run X w=.ok (.tuple #[v,tmps.getD u Go.undef]) w:=by
 rw[results_cell_tmp h,b];simp[asAddr,c]
def qy {fn:Func} {p:Tmp} (h:fn.results=#[.cell p Z]) (tmps:Array Value) {a:Addr} (c:tmps.getD p Go.undef=.pointer (some a)) (d:(loadVar Z a).run X w=.ok v w):(results fn tmps).run X w=.ok v w:=by
 have b:tmps[p]?.getD Go.undef=.pointer (some a):=by simpa using c
 simp[results,h,b,asAddr,d]
abbrev Fv (w:World) (b:Nat) (a c d v3 e v5 f g:Value):World:=(((((((w.setCell ⟨b,0,none⟩ a).setCell ⟨b,1,none⟩ c).setCell ⟨b,2,none⟩ d).setCell ⟨b,3,none⟩ v3).setCell ⟨b,4,none⟩ e).setCell ⟨b,5,none⟩ v5).setCell ⟨b,6,none⟩ f).setCell ⟨b,7,none⟩ g
variable {w:World} {b i:Nat} {v:Value} {N:Array Value} {M:TypeId} {a:Nat×Nat}
variable {k:Nat}
theorem heap_set (h:w.heap[b]?=some (.cells N M a)):(w.setCell ⟨b,i,none⟩ v).heap[b]?=some (.cells (N.setIfInBounds i v) M a):=by
 grind [World.setCell]
def ka (h:k≠b):(w.setCell ⟨b,i,none⟩ v).heap[k]?=w.heap[k]?:=Below.heap_setCell _ _ _ _ h
theorem Bo {v0 v1 v2 v3 v4 v5 v6 v7:Value} (h:w.heap[b]?=some (.cells N M a)) (hs:N.size=8):(Fv w b v0 v1 v2 v3 v4 v5 v6 v7).heap[b]?=some (.cells #[v0,v1,v2,v3,v4,v5,v6,v7] M a):=by
 unfold Fv;rw[heap_set (heap_set (heap_set (heap_set (heap_set (heap_set (heap_set (heap_set h)))))))];obtain⟨l⟩:=N;obtain⟨a0,l,rfl⟩:=ZaB (show l.length=7+1 from hs);obtain⟨c,l,rfl⟩:=ZaB (show l.length=6+1 by simpa using hs);obtain⟨a2,l,rfl⟩:=ZaB (show l.length=5+1 by simpa using hs);obtain⟨a3,l,rfl⟩:=ZaB (show l.length=4+1 by simpa using hs);obtain⟨a4,l,rfl⟩:=ZaB (show l.length=3+1 by simpa using hs);obtain⟨a5,l,rfl⟩:=ZaB (show l.length=2+1 by simpa using hs);obtain⟨d,l,rfl⟩:=ZaB (show l.length=1+1 by simpa using hs);obtain⟨e,l,rfl⟩:=ZaB (show l.length=0+1 by simpa using hs);simp_all
def yM {v0 v1 v2 v3 v4 v5 v6 v7:Value} (h:k≠b):(Fv w b v0 v1 v2 v3 v4 v5 v6 v7).heap[k]?=w.heap[k]?:=by
 unfold Fv;rw[ka h,ka h,ka h,ka h,ka h,ka h,ka h,ka h]
theorem lx {v0 v1 v2 v3 v4 v5 v6 v7:Value}:Below b w (Fv w b v0 v1 v2 v3 v4 v5 v6 v7):=by
 unfold Fv;have k:∀(W:World) (i:Nat) (v:Value),Below b w W->Below b w (W.setCell ⟨b,i,none⟩ v):=λW i v h=>h.setCell (Zah _) v
 grind [Below.refl]
def nodeAt {M:Pm D} {y:List Nd} (h:Rd M w b i (aV (D:=D) 7 y)) {x:Nd} (e:y[k]?=some x):
  ∃a,VR M (.list 6 x.r) a/\(fK .i64 x.op&&fK .i64 x.mn&&fK .i64 x.mx&&fK .i64 x.cap&&fK .i64 x.ae)/\
   w.cell? ⟨b,i+k*7,none⟩=some (.int .i64 x.op)/\w.cell? ⟨b,i+k*7+1,none⟩=some a/\w.cell? ⟨b,i+k*7+2,none⟩=some (.int .i64 x.mn)/\w.cell? ⟨b,i+k*7+3,none⟩=some (.int .i64 x.mx)/\
   w.cell? ⟨b,i+k*7+4,none⟩=some (.bool x.lz)/\w.cell? ⟨b,i+k*7+5,none⟩=some (.int .i64 x.cap)/\w.cell? ⟨b,i+k*7+6,none⟩=some (.int .i64 x.ae):=by
 obtain⟨hi,rfl⟩:=Zam.1 e;have o:=kr fL h hi;obtain⟨z,a0,f⟩:=o 0 _ rfl;obtain⟨v,c,b1⟩:=o 1 _ rfl;obtain⟨A,a2,g⟩:=o 2 _ rfl;obtain⟨v3,a3,j⟩:=o 3 _ rfl;obtain⟨B,a4,l⟩:=o 4 _ rfl;obtain⟨v5,a5,m⟩:=o 5 _ rfl;obtain⟨C,d,n⟩:=o 6 _ rfl;obtain⟨rfl,p⟩:=eA f;obtain⟨rfl,q⟩:=eA g;obtain⟨rfl,s⟩:=eA j;obtain rfl:=nZ l;obtain⟨rfl,t⟩:=eA m;obtain⟨rfl,u⟩:=eA n;exact⟨v,b1,by simp only[ZaW];exact⟨⟨⟨⟨p,q⟩,s⟩,t⟩,u⟩,a0,c,a2,a3,a4,a5,d⟩
def wk {l:List E8} (h:qH w v l):∀c∈h_ v,c<w.heap.size:=λc a=>by
 unfold h_ at a;split at a
 ·rename_i e
  rw[ZaI.1 a];exact(h.lt _ e).2
 ·cases a
mutual
theorem QcJ {M:Pm D} {w:World}:∀(t:ah) (x:E8) (F:List Nat),TA M w t x F->∀c∈F,c<w.heap.size
 | .mk op r mn mx lz cap nk ks,x,F,h=>by
  rw[TA] at h
  obtain⟨vr,kv,l,G,h1,h2,h3,h4,rfl,h6⟩:=h
  exact λc hc=>(Zax.1 hc).elim (wk h4 c) (VL ks l G h6 c)
theorem VL {M:Pm D} {w:World}:∀(ts:List ah) (l:List E8) (F:List Nat),KA M w ts l F->∀c∈F,c<w.heap.size
 | [],l,F,h=>by rw[KA] at h;rw[h.2];exact λc hc=>nomatch hc
 | t::ts,l,F,h=>by
  rw[KA] at h
  obtain⟨x,l',F1,F2,h1,rfl,h3,h4⟩:=h
  exact λc hc=>(Zax.1 hc).elim (QcJ t x F1 h3 c) (VL ts l' F2 h4 c)
end
def l4 (M:Pm D):Le M M:=⟨λ_ _ h=>h,λ_ _ _ h=>h⟩
def sS {v:Value} {c:Nat} (h:v.ownBlock=some c):c∈h_ v:=by unfold h_;rw[h];exact ZaI.2 rfl
theorem VM {M:Pm D} {wr k b:World} {n1:Nat} {g:Value} {l:List E8} {G:List Nat} {E:List ah} {C:ah} {r:E8} {n:List Nat} {B N:Obj} {a m o:Nat} {u:Value}
  (Q:qH wr g l) (v:KA M wr E l G) (x:(h_ g++G).Nodup) (t:∀c∈h_ g++G,n1+1<=c/\c<wr.heap.size) (di:n1+1<=wr.heap.size) (z:Below wr.heap.size wr k) (q:TA M k C r n) (K:n.Nodup) (s:∀c∈n,wr.heap.size<=c)
  (f:qH b (.slice (some ⟨a,0,none⟩) m o) (l++[r])) (A:((k.alloc B).alloc N).grownBy b g.ownBlock) (i:sl.bV (k.alloc B) g (.slice (some ⟨a,0,none⟩) m o)):
  qH (b.setCell ⟨n1,7,none⟩ u) (.slice (some ⟨a,0,none⟩) m o) (l++[r])/\KA M (b.setCell ⟨n1,7,none⟩ u) (E++[C]) (l++[r]) (G++n)/\(h_ (.slice (some ⟨a,0,none⟩) m o)++(G++n)).Nodup/\
   ∀c∈h_ (.slice (some ⟨a,0,none⟩) m o)++(G++n),n1+1<=c/\c<(b.setCell ⟨n1,7,none⟩ u).heap.size:=by
 have hs:=z.size;have y:=A.size;simp only[World.alloc,ZcH] at y;have L:(b.setCell ⟨n1,7,none⟩ u).heap.size=b.heap.size:=by simp[World.setCell]
 have h:h_ (.slice (some ⟨a,0,none⟩) m o)=[a]:=rfl;have I:n1+1<=a/\(a∈h_ g\/k.heap.size+1<=a):=by
  rcases i with i | i | ⟨j,i,P⟩
  ·have:a∈h_ g:=sS i.symm;simp_all
  ·cases i
  ·cases i;grind [World.alloc]
 have J:a<b.heap.size:=wk f a (by rw[h];simp);have O:=QcJ _ _ _ q;have d:∀c,n1+1<=c->c<k.heap.size->c ∉ h_ g->(b.setCell ⟨n1,7,none⟩ u).heap[c]?=k.heap[c]?:=λc h1 F H=>by
  rw[Below.heap_setCell _ _ _ _ (by show c≠n1;omega),A.block c (by simp only[World.alloc,ZcH];omega) (λe=>H (sS e.symm)),Below.heap_alloc _ _ _ (by simp only[World.alloc,ZcH];omega),Below.heap_alloc _ _ _ F]
 have w:=ZbR.1 x;refine⟨nm f λc p _=>Below.heap_setCell _ _ _ _ (by rw[h,ZaI] at p;show c≠n1;omega),VJ (wj (l4 M) _ _ _ q λc p hl=>d c (by have:=s c p;omega) hl λhk=>?_) (qw (l4 M) _ _ _ v λc p hl=>(d c (t c (ZaC _ p)).1 ω λhk=>w.2.2 c hk c p rfl).trans (z.block c hl)),?_,?_⟩
 ·grind
 ·rw[h,List.singleton_append,List.nodup_cons,ZbR];grind
 ·grind
set_option maxHeartbeats 4000000 in
theorem ϓ {M:Pm D} {y:List Nd} {b o cap:Nat} (hl:y.length<=1000000) (E:y.length<=cap):∀(n:Nat) (t:ah) (at_:Nat) (rest:List Nd) (w:World),(aD t).length<=n->ku t->y.drop at_=aD t++rest->Rd M w b o (aV (D:=D) 7 y)->b<w.heap.size->
  Calls prog 129 #[.slice (some ⟨b,o,none⟩) y.length cap,.int .i64 at_] w λe w'=>∃(x:E8) (F:List Nat),e=.returned (.tuple #[.agg x.1.toArray,.int .i64 ((at_+(aD t).length:Nat):Int)])/\TA M w' t x F/\F.Nodup/\(∀c∈F,w.heap.size<=c)/\Below w.heap.size w w':=by
 intro n
 induction n with
 | zero=>
  intro t at_ rest w h
  cases t
  grind [aD]
 | succ n ih=>
  intro t at_ rest w hn hw hd hR hb
  obtain⟨op,r,mn,mx,lz,cap,nk,a⟩:=t
  rw[aD] at hn hd
  rw[ku] at hw
  obtain⟨_,rfl,X⟩:=hw
  have ha:at_<y.length:=by
   grind [List.drop_eq_nil_of_le]
  have hx:y[at_]?=some ⟨op,r,mn,mx,lz,cap,a.length⟩:=by
   have:=ZaR (λl=>l[0]?) hd
   grind
  obtain⟨vr,hvr,hin,c0,c1,c2,c3,c4,c5,c6⟩:=nodeAt hR hx
  obtain⟨H,rn,rc,rfl⟩:=Bn hvr
  have HX:=Lib.hid (p:=Rd M w b o (aV (D:=D) 7 y)) hR
  clear hR hx
  go_enter Tryz.func129,Tryz.ntmps129
  go_wp2_with fail
  have hzs:w.heap.size<w.heap.size+2:=ω
  go_loopg [1,7] a.length (λg p i wr=>∃(k:Nat) (R:Value) (l:List E8) (G:List Nat),k<=a.length/\g=a.length-k/\p=.int .i64 ((at_+1+(aA (a.take k)).length:Nat):Int)/\i=.int .i64 k/\
   wr.heap[w.heap.size]?=some (.cells #[.int .i64 0,.slice none 0 0,.int .i64 0,.int .i64 0,.bool false,.int .i64 0,.int .i64 0,.slice none 0 0] 221 (0,0))/\
   wr.heap[w.heap.size+1]?=some (.cells #[.int .i64 op,.slice H rn rc,.int .i64 mn,.int .i64 mx,.bool lz,.int .i64 cap,.int .i64 a.length,R] 221 (0,0))/\
   qH wr R l/\KA M wr (a.take k) l G/\(h_ R++G).Nodup/\(∀c∈h_ R++G,w.heap.size+2<=c/\c<wr.heap.size)/\w.heap.size+2<=wr.heap.size/\Below w.heap.size w wr)
  case atStart=>
   refine⟨0,_,[],[],ω,rfl,by rw[ZcA,aA];go_num,rfl,?_,?_,j_.nil _ _ _ _ _,by rw[ZcA,KA];exact⟨rfl,rfl⟩,by simp[h_,Value.ownBlock],by simp[h_,Value.ownBlock],by simp,?_⟩
   ·grind [Below.heap_alloc,heap_alloc_new]
   ·exact sR (by simp) _
   ·exact((Below.refl _ _).alloc (Zah _) _).alloc (by simp) _
  case round=>
   obtain⟨k,R,l,G,hk,rfl,rfl,rfl,hz,q,ho,N,O,L,di,hbl⟩:=hrel
   have A:=IX N
   replace A:l.length=k:=by rw[A,Zar];omega
   have d6:wr.cell? ⟨w.heap.size+1,6,none⟩=some (.int .i64 a.length):=by simp[World.cell?,q]
   have d7:wr.cell? ⟨w.heap.size+1,7,none⟩=some R:=by simp[World.cell?,q]
   obtain⟨d,f,rfl,hrd,_⟩:=ho.rd
   rw[A] at ho O L d7 q
   have HL:=Lib.hid A
   have H1:=Lib.hid hz
   have H2:=Lib.hid q
   have H3:=Lib.hid ho
   have H4:=Lib.hid N
   have H5:=Lib.hid O
   have J:=Lib.hid L
   have H7:=Lib.hid hbl
   have H8:=Lib.hid X
   have H9:=Lib.hid hd
   clear hz q ho N O L hrd hd X A
   have hL:a.length<=y.length:=by
    have h1:=ZaR List.length H9.out
    grind [tN]
   by_cases hlt:k<a.length
   ·obtain⟨I,C⟩:∃I,a[k]?=some I:=⟨_,Zaf hlt⟩
    have ht:aA a=aA (a.take k)++(aD I++aA (a.drop (k+1))):=by
     grind [eH,cG,List.drop_eq_getElem_cons,List.take_append_drop]
    have htk:aA (a.take (k+1))=aA (a.take k)++aD I:=by rw[Zcr,C];exact yC _ _
    have hwt:ku I:=(qq a).1 H8.out I (ZaJ C)
    have U:y.drop (at_+1+(aA (a.take k)).length)=aD I++(aA (a.drop (k+1))++rest):=by
     have h1:=ZaR (List.drop (1+(aA (a.take k)).length)) H9.out
     grind [List.drop_drop]
    have z:=ih I (at_+1+(aA (a.take k)).length) _ wr (by rw[ht] at hn;simp only[Zae,Zab] at hn;omega) hwt U (λi v e=>let ⟨v',a1,a2⟩:=HX.out i v e;⟨v',(H7.out.cell (p:=⟨b,o+i,none⟩) hb).trans a1,a2⟩) ω
    have HT:=Lib.hid ht
    have HK:=Lib.hid htk
    have HX':=Lib.hid C
    clear ht htk C U hwt
    generalize hm:(aA (a.take k)).length=m at z
    have HM:=Lib.hid hm
    clear hm
    go_wp2_with fail
    refine z.mono ?_
    rintro e w1 ⟨x1,F1,rfl,Q,Y,V,lG⟩
    obtain⟨qa,qn,qc,pa,pn,pc,ex⟩:=yL Q
    rw[ex]
    have G1:=Lib.hid Q
    have G2:=Lib.hid Y
    have G3:=Lib.hid V
    have G4:=Lib.hid lG
    have G5:=Lib.hid ex
    have hs1:=lG.size
    have Z:qH w1 (.slice d k f) l:=H3.out.below lG (Zah _)
    have s:=(lG.block (w.heap.size+1) ω).trans H2.out
    have d7:w1.cell? ⟨w.heap.size+1,7,none⟩=some (.slice d k f):=by rw[iT s];rfl
    have O1:=Lib.hid Z
    have B1:=Lib.hid s
    have hs2:w.heap.size+1<w1.heap.size:=ω
    have hs3:w.heap.size+1<w1.heap.size+1:=ω
    have hlm:l.length<1000000000:=by rw[HL.out];omega
    clear Q Y V lG ex Z s
    go_wp2_with (at_builtin;go_must (refine CS (a_:=e8) (v:=.slice d k f) ϒ rfl rfl rfl rfl (by simp) (O1.out.alloc _) x1 G5.out.symm IW Qfy hlm (by decide) (Zaj _) ?_);intro v2 w2 o2 g2 f2;go_must (obtain⟨g',cp,rfl,_⟩:=o2.form (by simp);have B:=(g2.block (w.heap.size+1) (by simp;omega) (λe=>by have:=(J.out _ (Zay _ (by unfold h_;rw[<-e];exact ZaI.2 rfl))).1;omega)).trans ((Below.heap_alloc _ _ _ (by simp;omega)).trans ((Below.heap_alloc _ _ _ hs2).trans B1.out));have d8:w2.cell? ⟨w.heap.size+1,7,none⟩=some (.slice d k f):=iT B 7;have f8:w2.frozen? ⟨w.heap.size+1,7,none⟩=false:=LF B 7;have B2:=Lib.hid B;have O2:=Lib.hid o2;have G6:=Lib.hid g2;have G7:=Lib.hid f2;clear B o2 g2 f2))
    go_roundg (a.length-(k+1))
    case measure=>omega
    case rel=>
     have hE:(l++[x1]).length=l.length+1:=by simp
     have hr:=VM (u:=.slice (some ⟨g',0,none⟩) (l.length+1) cp) H3.out H4.out H5.out (n1:=w.heap.size+1) (λc E=>J.out c E) di G4.out G1.out G2.out G3.out O2.out G6.out G7.out
     rw[hE] at hr
     refine⟨k+1,_,_,_,ω,rfl,?_,by go_num,?_,?_,hr.1,?_,hr.2.2.1,hr.2.2.2,?_,?_⟩
     ·rw[HK.out,Zab,HM.out];go_num
     ·rw[Below.heap_setCell _ _ _ _ (by show w.heap.size≠w.heap.size+1;omega),G6.out.block _ (by simp;omega) (λe=>by have:=(J.out _ (Zay _ (sS e.symm))).1;omega),Below.heap_alloc _ _ _ (by simp;omega),Below.heap_alloc _ _ _ ω,G4.out.block _ ω];exact H1.out
     ·simp only[World.setCell,ZbF,Zac,B2.out,Zcp];rfl
     ·rw[Zcr,HX'.out];exact hr.2.1
     ·have:=G6.out.size;simp only[World.alloc,ZcH] at this;simp only[World.setCell,Array.size_modify];omega
     ·exact((H7.out.trans (G4.out.mono ω)).trans (((Below.refl w.heap.size w1).alloc ω _).alloc (by simp;omega) _)).grown G6.out (by simp;omega) (λc e=>by have:=(J.out _ (Zay _ (sS e))).1;omega) |>.setCell (by show w.heap.size<=w.heap.size+1;omega) _
   ·obtain rfl:k=a.length:=ω
    have hcz:∀j,wr.cell? ⟨w.heap.size,j,none⟩=(#[.int .i64 0,.slice none 0 0,.int .i64 0,.int .i64 0,.bool false,.int .i64 0,.int .i64 0,.slice none 0 0]:Array Value)[j]?:=λj=>iT H1.out j
    have hfz:∀j,wr.frozen? ⟨w.heap.size,j,none⟩=false:=LF H1.out
    have hcb:∀j,wr.cell? ⟨w.heap.size+1,j,none⟩=(#[.int .i64 op,.slice H rn rc,.int .i64 mn,.int .i64 mx,.bool lz,.int .i64 cap,.int .i64 a.length,.slice d a.length f]:Array Value)[j]?:=λj=>iT H2.out j
    clear d6 d7
    go_wp2_with fail
    obtain⟨W,hW⟩:∃W,W=Fv wr w.heap.size (.int .i64 op) (.slice H rn rc) (.int .i64 mn) (.int .i64 mx) (.bool lz) (.int .i64 cap) (.int .i64 a.length) (.slice d a.length f):=⟨_,rfl⟩
    have T:=Bo H1.out rfl (v0:=.int .i64 op) (v1:=.slice H rn rc) (v2:=.int .i64 mn) (v3:=.int .i64 mx) (v4:=.bool lz) (v5:=.int .i64 cap) (v6:=.int .i64 a.length) (v7:=.slice d a.length f)
    have K:=λk h=>yM (w:=wr) (b:=w.heap.size) (k:=k) (v0:=.int .i64 op) (v1:=.slice H rn rc) (v2:=.int .i64 mn) (v3:=.int .i64 mx) (v4:=.bool lz) (v5:=.int .i64 cap) (v6:=.int .i64 a.length) (v7:=.slice d a.length f) h
    have S:=lx (w:=wr) (b:=w.heap.size) (v0:=.int .i64 op) (v1:=.slice H rn rc) (v2:=.int .i64 mn) (v3:=.int .i64 mx) (v4:=.bool lz) (v5:=.int .i64 cap) (v6:=.int .i64 a.length) (v7:=.slice d a.length f)
    rw[<-hW] at T K S
    change bodyPost _ _ _ _ _ (Fv wr w.heap.size (.int .i64 op) (.slice H rn rc) (.int .i64 mn) (.int .i64 mx) (.bool lz) (.int .i64 cap) (.int .i64 a.length) (.slice d a.length f))
    rw[<-hW]
    have hT:=H4.out
    have hP:=H9.out
    rw[ZaM] at hT ⊢
    have hv:=run_loadVar_row (P:=prog) W w.heap.size _ 221 _ _ _ T Tryz.underlying221 rfl (by kernel_rfl)
    refine bodyPost_ret (VK rfl _ rfl hv) rfl ?_
    refine⟨⟨[.int .i64 op,.slice H rn rc,.int .i64 mn,.int .i64 mx,.bool lz,.int .i64 cap,.int .i64 a.length,.slice d a.length f],rfl,by simp[Value.oneCell']⟩,h_ (.slice d a.length f)++G,?_,?_,H5.out,λc E=>by have:=(J.out c E).1;omega,?_⟩
    ·have hn':at_+1+(aA a).length=at_+(aD (.mk op r mn mx lz cap (a.length:Int) a)).length:=by rw[aD,Zae];omega
     rw[<-hn']
     rfl
    ·rw[TA]
     exact⟨_,_,l,G,rfl,hvr,hin,nm H3.out λc E _=>K c (by have:=(J.out c (Zay _ E)).1;omega),rfl,qw (l4 M) _ _ _ hT λc E _=>K c (by have:=(J.out c (ZaC _ E)).1;omega)⟩
    ·exact H7.out.trans (S.mono (Zah _))
end sx
set_option maxRecDepth 100000
set_option maxHeartbeats 4000000
namespace sx
noncomputable section
open Go Go.RowKit cls syn
def IY (y:cj):Prop:=let b:=ag y.r;Iv True/\(∃z:CP,RAH y.r b ([]=z.o/\0=((z.i:Nat):Int)/\0=ag z.t/\[]=z.t/\(Iv (yI y z))))/\(∀x:CP,let q1:=((x.i:Nat):Int);let a:=gt (iX.mk [] []) y.r q1.toNat;let f:=!(!(jM x.t a.name));let c:=(cm a.text).1;let d:=rD x.t a.name q1;let g:=!(aB (cm a.text).2.1 0);let e:=bM x.o [lk (cP c)];(Iv (yI y x))->aj (aw q1 b) (aG 0 q1/\aw q1 b/\Iv True/\RAG a.name (aj (!(iZ a.name)) ([]=(bs y).out/\False) (Iv (TbP (XJ.mk x.t a.name q1))/\aa [a.name] (aa [q1,ag x.t] (aa [x.t] (aj f ([]=(bs y).out/\False) (Iv True/\aa [a.text] (aj g ([]=(bs y).out/\False) (Iv (oy c)/\aa [c] (bJ (ag e) 24/\∃z:CP,aa [y.r] (aa [b] (e=z.o/\ay .i64 q1 1=((z.i:Nat):Int)/\ag d=ag z.t/\d=z.t/\(Iv (yI y z/\(y.r.length-z.i)<(y.r.length-x.i))))))))))))))) (x.o=(bs y).out/\RAA (ag x.t=ag (bs y).tab/\x.t=(bs y).tab/\True)))
def IZ (y:cj):Prop:=let b:=ag y.r;Iv True/\(∃z:CP,RAH y.r b ([]=z.o/\0=((z.i:Nat):Int)/\0=ag z.t/\[]=z.t/\(Iv (yI y z))))/\(∀x:CP,let q1:=((x.i:Nat):Int);let a:=gt (iX.mk [] []) y.r q1.toNat;let g:=!(!(jM x.t a.name));let c:=(cm a.text).1;let d:=rD x.t a.name q1;let e:=(cm a.text).2.1;let f:=bM x.o [lk (cP c)];(Iv (yI y x))->aj (aw q1 b) (aG 0 q1/\aw q1 b/\Iv True/\RAG a.name (aj (!(iZ a.name)) (14=(bs y).an/\q1=(bs y).at_/\True) (Iv (TbP (XJ.mk x.t a.name q1))/\aa [a.name] (aa [q1,ag x.t] (aa [x.t] (aj g (8=(bs y).an/\q1=(bs y).at_/\True) (Iv True/\aa [a.text] (aj (!(aB e 0)) (e=(bs y).an/\q1=(bs y).at_/\True) (Iv (oy c)/\aa [c] (bJ (ag f) 24/\∃z:CP,aa [y.r] (aa [b] (f=z.o/\ay .i64 q1 1=((z.i:Nat):Int)/\ag d=ag z.t/\d=z.t/\(Iv (yI y z/\(y.r.length-z.i)<(y.r.length-x.i))))))))))))))) (False))
abbrev RAD (p:Prop):Prop:=aa ([[]]:List (List aW)) p
abbrev RAE (p:Prop):Prop:=aa ([[]]:List (List Int)) p
def I0 (y:cj):Prop:=let a:=CQ y;let q1:=bZ (bs y).out;let k:=ag (bs y).tab;let o:=!(aB (bs y).an 0);let b:=([lk (cP a)]:List (List Nd));let l:=!(aB (cm y.c).2.1 0);let m:=!(aB (bZ b).2.1 0);let i:=λp:Prop=>RAA (RA4 y p);let j:=λp:Prop=>RA4 y p;let n:=λp:Prop=>RAG (bs y).out (RAC p);let d:Prop:=(RAH k (bs y).tab (True));let e:Prop:=([]=(b9 y).cc/\[]=(b9 y).cs/\d);let f:Prop:=(RA4 y (RAD (RAE (RAD (RAE (False))))));let g:Prop:=((bZ b).1.1=(b9 y).cc/\(bZ b).1.2=(b9 y).cs/\d);let u:=Iv ((Ne (y,true).1.c [])->(cm y.c).2.1=0);let h:Prop:=(RA4 y (RAD (RAE (RAD (RAE (RAH k (bs y).tab (RA4 y (u))))))));aj (aw 8 (ag y.r)) (False) (aj (zM y) (Iv (VB (y,true))/\j (aj (!(aB 0 0)) (False) (Iv (y.r.length<=1000)/\j ((aj (!(seq y.c [])) (Iv True/\RAG y.c (aj l (aa [y.r] (False)) (∃z:Unit,n ((cm y.c).1=a/\h)))) (∃z:Unit,n ([]=a/\h)))/\(∀x:Unit,u->Iv (pJ (bs y).out)/\RAG (bs y).out (aj (!(aB q1.2.1 0)) (False) (aj (!(seq y.c [])) (Iv (oy a)/\aa [a] (Iv (pJ b)/\aa [b] (aj m (aa [y.r] (False)) (i (q1.1.1=(b9 y).af/\q1.1.2=(b9 y).st/\g))))) (i (q1.1.1=(b9 y).af/\q1.1.2=(b9 y).st/\e))))))))) (Iv (VB (y,false))/\j (aj o (False) (Iv (y.r.length<=1000)/\j ((aj (!(seq y.c [])) (Iv True/\RAG y.c (aj l (aa [y.r] (False)) (∃z:Unit,aa [(bs y).at_] ((cm y.c).1=a/\f)))) (∃z:Unit,RAG (bs y).at_ ([]=a/\f)))/\(∀x:Unit,u->Iv (pJ [])/\RAG ([]:List (List Nd)) (aj (!(aB (bZ []).2.1 0)) (False) (aj (!(seq y.c [])) (Iv (oy a)/\aa [a] (Iv (pJ b)/\aa [b] (aj m (aa [y.r] (False)) (i ((bZ []).1.1=(b9 y).af/\(bZ []).1.2=(b9 y).st/\g))))) (i ((bZ []).1.1=(b9 y).af/\(bZ []).1.2=(b9 y).st/\e))))))))))
def I9 (y:cj):Prop:=let a:=CQ y;let q1:=ag (bs y).tab;let l:=!(aB (bs y).an 0);let b:=(cm y.c).2.1;let g:=([lk (cP a)]:List (List Nd));let i:=(bZ (bs y).out).2;let m:=!(aB (bZ g).2.1 0);let h:=λp:Prop=>RA4 y p;let k:=λp:Prop=>RAG (bs y).out (RAC p);let j:Prop:=(ag y.r=(b9 y).at_/\True);let d:Prop:=(RA4 y (RAD (RAE (RAD (RAE (False))))));let u:=Iv ((Ne (y,false).1.c [])->b=0);let e:Prop:=(RA4 y (RAD (RAE (RAD (RAE (RAH q1 (bs y).tab (RA4 y (u))))))));let f:Prop:=(aj (!(seq y.c [])) (Iv (oy a)/\RAG a (Iv (pJ g)/\aa [g] (aj m (aa [y.r] ((bZ g).2.1=(b9 y).an/\j)) (False)))) (False));let A:=aa [y.r] (b=(b9 y).an/\j);aj (aw 8 (ag y.r)) (13=(b9 y).an/\8=(b9 y).at_/\True) (aj (zM y) (Iv (VB (y,true))/\h (aj (!(aB 0 0)) (0=(b9 y).an/\0=(b9 y).at_/\True) (Iv (y.r.length<=1000)/\h ((aj (!(seq y.c [])) (Iv True/\RAG y.c (aj (!(aB b 0)) A (∃z:Unit,k ((cm y.c).1=a/\e)))) (∃z:Unit,k ([]=a/\e)))/\(∀x:Unit,u->Iv (pJ (bs y).out)/\RAG (bs y).out (aj (!(aB i.1 0)) (i.1=(b9 y).an/\i.2=(b9 y).at_/\True) (f))))))) (Iv (VB (y,false))/\h (aj l ((bs y).an=(b9 y).an/\(bs y).at_=(b9 y).at_/\True) (Iv (y.r.length<=1000)/\h ((aj (!(seq y.c [])) (Iv True/\RAG y.c (aj (!(aB b 0)) A (∃z:Unit,aa [(bs y).at_] ((cm y.c).1=a/\d)))) (∃z:Unit,RAG (bs y).at_ ([]=a/\d)))/\(∀x:Unit,u->Iv (pJ [])/\RAG ([]:List (List Nd)) (aj (!(aB (bZ []).2.1 0)) ((bZ []).2.1=(b9 y).an/\(bZ []).2.2=(b9 y).at_/\True) (f))))))))
end
end sx
namespace sx
open Go Go.RowKit cls syn
set_option maxRecDepth 100000
set_option maxHeartbeats 4000000
section
variable {G:List Gt} {aH:Ps->Ps×List Nd}
variable {l:List Nd} {c:List (List Nd)}
theorem eQ:cE []:=λx a=>nomatch a
theorem LG {x:Nd} (h:iO x) (hl:cE l):cE (x::l):=λy a=>by
 rcases List.mem_cons.mp a with h1 | h1
 ·grind
 ·exact hl y h1
def yN {op:Int} (hl:cE l) (mn mx:Int) (lz:Bool) (cap ae:Int):cE (⟨op,[],mn,mx,lz,cap,ae⟩::l):=LG (Zaj _) hl
def sT (l:List Rg) (h:l.length<=1000000):cE [xu l]:=LG h eQ
theorem ϔ (s:Ps):(eh G s).2.1.length<=1000000:=by
 grind [eh,AD]
def Qfz (s:Ps):cE (sd G s).2:=by
 unfold sd;simp only;split
 ·exact eQ
 ·split
  ·exact eQ
  ·split
   ·exact eQ
   ·refine sT _ ?_;split<;>exact lb _
def VS (A:∀s,cE (aH s).2) (s:Ps):cE (ig G aH s).2:=by
  unfold ig;generalize bb G s.next 63=free;cases free<;>simp only[Zbv,Za0,ZaE]
  all_goals
    split
    · exact eQ
    · split
      · exact eQ
      · first
          | (split
             · exact eQ
             · split
               · exact eQ
               · first | exact A _ | exact yN (A _) _ _ _ _ _)
          | (split
             · exact eQ
             · first | exact A _ | exact yN (A _) _ _ _ _ _)
theorem ϕ (A:∀s,cE (aH s).2) (s:Ps):cE (jb G aH s).2:=by
 unfold jb;simp only;split
 ·exact eQ
 ·split
  ·exact VS A s
  ·split
   ·exact Qfz s
   ·split
    ·exact sT _ (ϔ s)
    ·split
     ·exact sT _ (lb _)
     ·split
      ·exact yN eQ _ _ _ _ _
      ·split
       ·exact yN eQ _ _ _ _ _
       ·split
        ·exact eQ
        ·exact sT _ (lb _)
theorem ϖ (s:Ps) (mn mx:Int) (h:cE l):cE (nL G s mn mx l).2:=by
 unfold nL;split
 ·exact eQ
 ·exact yN h _ _ _ _ _
theorem QfA (A:∀s,cE (aH s).2) (s:Ps):cE (fv G aH s).2:=by
 grind [ϕ,fv,eQ,ϖ]
theorem LH (op:Int) (h:∀l∈c,cE l):cE (bW op c):=by
 match c,h with
 | [],_=>exact yN eQ _ _ _ _ _
 | [x],h=>exact h x (by simp)
 | a::b::c,h=>
  refine yN (λx d=>?_) _ _ _ _ _;have⟨l,hl,d⟩:=List.mem_flatten.mp d;exact h l hl x d
theorem CT (h:∀x∈c,cE x) (b:cE l):∀x∈c++[l],cE x:=λx hl=>by
 grind
theorem Fw (A:∀s,cE (aH s).2):∀(n:Nat) (s:Ps) (a:List (List Nd)),(∀l∈a,cE l)->∀l∈(eI G aH n s a).2,cE l
 | 0,s,a,h=>h
 | n+1,s,a,h=>by
  rw[eI];split
  ·exact Fw A n _ _ (CT h (QfA A s))
  ·exact h
def VT (A:∀s,cE (aH s).2) (s:Ps):cE (mD G aH s).2:=LH 3 (Fw A _ _ _ λl hl=>nomatch hl)
theorem Fy (A:∀s,cE (aH s).2):∀(n:Nat) (s:Ps) (a:List (List Nd)),(∀l∈a,cE l)->∀l∈(gx G aH n s a).2,cE l
 | 0,s,a,h=>h
 | n+1,s,a,h=>by
  rw[gx];split
  ·exact Fy A n _ _ (CT h (VT A s.next))
  ·exact h
theorem I':∀(n:Nat) (s:Ps),cE (qZ G n s).2
 | 0,s=>eQ
 | n+1,s=>LH 4 (Fy (I' n) _ _ _ λl hl=>by rw[List.mem_singleton.mp hl];exact VT (I' n) s)
end
variable {l:List Row} {k:By}
theorem ma (y:By):cE (cm y).1:=by
 grind [cm,eQ,xw,I']
theorem LI (v:Int) (h:jM l k=false):rD l k v=l.take (lL l k)++⟨k,v⟩::l.drop (lL l k):=by
 grind [rD]
theorem QfB {j:Nat} (h:j<lL l k) (a:j<l.length):(l[j]).k<k:=by
 have:=ZdK h;grind
theorem VU (d:CL l) (f:jM l k=false) {j:Nat} (h:lL l k<=j) (c:j<l.length):k<(l[j]).k:=by
 have b:∀i (hi:i<l.length),(l[i]).k≠k:=λi hi e=>by
  grind [jM]
 have a:lL l k<l.length:=Nat.lt_of_le_of_lt h c;have h0:¬(l[lL l k]).k<k:=by
  have:=ZcC (w:=a);simp only[Zan,Zbi] at this;exact this
 have h1:k<(l[lL l k]).k:=Std.lt_of_le_of_ne ω λe=>b _ a e.symm
 rcases Zbm (lL l k) j with e | e
 ·exact Zdk h1 (List.pairwise_iff_getElem.mp d _ _ a c e)
 ·grind
theorem VV {v:Int} (c:CL l) (g:jM l k=false):CL (rD l k v)/\(rD l k v).length=l.length+1:=by
 rw[LI v g];constructor
 ·unfold CL;rw[ZbC];refine⟨ZdS (List.take_sublist _ _) c,List.pairwise_cons.mpr ⟨λb f=>?_,ZdS (List.drop_sublist _ _) c⟩,λa d b f=>?_⟩
  ·grind [List.getElem_of_mem,VU]
  ·have⟨i,hi,e⟩:=Za3 d;have h1:a.k<k:=by grind [QfB]
   grind [List.getElem_of_mem,List.lt_trans,VU]
 ·grind
theorem yO {y:cj} {x:CP} (h:yI y x) (b:x.i<y.r.length):
  (iZ (y.r.getD x.i ⟨[],[]⟩).name=false->(bs y).an=14/\(bs y).at_=x.i)/\
  (iZ (y.r.getD x.i ⟨[],[]⟩).name->jM x.t (y.r.getD x.i ⟨[],[]⟩).name->(bs y).an=8/\(bs y).at_=x.i)/\
  (iZ (y.r.getD x.i ⟨[],[]⟩).name->jM x.t (y.r.getD x.i ⟨[],[]⟩).name=false->((cm (y.r.getD x.i ⟨[],[]⟩).text).2.1≠0->(bs y).an=(cm (y.r.getD x.i ⟨[],[]⟩).text).2.1/\(bs y).at_=x.i)/\
   ((cm (y.r.getD x.i ⟨[],[]⟩).text).2.1=0->yI y ⟨rD x.t (y.r.getD x.i ⟨[],[]⟩).name x.i,x.o++[cP (cm (y.r.getD x.i ⟨[],[]⟩).text).1],x.i+1⟩)):=by
 have⟨h1,d,j,f,a⟩:=h;rw[Zaq b,l3] at a;rw[eL b];refine⟨λe=>?_,λc e=>?_,λc e2=>⟨λe=>?_,λe=>?_⟩⟩
 ·grind
 ·grind
 ·grind
 ·rw[Zaa (by grind),Zaa (by grind),Zaa ω] at a;have⟨g,k⟩:=VV (v:=(x.i:Int)) d e2;exact⟨b,g,by grind,by simp[f],a⟩
theorem Qky (y:cj) (b:Bool) (l:Ft.pre (y,b)):(b->IY y)/\(b=false->IZ y):=by
 obtain⟨hl,s⟩:y.r.length<=8/\b=zM y:=l;have m:(zM y↔(bs y).an=0):=by grind [zM]
 have hz:yI y ⟨[],[],0⟩:=⟨Zaj _,List.Pairwise.nil,Zah _,rfl,by grind [bs,aC]⟩;have k:∀n,gt (iX.mk [] []) y.r n=y.r.getD n ⟨[],[]⟩:=λ_=>rfl
 constructor
 ·intro p;unfold IY;simp only[bL,bC,au,k,br,Zad,aT,Zan,Zao,aC];refine⟨⟨⟨[],[],0⟩,rfl,rfl,rfl,rfl,hz⟩,λx c=>⟨λe=>?_,λe=>?_⟩⟩
  ·have f:x.i<y.r.length:=ω;have⟨g,j,s3⟩:=yO c f;have⟨i1,i2,i3,i4,i5⟩:=c;refine⟨ω,e,λq=>?_,λq=>⟨⟨i2,by grind⟩,λa=>?_,λa=>⟨λd=>?_,λd=>⟨ma _,?_,_,rfl,bK ω,rfl,rfl,(s3 q a).2 d,by grind⟩⟩⟩⟩
   ·grind
   ·grind
   ·grind
   ·grind
  ·have⟨i1,i2,i3,i4,i5⟩:=c;grind [l3]
 ·intro o;have h0:(bs y).an≠0:=λh=>by grind
  unfold IZ;simp only[bL,bC,au,k,br,Zad,aT,Zan,Zao,aC];refine⟨⟨⟨[],[],0⟩,rfl,rfl,rfl,rfl,hz⟩,λx c=>⟨λe=>?_,λe=>?_⟩⟩
  ·have f:x.i<y.r.length:=ω;have⟨g,j,s3⟩:=yO c f;have⟨i1,i2,i3,i4,i5⟩:=c;refine⟨ω,e,λq=>⟨(g q).1.symm,(g q).2.symm⟩,λq=>⟨⟨i2,by grind⟩,λa=>⟨(j q a).1.symm,(j q a).2.symm⟩,λa=>⟨λd=>⟨((s3 q a).1 d).1.symm,((s3 q a).1 d).2.symm⟩,λd=>⟨ma _,?_,_,rfl,bK ω,rfl,rfl,(s3 q a).2 d,by grind⟩⟩⟩⟩;simp only[Zab,Zae,Zak];omega
  ·have⟨i1,i2,i3,i4,i5⟩:=c;have:x.i=y.r.length:=ω;rw[this,ZbH,l3] at i5;rw[<-i5] at h0;exact h0 rfl
def Qkz (hs:Ok IT) (b:Ok dB) (c:Ok yk):Ok Ft:=Qo5 (k:=Ft) (T:=IY) (F:=IZ) [Vw,IQ,IT,zH,E7] f73 Qkl id id (λ_=>rfl) ⟨Qki,Qkf,hs,Qcj b c,Qcz b⟩ (λy a=>(Qky y true a).1 rfl) λy a=>(Qky y false a).2 rfl
theorem wm {l:List Nd} (h:cE l):cE (cP l):=by
 unfold cP;split
 ·rename_i b
  have⟨t,h1,a,c⟩:=jl b;have e:cu l=(t,[]):=by grind [pE]
  rw[e];exact(qp t (E_ t h1) (by rw[<-a];exact⟨Zah _,h⟩)).2.2
 ·exact eQ
theorem wo:∀(l:List iX) (i:Nat) (t:List Row) (o:List (List Nd)),(∀x∈o,cE x)->(∀x∈(l3 l i t o).out,cE x)/\(l3 l i t o).out.length<=o.length+l.length
 | [],i,t,o,h=>⟨h,Zah _⟩
 | x::l,i,t,o,h=>by
  rw[l3];split
  ·grind
  ·split
   ·grind
   ·split
    ·grind
    ·have⟨h1,a⟩:=wo l (i+1) (rD t x.name i) (o++[cP (cm x.text).1]) (CT h (wm (ma _)));grind
section
variable {y:cj} (h1:¬8<y.r.length)
include h1
theorem VW (a:(bs y).an≠0):jm y=LB (bs y).an (bs y).at_:=by grind [jm]
theorem VX (a:(bs y).an=0) (b:y.c≠[]) (d:(cm y.c).2.1≠0):jm y=LB (cm y.c).2.1 y.r.length:=by grind [jm]
variable (h2:(bs y).an=0) (h3:y.c≠[]->(cm y.c).2.1=0)
include h2 h3
theorem VY (a:(bZ (bs y).out).2.1≠0):jm y=LB (bZ (bs y).out).2.1 (bZ (bs y).out).2.2:=by grind [jm]
variable (h4:(bZ (bs y).out).2.1=0)
include h4
theorem VZ (a:y.c≠[]) (b:(bZ [cP (cm y.c).1]).2.1≠0):jm y=LB (bZ [cP (cm y.c).1]).2.1 y.r.length:=by grind [jm]
theorem V0 (a:y.c≠[]) (b:(bZ [cP (cm y.c).1]).2.1=0):jm y=⟨(bZ (bs y).out).1.1,(bZ (bs y).out).1.2,(bZ [cP (cm y.c).1]).1.1,(bZ [cP (cm y.c).1]).1.2,0,0⟩:=by grind [jm]
theorem V1 (a:y.c=[]):jm y=⟨(bZ (bs y).out).1.1,(bZ (bs y).out).1.2,[],[],0,0⟩:=by grind [jm]
end
theorem QkA (y:cj) (b:Bool) (B:zN.pre (y,b)):(b->I0 y)/\(b=false->I9 y):=by
 obtain⟨hl,E⟩:y.r.length<=1000/\b=oK y:=B;have z:b9 y=jm y:=by grind [b9,aC]
 have n:y.c≠[]->CQ y=(cm y.c).1:=λh=>by grind [CQ,aC]
 have j:y.c=[]->CQ y=[]:=λh=>by grind [CQ,aC]
 have p:b↔(jm y).an=0:=by grind [oK]
 have m:(zM y↔(bs y).an=0):=by grind [zM]
 have i:(zM y=false↔(bs y).an≠0):=by grind
 have v:∀{s:By},seq s []=false↔s≠[]:=λ{s}=>by grind
 obtain⟨C,F⟩:(∀x∈(bs y).out,cE x)/\(bs y).out.length<=y.r.length:=by
  grind [wo,bs,aC]
 have w:pJ (bs y).out:=⟨ω,C⟩;have q:cE (CQ y):=by
  by_cases h:y.c=[]
  ·grind [eQ]
  ·grind [ma]
 have u:pJ [cP (CQ y)]:=⟨by simp,λl hl=>by rw[List.mem_singleton.mp hl];exact wm q⟩;have t:8<y.r.length->jm y=LB 13 8:=λh=>by grind [jm]
 constructor
 ·intro A;have h0:=p.mp A;unfold I0;simp only[bL,bC,au,xJ,v,Zan,Zao,aC,ZaY,ZaZ,m,i];refine⟨λo=>?_,λo=>⟨λd=>⟨⟨by grind,(m.mpr d).symm⟩,λh=>absurd rfl h,hl,⟨λa=>⟨λf=>?_,λf=>⟨(n a).symm,λ_=>f⟩⟩,λa=>⟨(j a).symm,λh=>absurd a h⟩⟩,λk=>⟨w,λg=>?_,λg=>⟨λa=>⟨q,u,λe=>?_,λe=>?_⟩,λa=>?_⟩⟩⟩,λd=>absurd ?_ d⟩⟩
  ·rw[t ω] at h0;cases h0
  ·rw[VX ω d a f] at h0;exact f h0
  ·rw[VY ω d k g] at h0;exact g h0
  ·rw[n a] at e;rw[VZ ω d k g a e] at h0;exact e h0
  ·grind [V0]
  ·grind [V1]
  ·refine Zch λh=>?_
   rw[VW ω h] at h0;exact h h0
 ·intro D;unfold I9;rw[z];simp only[bL,bC,au,xJ,v,Zan,Zao,aC,ZaY,ZaZ,m,i];refine⟨λo=>?_,λo=>⟨λd=>⟨⟨by grind,(m.mpr d).symm⟩,λh=>absurd rfl h,hl,⟨λa=>⟨λf=>?_,λf=>⟨(n a).symm,λ_=>f⟩⟩,λa=>⟨(j a).symm,λh=>absurd a h⟩⟩,λk=>⟨w,λg=>?_,λg=>⟨λa=>⟨q,u,λe=>?_,λe=>?_⟩,λa=>?_⟩⟩⟩,λd=>⟨⟨by grind,(i.mpr d).symm⟩,λ_=>?_,λh=>absurd h d⟩⟩⟩
  ·rw[t ω];exact⟨rfl,rfl⟩
  ·rw[VX ω d a f];exact⟨rfl,rfl⟩
  ·rw[VY ω d k g];exact⟨rfl,rfl⟩
  ·rw[n a] at e ⊢;rw[VZ ω d k g a e];exact⟨rfl,rfl⟩
  ·grind [V0]
  ·grind [V1]
  ·rw[VW ω d];exact⟨rfl,rfl⟩
def QkB (hs:Ok IT) (a:Ok dB) (c:Ok yk):Ok zN:=Qo5 (k:=zN) (T:=I0) (F:=I9) [Ft,Vx,zH,IP,E7] f28 Qkp id id (λ_=>rfl) ⟨Qkz hs a c,Qkj,Qcj a c,Qkc a,Qcz a⟩ (λy b=>(QkA y true b).1 rfl) λy b=>(QkA y false b).2 rfl
end sx
set_option maxRecDepth 100000
set_option maxHeartbeats 4000000
namespace sx
noncomputable section
open Go Go.RowKit cls syn
def I_:bh D:=bO 130 ah (λa _=>vp a) dO (λy=>[.agg (D.a_ 15 y)]) λy=>.list 7 (dg y)
def Qr7 (t:ah):ah:=.mk t.op t.r t.mn t.mx t.lz t.cap t.ae.length t.ae
abbrev tbx (t:ah):Nat×AO D.E:=(0,.cells (D.a_ 15 t) 221 false)
def Qr9 (y:I_.Y):cH D:=⟨[],[],[(122,⟨Nat,[],λx=>[(1,.ptr 0 0),(3,.grow 7 (pA y x) 1),(4,Qvo x)],[],λ_=>[tbx (Qr7 y),(1,.tok 7 206)],2,λx=>x<=y.ae.length,λx=>y.ae.length-x⟩)],[],1,[]⟩
def Qsa (y:I_.Y):Prop:=vc [I_.under dm (dm y)] f130 I_ Qr9 y
def vD (a b:ah):Bool:=lk (decide (aD a=aD b))
def Oz:bh D:=bO 258 (ah×ah) (λa _=>QjK a) (λy=>dO y.1/\dO y.2) (λy=>[.agg (D.a_ 15 y.1),.agg (D.a_ 15 y.2)]) λy=>.bool (vD y.1 y.2)
def Fz (y:ah×ah) (i:Nat):Prop:=i<=(dg y.1).length/\(dg y.1).length=(dg y.2).length/\∀j,j<i->(dg y.1).getD j (nd 0)=(dg y.2).getD j (nd 0)
def OA (y:ah×ah) (i k:Nat):Prop:=Fz y i/\i<(dg y.1).length/\({ (dg y.1).getD i (nd 0) with r:=[] }={ (dg y.2).getD i (nd 0) with r:=[] }/\((dg y.1).getD i (nd 0)).r.length=((dg y.2).getD i (nd 0)).r.length)/\k<=((dg y.1).getD i (nd 0)).r.length/\∀j,j<k->((dg y.1).getD i (nd 0)).r.getD j (0,0)=((dg y.2).getD i (nd 0)).r.getD j (0,0)
def Qsb (y:Oz.Y):cH D:=⟨[],[],[(122,⟨Nat,[5,6],λi=>[(7,Qvo i)],[],λ_=>[],0,Fz y,λi=>(dg y.1).length-i⟩)],[],1,
 [(15654,⟨Nat,λi=>⟨Nat,[5,6,7],λx=>[(8,Qvo x)],[],λ_=>[],0,OA y i,λx=>((dg y.1).getD i (nd 0)).r.length-x⟩,none⟩)]⟩
def Ja:bh D:=bO 228 ah (λa _=>vp a) dO (λy=>[.agg (D.a_ 15 y)]) λy=>.bool (fo y)
def Qsd (y:Ja.Y):cH D:=⟨[],[],[(58,{ X:=Nat,aO:=[],sl:=λx=>[(1,.ptr 0 0),(3,Qvo x)],kp:=[],pc:=λ_=>[tbx y],nx:=1,inv:=λx=>x<=y.ae.length/\∀j,j<x->fo (y.ae.getD j bF)=false,me:=λx=>y.ae.length-x })],[],1,[]⟩
def Qse (y:Ja.Y):Prop:=vc [Ja.under dm (dm y)] f228 Ja Qsd y
abbrev RA7 (v:ah) (p:Prop):Prop:=aa [v.r] (aa [v.mn] (aa [v.mx] (aa [v.lz] (aa [v.cap] p))))
def V2 (y:ah):Prop:=let b:=y.ae;let q1:=b.length;let d:=(q1:Int);(∃z:Nat,([Nd.mk y.op y.r y.mn y.mx y.lz y.cap (ag b)]:List Nd)=pA y z/\0=(z:Int)/\RAG y.op (RA7 y (ag b=d/\aa [b] ((Iv (z<=q1))))))/\(∀x:Nat,let e:=aw (x:Int) (ag b);let a:=gt (ah.mk 0 [] 0 0 false 0 0 []) b (x:Int).toNat;let c:=ah.mk a.op a.r a.mn a.mx a.lz a.cap a.nk a.ae;let f:=bM (pA y x) (dg c);(Iv (x<=q1))->aj e (aG 0 (x:Int)=true/\e=true/\Iv (dO c/\dm c<dm y)/\RA0 a (RAG a.ae (bJ (ag f) 72=true/\∃z:Nat,f=pA y z/\ay .i64 (x:Int) 1=(z:Int)/\aa [y.op] (aa [y.r] (aa [y.mn,y.mx] (aa [y.lz] (aa [y.cap,d] (aa [b] ((Iv (z<=q1/\(q1-z)<(q1-x)))))))))))) (pA y x=dg y/\True))
def ϗ:∀y,V2 y=Qsa y:=λy=>by kernel_rfl
def V3 (y:ah×ah):Prop:=let u:=(dg y.1).length;let q1:=ah.mk y.2.op y.2.r y.2.mn y.2.mx y.2.lz y.2.cap y.2.nk y.2.ae;let v:=ah.mk y.1.op y.1.r y.1.mn y.1.mx y.1.lz y.1.cap y.1.nk y.1.ae;let i:=dg v;let j:=dg q1;let c:=ag i;let g:=ag j;let A:=Nd.mk 0 [] 0 0 false 0 0;Iv (dO v)/\RA0 y.1 (RAG y.1.ae (Iv (dO q1)/\aa [y.2.op] (aa [y.2.r] (aa [y.2.mn,y.2.mx] (aa [y.2.lz] (aa [y.2.cap,y.2.nk] (aa [y.2.ae] (aa [y.1.op] (aa [y.1.r] (aa [y.1.mn,y.1.mx] (aa [y.1.lz] (aa [y.1.cap,y.1.nk] (aa [y.1.ae] (aa [y.2.op] (aa [y.2.r] (aa [y.2.mn,y.2.mx] (aa [y.2.lz] (aa [y.2.cap,y.2.nk] (aa [y.2.ae] (aa [y.2.op] (aa [y.2.r] (aa [y.2.mn,y.2.mx] (aa [y.2.lz] (aa [y.2.cap,y.2.nk] (aa [y.2.ae] (aj (!(aB c g)) (false=vD y.1 y.2/\True) ((∃z:Nat,aa [i,j] (0=(z:Int)/\(Iv (Fz y z))))/\(∀x:Nat,let a:=gt A i (x:Int).toNat;let b:=gt A j (x:Int).toNat;let w:=!(aB a.op b.op);let m:=!(oD a.lz b.lz);let n:=!(aB a.ae b.ae);let o:=!(aB a.cap b.cap);let p:=!(aB a.mx b.mx);let q:=!(aB a.mn b.mn);let s:=!(aB (ag a.r) (ag b.r));(Iv (Fz y x))->aj (aw (x:Int) c) (aG 0 (x:Int)/\aw (x:Int) c/\aG 0 (x:Int)/\aw (x:Int) g/\aj w (aa [a.op,b.op] (false=vD y.1 y.2/\True)) (aG 0 (x:Int)/\aw (x:Int) c/\aG 0 (x:Int)/\aw (x:Int) g/\aj q (aa [a.op,b.op,a.mn,b.mn] (false=vD y.1 y.2/\True)) (aG 0 (x:Int)/\aw (x:Int) c/\aG 0 (x:Int)/\aw (x:Int) g/\aj p (aa [a.op,b.op,a.mn,b.mn,a.mx,b.mx] (false=vD y.1 y.2/\True)) (aG 0 (x:Int)/\aw (x:Int) c/\aG 0 (x:Int)/\aw (x:Int) g/\aj m (aa [a.op,b.op,a.mn,b.mn,a.mx,b.mx] (aa [a.lz,b.lz] (false=vD y.1 y.2/\True))) (aG 0 (x:Int)/\aw (x:Int) c/\aG 0 (x:Int)/\aw (x:Int) g/\aj o (aa [a.op,b.op,a.mn,b.mn,a.mx,b.mx] (aa [a.lz,b.lz] (aa [a.cap,b.cap] (false=vD y.1 y.2/\True)))) (aG 0 (x:Int)/\aw (x:Int) c/\aG 0 (x:Int)/\aw (x:Int) g/\aj n (aa [a.op,b.op,a.mn,b.mn,a.mx,b.mx] (aa [a.lz,b.lz] (aa [a.cap,b.cap,a.ae,b.ae] (false=vD y.1 y.2/\True)))) (aG 0 (x:Int)/\aw (x:Int) c/\aG 0 (x:Int)/\aw (x:Int) g/\aa [a.op,b.op,a.mn,b.mn,a.mx,b.mx] (aa [a.lz,b.lz] (aa [a.cap,b.cap,a.ae,b.ae] (aa [a.r,b.r] (aj s (false=vD y.1 y.2/\True) (∃z:Nat,let k:=(List.getD (dg y.1) z (nd 0)).r.length;(∃d:Nat,aa [i,j] (aa [(x:Int)] (0=(d:Int)/\(Iv (OA y z d)))))/\(∀h:Nat,let l:=aw (h:Int) (ag a.r);let e:=gt (0,0) a.r (h:Int).toNat;let f:=gt (0,0) b.r (h:Int).toNat;let t:=!((aB e.1 f.1)&&(aB e.2 f.2));(Iv (OA y z h))->aG 0 (x:Int)/\aw (x:Int) c/\aj l (aG 0 (x:Int)/\aw (x:Int) c/\aG 0 (h:Int)/\l/\aG 0 (x:Int)/\aw (x:Int) g/\aG 0 (h:Int)/\aw (h:Int) (ag b.r)/\aa [a.r] (aa [e.1,e.2] (aa [b.r] (aa [f.1,f.2] (aj t (false=vD y.1 y.2/\True) (∃d:Nat,aa [i,j] (aa [(x:Int)] (ay .i64 (h:Int) 1=(d:Int)/\(Iv (OA y z d/\(k-d)<(k-h))))))))))) (∃d:Nat,aa [i,j] (ay .i64 (x:Int) 1=(d:Int)/\(Iv (Fz y d/\(u-d)<(u-x)))))))))))))))))) (true=vD y.1 y.2/\True)))))))))))))))))))))))))))))
def V4 (y:ah):Prop:=let b:=y.ae;let f:=λp:Prop=>RA0 y (RAG b p);let u:=λz:Nat=>(∀j:Nat,(Nat.le (Nat.succ j) z)->fo (List.getD b j bF)=false);aj (aB y.op 6) (true=fo y/\True) ((∃z:Nat,0=(z:Int)/\f ((Iv (z<=b.length/\u z))))/\(∀x:Nat,let c:=b.length;let e:=aw (x:Int) (ag b);let a:=gt (ah.mk 0 [] 0 0 false 0 0 []) b (x:Int).toNat;let d:=ah.mk a.op a.r a.mn a.mx a.lz a.cap a.nk a.ae;(Iv (x<=c/\(∀j:Nat,(Nat.le (Nat.succ j) x)->fo (List.getD b j bF)=false)))->aj e (aG 0 (x:Int)/\e/\Iv (dO d/\dm d<dm y)/\RA0 a (RAG a.ae (aj (fo d) (true=fo y/\True) (∃z:Nat,ay .i64 (x:Int) 1=(z:Int)/\f ((Iv ((z<=c/\u z)/\(c-z)<(c-x)))))))) (false=fo y/\True)))
def ϙ:∀y,V4 y=Qse y:=λy=>by kernel_rfl
end
end sx
end Go.Proofs.YtiiiphndmbabcaaGreat
