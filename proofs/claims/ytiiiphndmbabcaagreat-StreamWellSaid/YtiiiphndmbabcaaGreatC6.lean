/- StreamWell: a part of the proof. -/
import Derived.Test.YtiiiphndmbabcaaGreatC5
set_option linter.all false
namespace Go.Proofs.YtiiiphndmbabcaaGreat
open Go.Proofs.Tryz
set_option maxRecDepth 100000
set_option maxHeartbeats 4000000
namespace sx
noncomputable section
open Go Go.RowKit cls syn
theorem bS (t:ai):ai.mk t.op t.r t.mn t.mx t.lz t.cap t.nk t.af=t:=by cases t;rfl
theorem QoX (y:Int×List ai) (d:MN.pre y):SM y:=by
 obtain⟨op,c⟩:=y;unfold SM;simp only[bN,bh,aw,di,aJ]
 match c with
 | []=>exact⟨λ_=>⟨rfl,rfl,rfl,rfl,rfl,rfl,rfl,rfl⟩,λh=>absurd rfl h⟩
 | [k]=>exact⟨λh=>by grind,λ_=>⟨λ_=>⟨by simp,rfl,rfl,rfl,rfl,rfl,rfl,rfl,rfl⟩,λh=>by grind⟩⟩
 | a::b::l=>exact⟨λh=>by grind,λ_=>⟨λh=>by grind,λ_=>⟨rfl,rfl,rfl,rfl,rfl,rfl,rfl,rfl⟩⟩⟩
def QaY:Ok MN:=okZ [] f219 (λ_=>dr ()) trivial QoX
theorem QoY (y:Nd) (_:SK.pre y):SN y:=by
 grind [SN,eH]
def Qhz:Ok SK:=okZ [] f223 (λ_=>dr ()) trivial QoY
theorem Hm (op:Int) (a b:List ai):aG op (a++b)=aG op a++aG op b:=by grind [aG]
theorem kW (op:Int) (l:List ai) (n:Nat):(aG op (l.take n)).length<=(aG op l).length:=by
 grind [List.take_append_drop,Hm]
theorem cm {α:Type} {l:List α} {n:Nat} (d:α) (h:n<l.length):l.take (n+1)=l.take n++[l.getD n d]:=by
 simp_all
theorem QoZ (y:Int×List ai) (c:MO.pre y):SO y:=by
 obtain⟨op,a⟩:=y;obtain⟨h1,d⟩:a.length<=1000000/\(aG op a).length<=1000000:=c;unfold SO;simp only[bN,bh,aw,a8,br,di,bS,Zad];refine⟨⟨0,by rfl,rfl,ω,by simp[aG]⟩,λx f=>⟨λe=>⟨ω,e,λb=>?_,λb=>?_⟩,λe=>?_⟩⟩
 ·have e:x<a.length:=ω;have ht:=cm bD e;have hs:aG op (a.take (x+1))=aG op (a.take x)++(a.getD x bD).af:=by
   grind [aG]
  grind [kW]
 ·have e:x<a.length:=ω;have ht:=cm bD e;have hs:aG op (a.take (x+1))=aG op (a.take x)++[a.getD x bD]:=by
   grind [aG]
  grind [kW]
 ·grind
def QhA:Ok MO:=okZ [] f216 QoR trivial QoZ
theorem Aj {f:List Nd->Option (ai×List Nd)} (c:∀l t a,f l=some (t,a)->a.length<l.length):∀(k:Nat) (l:List Nd) (b:List ai) (a:List Nd),jM f k l=some (b,a)->a.length<=l.length
 | 0,l,b,a,h=>by cases h;exact Zah _
 | k+1,l,b,a,h=>by
  unfold jM at h;split at h
  ·cases h
  ·rename_i t g ht
   split at h
   ·cases h
   ·rename_i e i d
    cases h;have:=c _ _ _ ht;have:=Aj c k _ _ _ d;omega
theorem sd:∀(n:Nat) (l:List Nd) (t:ai) (a:List Nd),fL n l=some (t,a)->a.length<l.length
 | 0,_,_,_,h=>nomatch h
 | _+1,[],_,_,h=>nomatch h
 | n+1,x::l,t,a,h=>by
  unfold fL at h;split at h
  ·cases h
  ·rename_i d c b
   cases h;have:=Aj (sd n) _ _ _ _ b;simp;omega
theorem o_ {f g:List Nd->Option (ai×List Nd)} (N:Nat) (b:∀l t a,f l=some (t,a)->a.length<l.length) (h:∀l,l.length<=N->f l=g l):∀(k:Nat) (l:List Nd),l.length<=N->jM f k l=jM g k l
 | 0,l,_=>rfl
 | k+1,l,hl=>by
  unfold jM;rw[<-h l hl];cases e:f l with
  | none=>rfl
  | some p=>
   obtain⟨t,a⟩:=p;have:=b _ _ _ e;simp only;rw[o_ N b h k a ω]
theorem D4:∀(n m:Nat) (l:List Nd),l.length<=n->l.length<=m->fL n l=fL m l
 | 0,0,l,_,_=>rfl
 | 0,m+1,l,h,_=>by
  cases l with
  | nil=>rfl
  | cons a l=>simp at h
 | n+1,0,l,_,h=>by
  cases l with
  | nil=>rfl
  | cons a l=>simp at h
 | n+1,m+1,l,h1,b=>by
  cases l with
  | nil=>rfl
  | cons a l=>
   simp only[Zae] at h1 b;unfold fL;rw[o_ l.length (sd n) (λc hl=>D4 n m c ω ω) _ l (Zah _)]
theorem Qo0 (y:List Nd) (z:Hk.pre y):SP y:=by
 obtain⟨h1,u⟩:y.length<=1000000/\(fL y.length y).isSome:=z;cases y with
 | nil=>cases u
 | cons X b=>
 have n:tj (X::b)=X:=rfl;obtain⟨a,c,o⟩:∃a c,jM (fL b.length) X.af.toNat b=some (a,c):=by
  grind [fL]
 have m:ct (X::b)=(ai.mk X.op X.r X.mn X.mx X.lz X.cap X.af a,c):=by
  grind [ct,aJ,fL]
 unfold SP;rw[m,n];simp only[bN,bh,aw,a8,br,di,bS,Zad];have h:∀x,MP (X::b) x↔(x.1.length=x.2.2/\x.2.2<=X.af.toNat/\x.2.1.length<b.length+1/\x.1.length+x.2.1.length+1<=b.length+1/\∃j l,jM (fL x.2.1.length) (X.af.toNat-x.2.2) x.2.1=some (j,l)/\x.1++j=a/\l=c):=λx=>by
  unfold MP;rw[m,n];exact ZbW
 have B:b.length+1<=1000000:=by assumption
 refine⟨by grind,by grind,⟨([],b,0),rfl,rfl,rfl,rfl,rfl,rfl,rfl,rfl,rfl,rfl,rfl,(h _).mpr ⟨rfl,Zaj _,Zbr _,by simp,a,c,o,rfl,rfl⟩⟩,λx w=>?_⟩;obtain⟨ds,rest,i⟩:=x;obtain⟨c1,c2,c3,c4,j,l,c5,c6,c7⟩:=(h _).mp w;simp only at c1 c2 c3 c4 c5 c6 c7 ⊢;refine⟨λe=>?_,λe=>?_⟩
 ·rw[show X.af.toNat-i=(X.af.toNat-(i+1))+1 by omega] at c5;unfold jM at c5;cases f:fL rest.length rest with
  | none=>rw[f] at c5;cases c5
  | some p=>
   obtain⟨t,d⟩:=p;rw[f] at c5;simp only at c5;have s:ct rest=(t,d):=by grind [ct,aJ]
   have v:=sd _ _ _ _ f;rw[o_ (g:=fL d.length) d.length (sd _) (λA hl=>D4 _ _ A ω hl) _ d (Zah _)] at c5;split at c5
   ·cases c5
   ·rename_i k C q
    cases c5;rw[s];refine⟨⟨⟨ω,rfl⟩,by assumption⟩,by grind,(ds++[t],d,i+1),rfl,bL ω,rfl,(h _).mpr ⟨by grind,show i+1<=X.af.toNat by omega,by grind,by grind,k,l,q,by grind,c7⟩,show X.af.toNat-(i+1)<X.af.toNat-i by omega⟩
 ·rw[show X.af.toNat-i=0 by omega] at c5;cases c5;exact⟨rfl,rfl,rfl,rfl,rfl,rfl,rfl,show ds=a by grind,c7⟩
def QhB:Ok Hk:=Ql (λy=>y.length) YG trivial Qo0
theorem cD (a b:List ai):aB (a++b)=aB a++aB b:=by
 induction a with
 | nil=>simp[aB]
 | cons x a c=>simp[aB,c]
theorem bU (y:ai):aE y=⟨y.op,y.r,y.mn,y.mx,y.lz,y.cap,y.af.length⟩::aB y.af:=by
 cases y;rw[aE];rfl
theorem iO {y:ai} {n:Nat} (h:n<y.af.length):dg (y.af.getD n bD)<dg y:=by
 unfold dg;rw[aJ,aJ,eG h];have:=ZdR (Zas h);obtain⟨op,r,mn,mx,lz,cap,nk,a⟩:=y;grind [ai.af]
theorem Qo1 (y:ai) (f:Hl.pre y):SQ y:=by
 obtain⟨h1,b⟩:(aE y).length<=1000000/\∀x∈aE y,iN x:=f;have i:y.r.length<=1000000:=by
  have:=b ⟨y.op,y.r,y.mn,y.mx,y.lz,y.cap,y.af.length⟩ (by grind [bU]);exact this
 unfold SQ;simp only[bN,bh,aw,a8,br,di,bS,Zad,o9,dc,aJ];have key:∀l:List ai,l.length<=(aB l).length:=by
  intro l
  induction l with
  | nil=>simp
  | cons a l k=>simp only[aB,Zab,Zae];rw[bU];simp;omega
 have h0:=h1;rw[bU] at h1;simp only[Zae] at h1;have hk:=key y.af;refine⟨ω,⟨0,rfl,rfl,Zaj _⟩,λx j=>⟨λe=>?_,λe=>?_⟩⟩
 ·have e:x<y.af.length:=ω;have ht:=cm bD e;have g:y.af=y.af.take x++(y.af.getD x bD::y.af.drop (x+1)):=by
   simp_all
  have c:aB y.af=aB (y.af.take x)++(aE (y.af.getD x bD)++aB (y.af.drop (x+1))):=by
   grind [cD,aB]
  have hs:aB (y.af.take (x+1))=aB (y.af.take x)++aE (y.af.getD x bD):=by
   grind [cD,aB]
  have hlen:=ZaR List.length c;simp only[Zab] at hlen;have d:y.af.getD x (ai.mk 0 [] 0 0 false 0 0 [])=y.af.getD x bD:=rfl;rw[d];refine⟨ω,e |> λh=>ω,⟨⟨ω,λz hz=>b z ?_⟩,iO e⟩,?_,x+1,?_,bL ω,ω,ω⟩
  ·grind [bU]
  ·grind
  ·grind
 ·grind [bU]
def QhC:Ok Hl:=Ql dg YH trivial Qo1
mutual
def pU:ai->Bool
 | .mk op _ _ _ _ _ _ ks=>op==6||ki ks
def ki:List ai->Bool
 | []=>false
 | t::ts=>pU t||ki ts
end
mutual
def SR:ai->ai->Bool
 | .mk op r mn mx lz cap _ ks,b=>op==b.op&&mn==b.mn&&mx==b.mx&&lz==b.lz&&cap==b.cap&&decide (r=b.r)&&decide (ks.length=b.af.length)&&se ks b.af
def se:List ai->List ai->Bool
 | [],_=>true
 | a::l,b::m=>SR a b&&se l m
 | _::_,[]=>false
end
variable {l:List ai} {i:Nat} {p:ai->Bool}
def fm (t:ai):Bool:=lk (pU t)
def oh (a b:ai):Bool:=lk (SR a b)
def dM (l:List ai):Prop:=(aB l).length<=1000000/\∀x∈aB l,iN x
def uh (l:List ai):Nat:=lk (SizeOf.sizeOf l)
def xH (p:ai->Bool) (l:List ai):Int:=if l.findIdx p<l.length then l.findIdx p else-1
def uH (a:List (AV D.E)):C ai:=match a with
 | [t]=>Hj t
 | _=>.fail
def QhD (a:List (AV D.E)) (s:St D.E):C (List ai):=match a with
 | [l,_]=>aA (aW D s 15 l) λl=>.ret (l:List ai)
 | _=>.fail
def MQ:bk D:=bP 222 ai (λa _=>uH a) dG (λy=>[.agg (D.ba 15 y)]) λy=>.bool (fm y)
def SS:bk D:=bP 251 (List ai) QhD dM (λy=>[.list 15 y,.func (.func 222) [] []]) λy=>.bool (y.any fm)
def MR:bk D:=bP 249 (List ai) QhD dM (λy=>[.list 15 y,.func (.func 222) [] []]) λy=>QtJ (xH fm y)
def QhE (y:MR.Y):cU D:=⟨[],[],[(26,{ X:=Nat,aR:=[0,1,7],sl:=λi=>[(8,QtJ i)],kp:=[],pc:=λ_=>[],nx:=0,inv:=λi=>i<=y.length/\∀j,j<i->fm (y.getD j bD)=false,me:=λi=>y.length-i })],[],1,[]⟩
def fgT (n:Nat):s6:=[MQ.under (λy=>3*dg y) n,SS.under (λy=>3*uh y+2) n,MR.under (λy=>3*uh y+1) n]
def Qo3 (y:MQ.Y):Prop:=vc (fgT (3*dg y)++[]) f222 MQ (λ_=>dr ()) y
def Qo4 (y:SS.Y):Prop:=vc (fgT (3*uh y+2)++[]) f251 SS (λ_=>dr ()) y
def Qo5 (y:MR.Y):Prop:=vc (fgT (3*uh y+1)++[]) f249 MR QhE y
def QhF (a:List (AV D.E)):C (ai×ai):=match a with
 | [t,u]=>aA (Hj t) λx=>aA (Hj u) λy=>.ret (x,y)
 | _=>.fail
def Qo6 (a:List (AV D.E)) (s:St D.E):C (List ai×List ai):=match a with
 | [l,m,_]=>aA (aW D s 15 l) λl=>aA (aW D s 15 m) λm=>.ret ((l:List ai),(m:List ai))
 | _=>.fail
def MS:bk D:=bP 253 (ai×ai) (λa _=>QhF a) (λy=>dG y.1) (λy=>[.agg (D.ba 15 y.1),.agg (D.ba 15 y.2)]) λy=>.bool (oh y.1 y.2)
def smL (l m:List ai):Bool:=lk (decide (l.length=m.length)&&se l m)
def MT:bk D:=bP 276 (List ai×List ai) Qo6 (λy=>dM y.1) (λy=>[.list 15 y.1,.list 15 y.2,.func (.func 253) [] []]) λy=>.bool (smL y.1 y.2)
def YI (y:List ai×List ai) (i:Nat):Prop:=i<=y.1.length/\y.1.length=y.2.length/\se (y.1.drop i) (y.2.drop i)=se y.1 y.2
def QhG (y:MT.Y):cU D:=⟨[],[],[(58,⟨Nat,[0,1,2,15,16],λi=>[(17,QtJ i)],[],λ_=>[],0,YI y,λi=>y.1.length-i⟩)],[],1,[]⟩
def fsT (n:Nat):s6:=[MS.under (λy=>2*dg y.1) n,MT.under (λy=>2*uh y.1+1) n]
def Qo7 (y:MS.Y):Prop:=vc (fsT (2*dg y.1)++[DG]) f253 MS (λ_=>dr ()) y
def Qo8 (y:MT.Y):Prop:=vc (fsT (2*uh y.1+1)++[]) f276 MT QhG y
def SU (y:ai):Prop:=ak (aC y.op 6) (true=fm y/\True) (Iv (dM y.af/\((3*uh y.af)+2)<(3*dg y))/\aa [y.af] (List.any y.af fm=fm y/\True))
def YJ:∀y,SU y=Qo3 y:=λy=>by kernel_rfl
def SV (y:List ai):Prop:=Iv (dM y/\((3*uh y)+1)<((3*uh y)+2))/\aa [y] (aI 0 (xH fm y)=List.any y fm/\True)
def YK:∀y,SV y=Qo4 y:=λy=>by kernel_rfl
def SX (y:List ai):Prop:=let u:=λz:Nat=>(∀j:Nat,(Nat.le (Nat.succ j) z)->fm (List.getD y j bD)=false);(∃z:Nat,RAQ y (ah y) (0=(z:Int)/\(Iv (z<=y.length/\u z))))/\(∀x:Nat,let b:=y.length;let q1:=az (x:Int) (ah y);let a:=gt (ai.mk 0 [] 0 0 false 0 0 []) y (x:Int).toNat;let c:=ai.mk a.op a.r a.mn a.mx a.lz a.cap a.nk a.af;(Iv (x<=b/\(∀j:Nat,(Nat.le (Nat.succ j) x)->fm (List.getD y j bD)=false)))->ak q1 (aI 0 (x:Int)/\q1/\Iv (dG c/\(3*dg c)<((3*uh y)+1))/\RA1 a (RAP a.af (ak (fm c) ((x:Int)=xH fm y/\True) (∃z:Nat,aa [y] (aa [ah y] (aD .i64 (x:Int) 1=(z:Int)/\(Iv ((z<=b/\u z)/\(b-z)<(b-x))))))))) ((-1)=xH fm y/\True))
def YL:∀y,SX y=Qo5 y:=λy=>by kernel_rfl
def SY (y:ai×ai):Prop:=let a:=y.1.af;let q1:=!(aC y.1.mx y.2.mx);let b:=!(aC y.1.cap y.2.cap);let c:=!(aC y.1.op y.2.op);let d:=!(kE y.1.lz y.2.lz);let e:=!(aC y.1.mn y.2.mn);let f:=!(decide (y.1.r=y.2.r));RA1 y.1 (RA1 y.2 (RA1 y.2 (ak c (false=oh y.1 y.2/\True) (ak e (false=oh y.1 y.2/\True) (ak q1 (false=oh y.1 y.2/\True) (ak d (false=oh y.1 y.2/\True) (ak b (false=oh y.1 y.2/\True) (Iv True/\aa [y.1.r,y.2.r] (ak f (false=oh y.1 y.2/\True) (Iv (dM a/\((2*uh a)+1)<(2*dg y.1))/\aa [a,y.2.af] (smL a y.2.af=oh y.1 y.2/\True)))))))))))
def YM:∀y,SY y=Qo7 y:=λy=>by kernel_rfl
def SZ (y:(List ai)×(List ai)):Prop:=let c:=ah y.1;let q1:=!(aC c (ah y.2));ak q1 (false=smL y.1 y.2/\True) ((∃z:Nat,aa [y.1,y.2,y.1] (aa [c] (0=(z:Int)/\(Iv (YI y z)))))/\(∀x:Nat,let a:=gt (ai.mk 0 [] 0 0 false 0 0 []) y.2 (x:Int).toNat;let b:=gt (ai.mk 0 [] 0 0 false 0 0 []) y.1 (x:Int).toNat;let d:=ai.mk b.op b.r b.mn b.mx b.lz b.cap b.nk b.af;let e:=!(oh d (ai.mk a.op a.r a.mn a.mx a.lz a.cap a.nk a.af));(Iv (YI y x))->ak (az (x:Int) c) (aI 0 (x:Int)/\az (x:Int) c/\aI 0 (x:Int)/\az (x:Int) (ah y.2)/\Iv (dG d/\(2*dg d)<((2*uh y.1)+1))/\aa [b.op] (aa [b.r] (aa [b.mn,b.mx] (aa [b.lz] (aa [b.cap,b.nk] (aa [b.af] (aa [a.op] (aa [a.r] (aa [a.mn,a.mx] (aa [a.lz] (aa [a.cap,a.nk] (aa [a.af] (ak e (false=smL y.1 y.2/\True) (∃z:Nat,aa [y.1,y.2,y.1] (aa [c] (aD .i64 (x:Int) 1=(z:Int)/\(Iv (YI y z/\(y.1.length-z)<(y.1.length-x))))))))))))))))))) (true=smL y.1 y.2/\True)))
def YN:∀y,SZ y=Qo8 y:=λy=>by kernel_rfl
theorem xI (y:ai):uh y.af<dg y:=by
 unfold uh dg;rw[aJ,aJ];obtain⟨op,r,mn,mx,lz,cap,nk,a⟩:=y;grind [ai.af]
def BU (h:i<l.length):dg (l.getD i bD)<uh l:=by
 unfold uh dg;rw[aJ,aJ,eG h];exact ZdR (Zas h)
theorem dG.af {y:ai} (h:dG y):dM y.af:=by
 obtain⟨h1,a⟩:=h;rw[bU] at h1;simp only[Zae] at h1;exact⟨ω,λx b=>a x (by grind [bU])⟩
theorem dM.get (h:dM l) {n:Nat} (d:n<l.length):dG (l.getD n bD):=by
 obtain⟨h1,a⟩:=h;have c:l=l.take n++(l.getD n bD::l.drop (n+1)):=by
  simp_all
 have b:aB l=aB (l.take n)++(aE (l.getD n bD)++aB (l.drop (n+1))):=by
  grind [cD,aB]
 have hlen:=ZaR List.length b;simp only[Zab] at hlen;exact⟨ω,λx e=>a x (by grind)⟩
theorem tk (l:List ai):l.length<=(aB l).length:=by
 induction l with
 | nil=>simp
 | cons a l b=>simp only[aB,Zab,Zae];rw[bU];simp;omega
def dM.len (h:dM l):l.length<=1000000:=Zav (tk l) h.1
theorem D5 (l:List ai):ki l=l.any fm:=by
 induction l with
 | nil=>simp[ki]
 | cons a l b=>rw[ki,ZdX,b];congr 1;unfold fm;rw[aJ]
def S0 (y:ai):fm y=(y.op==6||y.af.any fm):=by
 rw[<-D5];unfold fm;rw[aJ];cases y;rfl
theorem Qo9 (y:ai) (a:MQ.pre y):SU y:=by
 have a:dG y:=a;unfold SU;simp only[bh,je,mJ];rw[S0];have:=xI y;refine⟨λh=>by grind,λh=>⟨⟨a.af,ω⟩,?_⟩⟩;grind
theorem S1 (h:∀j,j<l.length->p (l.getD j bD)=false):xH p l= -1:=by
 grind [xH]
theorem S2 (hi:i<l.length) (h:p (l.getD i bD)) (a:∀j,j<i->p (l.getD j bD)=false):xH p l=(i:Int):=by
 grind [List.findIdx_eq,xH]
theorem S3 (p:ai->Bool) (l:List ai):aI 0 (xH p l)=l.any p:=by
 grind [xH]
def Qpa (y:List ai) (a:SS.pre y):SV y:=by
 unfold SV;simp only[eN,Zai,fB];exact⟨⟨a,ω⟩,S3 _ _⟩
theorem Qpb (y:List ai) (a:MR.pre y):SX y:=by
 have a:dM y:=a;have hl:=a.len;unfold SX;simp only[bN,bh,aw,di,bS,Zad];refine⟨⟨0,rfl,Zaj _,λj d=>absurd d (Zbo _)⟩,λx ⟨g,c⟩=>⟨λe=>?_,λe=>?_⟩⟩
 ·have b:x<y.length:=ω;have c:∀j,j<x->fm (y.getD j bD)=false:=c;have hk:=BU b;have f:y.getD x (ai.mk 0 [] 0 0 false 0 0 [])=y.getD x bD:=rfl;rw[f];refine⟨ω,e,⟨a.get b,ω⟩,λh=>(S2 b h c).symm,λh=>⟨x+1,bL ω,⟨ω,λj d=>?_⟩,ω⟩⟩;grind
 ·grind [S1]
inductive Fg where
 | g | c | i
noncomputable section
def fgC:Fg->bk D
 | .g=>MQ | .c=>SS | .i=>MR
def Qpc:∀i,(fgC i).Y->Nat
 | .g=>λy=>3*dg y | .c=>λy=>3*uh y+2 | .i=>λy=>3*uh y+1
def fgF:Fg->Func
 | .g=>f222 | .c=>f251 | .i=>f249
def fgO:∀i,(fgC i).Y->cU D
 | .g=>λ_=>dr () | .c=>λ_=>dr () | .i=>QhE
def Qpd:∀i,Ok (fgC i):=
 w9 [.g,.c,.i] fgC Qpc (fn:=fgF) (tab:=λ_=>[]) (jb:=fgO) (λ_=>trivial)
  (λi=>match i with
   | .g=>by kernel_rfl | .c=>by kernel_rfl | .i=>by kernel_rfl)
  (λi=>match i with
   | .g=>by kernel_rfl | .c=>by kernel_rfl | .i=>by kernel_rfl)
  λi=>match i with
   | .g=>λy a=>Eq.mp (YJ y) (Qo9 y a) | .c=>λy a=>Eq.mp (YK y) (Qpa y a) | .i=>λy a=>Eq.mp (YL y) (Qpb y a)
end
def QhH (a b:ai):oh a b=(a.op==b.op&&a.mn==b.mn&&a.mx==b.mx&&a.lz==b.lz&&a.cap==b.cap&&decide (a.r=b.r)&&smL a.af b.af):=by
 unfold oh smL;rw[aJ,aJ];obtain⟨op,r,mn,mx,lz,cap,nk,c⟩:=a;rw[SR];rw[Bool.and_assoc (_&&decide (r=b.r))];rfl
theorem Qpe (y:ai×ai) (c:MS.pre y):SY y:=by
 obtain⟨a,b⟩:=y;have c:dG a:=c;have:=xI a;unfold SY;simp only[bh,je,mJ,Zan,Zao,ZaP,Zbi,kE];rw[QhH];refine⟨λh=>?_,λh1=>⟨λh=>?_,λd=>⟨λh=>?_,λe=>⟨λh=>?_,λf=>⟨λh=>?_,λg=>⟨λh=>?_,λi=>⟨⟨c.af,ω⟩,?_⟩⟩⟩⟩⟩⟩⟩
 ·grind
 ·grind
 ·grind
 ·grind
 ·grind
 ·grind
 ·grind
theorem MU {l m:List ai} {i:Nat} (h1:i<l.length) (a:i<m.length):se (l.drop i) (m.drop i)=(oh (l.getD i bD) (m.getD i bD)&&se (l.drop (i+1)) (m.drop (i+1))):=by
 grind [List.drop_eq_getElem_cons,se,oh,aJ]
theorem Qpf (y:List ai×List ai) (c:MT.pre y):SZ y:=by
 obtain⟨a,b⟩:=y;have c:dM a:=c;have hl:=c.len;unfold SZ;simp only[bN,bh,aw,di,bS,Zad,Zan,Zao,smL,aJ];refine⟨λh=>by grind,λh=>?_⟩;have h:a.length=b.length:=ω;rw[ZaK h,ZbI];refine⟨⟨0,rfl,Zaj _,h,rfl⟩,λx g=>?_⟩;obtain⟨i1,i2,i3⟩:x<=a.length/\a.length=b.length/\se (a.drop x) (b.drop x)=se a b:=g;refine⟨λe=>?_,λe=>?_⟩
 ·have d:x<a.length:=ω;have hk:=BU d;have f:∀l:List ai,l.getD x (ai.mk 0 [] 0 0 false 0 0 [])=l.getD x bD:=λ_=>rfl
  rw[f,f];rw[MU d ω] at i3;refine⟨ω,e,ω,ω,⟨c.get d,ω⟩,λq=>?_,λq=>⟨x+1,bL ω,⟨show x+1<=a.length by omega,h,?_⟩,ω⟩⟩
  ·grind
  ·grind
 ·grind [se]
inductive Fs where
 | s | e
noncomputable section
def fsC:Fs->bk D
 | .s=>MS | .e=>MT
def Qpg:∀i,(fsC i).Y->Nat
 | .s=>λy=>2*dg y.1 | .e=>λy=>2*uh y.1+1
def fsF:Fs->Func
 | .s=>f253 | .e=>f276
def QhI:Fs->s6
 | .s=>[DG] | .e=>[]
def fsO:∀i,(fsC i).Y->cU D
 | .s=>λ_=>dr () | .e=>QhG
def Qph:∀i,Ok (fsC i):=
 w9 [.s,.e] fsC Qpg (fn:=fsF) (tab:=QhI) (jb:=fsO)
  (λi=>match i with
   | .s=>Qax | .e=>trivial)
  (λi=>match i with
   | .s=>by kernel_rfl | .e=>by kernel_rfl)
  (λi=>match i with
   | .s=>by kernel_rfl | .e=>by kernel_rfl)
  λi=>match i with
   | .s=>λy a=>Eq.mp (YM y) (Qpe y a) | .e=>λy a=>Eq.mp (YN y) (Qpf y a)
end
abbrev ui (l:List ai):List (Nat×AO D.E):=[(0,.arr 15 l 209 false)]
def MV:bk D:=⟨216,Int×List ai,Qdq,λy=>y.2.length<=1000000/\(aG y.1 y.2).length<=1000000,λy=>[QtJ y.1,.list 15 y.2],λ_=>[],λy=>.own 0 8 (ah (aG y.1 y.2)),λy=>ui (aG y.1 y.2),0,1⟩
def Qpi (y:MV.Y):cU D:=⟨[],[6,7],[(58,⟨Nat,[0,8,9],λx=>[(5,.own 0 8 (ah (aG y.1 (y.2.take x)))),(10,QtJ x)],[],λx=>ui (aG y.1 (y.2.take x)),1,λx=>x<=y.2.length/\(aG y.1 (y.2.take x)).length<=1000000,λx=>y.2.length-x⟩)],[],1,[]⟩
def vF (t:ai):Bool:=t.op==1
def S4:bk D:=bP 218 ai (λa _=>uH a) (λ_=>True) (λy=>[.agg (D.ba 15 y)]) λy=>.bool (vF y)
def QhJ (v:AV D.E) (s:St D.E):C (List ai):=match v with
 | .own b _ _=>aA (kG s b) λa=>aA (gK 15 a.c a.xs) λl=>.ret (l:List ai)
 | _=>.fail
def QhK (a:List (AV D.E)) (s:St D.E):C (List ai):=match a with
 | [l,_]=>QhJ l s
 | _=>.fail
abbrev QhL (y:List ai):List (AV D.E):=[.own 0 8 (ah y),.func (.func 218) [] []]
def MW:bk D:=⟨249,List ai,QhK,λy=>y.length<=1000000,QhL,ui,λy=>QtJ (xH vF y),ui,1,1⟩
def Qpl (y:MW.Y):cU D:=⟨[],[],[(26,{ X:=Nat,aR:=[1,7],sl:=λi=>[(0,.own 0 8 (ah y)),(8,QtJ i)],kp:=[],pc:=λ_=>ui y,nx:=1,inv:=λi=>i<=y.length/\∀j,j<i->vF (y.getD j bD)=false,me:=λi=>y.length-i })],[],1,[]⟩
def gX (y:List ai):List ai:=y.filter λt=>!vF t
def MX:bk D:=⟨217,List ai,QhK,λy=>y.length<=1000000,QhL,ui,λy=>.list 15 (lk (gX y)),λ_=>[],1,1⟩
def S5 (y:List ai) (x:List ai×Nat×Nat):Prop:=x.1.length=y.length/\x.2.1<=x.2.2/\x.2.2<=y.length/\x.1.take x.2.1=gX (y.take x.2.2)/\x.1.drop x.2.2=y.drop x.2.2
def Qpn (y:MX.Y):cU D:=⟨[],[],[(122,⟨List ai×Nat×Nat,[1],λx=>[(0,.own 0 8 (ah y)),(5,QtJ x.2.1),(6,QtJ x.2.2)],[],λx=>ui x.1,1,S5 y,λx=>y.length-x.2.2⟩)],[],1,[]⟩
def D6 (t:ai):ai:=ic 3 (gX (aG 3 t.af))
def ctC:bk D:=bP 179 ai (λa _=>uH a) (λy=>y.af.length<=1000000/\(aG 3 y.af).length<=1000000) (λy=>[.agg (D.ba 15 y)]) λy=>.agg (D.ba 15 (lk (D6 y)))
abbrev qY (k:ai):List (Nat×AO D.E):=[(0,.cells (D.ba 15 k) 209 false)]
def S6 (v:AV D.E) (s:St D.E):C ai:=match v with
 | .ptr b _=>aA (cN (s.h.get b)) λo=>match o with
  | .cells cs _ _=>uw D 15 cs
  | _=>.fail
 | _=>.fail
def S7:bk D:=⟨252,ai×ai,λa s=>match a with
 | [x,p]=>aA (Hj x) λx=>aA (S6 p s) λk=>.ret (x,k)
 | _=>.fail,λy=>dG y.1,λy=>[.agg (D.ba 15 y.1),.ptr 0 0],λy=>qY y.2,λy=>.bool (oh y.1 y.2),λy=>qY y.2,1,1⟩
def QhN (a:List (AV D.E)) (s:St D.E):C (List ai×ai):=match a with
 | [l,f]=>match f with
  | .func _ _ c=>match c with
   | [p]=>aA (aW D s 15 l) λl=>aA (S6 p s) λk=>.ret ((l:List ai),k)
   | _=>.fail
  | _=>.fail
 | _=>.fail
abbrev QhO (y:List ai×ai):List (AV D.E):=[.list 15 y.1,.func (.func 252) [] [.ptr 0 0]]
variable {l:List ai} {a:Nat} {k:ai}
def MY:bk D:=⟨249,List ai×ai,QhN,λy=>dM y.1,QhO,λy=>qY y.2,λy=>QtJ (xH (λx=>oh x y.2) y.1),λy=>qY y.2,1,1⟩
def Qpq (y:MY.Y):cU D:=⟨[],[],[(26,{ X:=Nat,aR:=[0,7],sl:=λi=>[(1,.func (.func 252) [] [.ptr 0 0]),(8,QtJ i)],kp:=[],pc:=λ_=>qY y.2,nx:=1,inv:=λi=>i<=y.1.length/\∀j,j<i->oh (y.1.getD j bD) y.2=false,me:=λi=>y.1.length-i })],[],1,[]⟩
def S8:bk D:=⟨251,List ai×ai,QhN,λy=>dM y.1,QhO,λy=>qY y.2,λy=>.bool (y.1.any λx=>oh x y.2),λy=>qY y.2,1,1⟩
def ed (out:List ai):List ai->List ai
 | []=>out
 | k::l=>ed (if out.any (λx=>oh x k) then out else out++[k]) l
def MZ:bk D:=bP 221 (List ai) (λa s=>match a with
 | [l]=>aA (aW D s 15 l) λl=>.ret (l:List ai)
 | _=>.fail) dM (λy=>[.list 15 y]) λy=>.list 15 (ed [] y)
def S9 (y:List ai) (x:List ai×Nat):Prop:=x.2<=y.length/\ed x.1 (y.drop x.2)=ed [] y/\(aB x.1).length<=(aB (y.take x.2)).length/\∀n∈aB x.1,iN n
def Qpt (y:MZ.Y):cU D:=⟨[],[],[(58,⟨List ai×Nat,[6,7],λx=>[(3,.grow 15 x.1 0),(8,QtJ x.2)],[],λ_=>[(0,.tok 15 209)],1,S9 y,λx=>y.length-x.2⟩)],[],1,[]⟩
def S' (y:Int×(List ai)):Prop:=let b:=y.2.length;let q1:=ah y.2;let h:=λp:Prop=>aa [y.1] (aa [y.2] (aa [q1] p));(∃z:Nat,let d:=aG y.1 (List.take z y.2);h (0=ah d/\0=(z:Int)/\[]=d/\(Iv (z<=b/\d.length<=1000000))))/\(∀x:Nat,let c:=aG y.1 (List.take x y.2);let a:=gt (ai.mk 0 [] 0 0 false 0 0 []) y.2 (x:Int).toNat;let i:=ah (bM c a.af);let e:=bM c [ai.mk a.op a.r a.mn a.mx a.lz a.cap a.nk a.af];(Iv (x<=b/\c.length<=1000000))->ak (az (x:Int) q1) (aI 0 (x:Int)/\az (x:Int) q1/\ak (aC a.op y.1) (bF i 96/\∃z:Nat,let f:=aG y.1 (List.take z y.2);h (i=ah f/\aD .i64 (x:Int) 1=(z:Int)/\bM c a.af=f/\(Iv ((z<=b/\f.length<=1000000)/\(b-z)<(b-x))))) (bF (ah e) 96/\∃z:Nat,let g:=aG y.1 (List.take z y.2);h (ah e=ah g/\aD .i64 (x:Int) 1=(z:Int)/\e=g/\(Iv ((z<=b/\g.length<=1000000)/\(b-z)<(b-x)))))) (ah c=ah (aG y.1 y.2)/\c=aG y.1 y.2/\True))
def QhP (y:ai):Prop:=
 aC y.op 1=vF y/\
 True
def S_ (y:List ai):Prop:=let u:=λz:Nat=>(∀j:Nat,(Nat.le (Nat.succ j) z)->vF (List.getD y j bD)=false);(∃z:Nat,aa [ah y,ah y] (0=(z:Int)/\aa [y] ((Iv (z<=y.length/\u z)))))/\(∀x:Nat,let b:=y.length;let q1:=az (x:Int) (ah y);let a:=gt (ai.mk 0 [] 0 0 false 0 0 []) y (x:Int).toNat;let c:=vF (ai.mk a.op a.r a.mn a.mx a.lz a.cap a.nk a.af);(Iv (x<=b/\(∀j:Nat,(Nat.le (Nat.succ j) x)->vF (List.getD y j bD)=false)))->ak q1 (aI 0 (x:Int)/\q1/\Iv True/\RA1 a (RAP a.af (ak c ((x:Int)=xH vF y/\aa [y] (True)) (∃z:Nat,aa [ah y,ah y] (aD .i64 (x:Int) 1=(z:Int)/\aa [y] ((Iv ((z<=b/\u z)/\(b-z)<(b-x))))))))) ((-1)=xH vF y/\RAP y (True)))
def Ta (y:List ai):Prop:=let c:=ah y;let q1:=aC (xH vF y) (-1);let u:=ai.mk 0 [] 0 0 false 0 0 [];Iv (y.length<=1000000)/\RAQ c y (ak q1 (y=lk (gX y)/\True) ((∃z:(List ai)×Nat×Nat,aa [c] (xH vF y=(z.2.1:Int)/\aD .i64 (xH vF y) 1=(z.2.2:Int)/\y=z.1/\(Iv (S5 y z))))/\(∀x:(List ai)×Nat×Nat,let b:=(x.2.1:Int);let d:=(x.2.2:Int);let a:=gt u x.1 d.toNat;let e:=ai.mk a.op a.r a.mn a.mx a.lz a.cap a.nk a.af;(Iv (S5 y x))->ak (az d c) (aI 0 d/\az d c/\Iv True/\aa [a.op] (aa [a.r] (aa [a.mn,a.mx] (aa [a.lz] (aa [a.cap,a.nk] (aa [a.af] (ak (!(vF e)) (aI 0 b/\az b c/\∃z:(List ai)×Nat×Nat,aa [c] (aD .i64 b 1=(z.2.1:Int)/\aD .i64 d 1=(z.2.2:Int)/\cO x.1 b.toNat e=z.1/\(Iv (S5 y z/\(y.length-z.2.2)<(y.length-x.2.2))))) (∃z:(List ai)×Nat×Nat,aa [c] (b=(z.2.1:Int)/\aD .i64 d 1=(z.2.2:Int)/\x.1=z.1/\(Iv (S5 y z/\(y.length-z.2.2)<(y.length-x.2.2)))))))))))) (aI 0 b/\aI b c/\aI 0 b/\aI b c/\dv (Cx x.1 b (c-b) (mf (c-b) u)) b=lk (gX y)/\True))))
def Qdr (y:ai):Prop:=let a:=lk (D6 y);let q1:=aG 3 y.af;let c:=lk (gX q1);let b:=lk (ic 3 c);Iv (y.af.length<=1000000/\q1.length<=1000000)/\RAQ (3:Int) y.af (Iv (q1.length<=1000000)/\aa [ah q1] (aa [q1] (Iv (c.length<=1000000)/\aa ([3]:List Int) (aa [c] (b.op=a.op/\b.r=a.r/\b.mn=a.mn/\b.mx=a.mx/\b.lz=a.lz/\b.cap=a.cap/\b.nk=a.nk/\b.af=a.af/\True)))))
def Tb (y:ai×ai):Prop:=let a:=ai.mk y.1.op y.1.r y.1.mn y.1.mx y.1.lz y.1.cap y.1.nk y.1.af;Iv (dG a)/\RA1 y.1 (RAP y.1.af (RA1 y.2 (RAP y.2.af (oh a (ai.mk y.2.op y.2.r y.2.mn y.2.mx y.2.lz y.2.cap y.2.nk y.2.af)=oh y.1 y.2/\aa [y.2.op] (aa [y.2.r] (aa [y.2.mn,y.2.mx] (aa [y.2.lz] (aa [y.2.cap,y.2.nk] (aa [y.2.af] (True))))))))))
def Tc (y:(List ai)×ai):Prop:=let b:=ah y.1;let q1:=y.1.length;let d:=xH (λ(x:ai)=>oh x y.2) y.1;let c:=λp:Prop=>aa [y.2.op] (aa [y.2.r] (aa [y.2.mn,y.2.mx] (aa [y.2.lz] (aa [y.2.cap,y.2.nk] (aa [y.2.af] p)))));(∃z:Nat,aa [y.1] (aa [b] (0=(z:Int)/\c ((Iv (z<=q1/\(∀j:Nat,(Nat.le (Nat.succ j) z)->oh (List.getD y.1 j bD) y.2=false)))))))/\(∀x:Nat,let a:=gt (ai.mk 0 [] 0 0 false 0 0 []) y.1 (x:Int).toNat;let e:=ai.mk a.op a.r a.mn a.mx a.lz a.cap a.nk a.af;let f:=oh e (ai.mk y.2.op y.2.r y.2.mn y.2.mx y.2.lz y.2.cap y.2.nk y.2.af);(Iv (x<=q1/\(∀j:Nat,(Nat.le (Nat.succ j) x)->oh (List.getD y.1 j bD) y.2=false)))->ak (az (x:Int) b) (aI 0 (x:Int)/\az (x:Int) b/\Iv (dG e)/\aa [a.op] (aa [a.r] (aa [a.mn,a.mx] (aa [a.lz] (aa [a.cap,a.nk] (aa [a.af] (aa [y.2.op] (aa [y.2.r] (aa [y.2.mn,y.2.mx] (aa [y.2.lz] (aa [y.2.cap,y.2.nk] (aa [y.2.af] (ak f ((x:Int)=d/\c (True)) (∃z:Nat,aa [y.1] (aa [b] (aD .i64 (x:Int) 1=(z:Int)/\c ((Iv ((z<=q1/\(∀j:Nat,(Nat.le (Nat.succ j) z)->oh (List.getD y.1 j bD) y.2=false))/\(q1-z)<(q1-x)))))))))))))))))))) ((-1)=d/\c (True)))
def Td (y:(List ai)×ai):Prop:=Iv (dM y.1)/\aa [y.1] (aa [y.2.op] (aa [y.2.r] (aa [y.2.mn,y.2.mx] (aa [y.2.lz] (aa [y.2.cap,y.2.nk] (aa [y.2.af] (aI 0 (xH (λ(x:ai)=>oh x (ai.mk y.2.op y.2.r y.2.mn y.2.mx y.2.lz y.2.cap y.2.nk y.2.af)) y.1)=List.any y.1 (λ(x:ai)=>oh x y.2)/\aa [y.2.op] (aa [y.2.r] (aa [y.2.mn,y.2.mx] (aa [y.2.lz] (aa [y.2.cap,y.2.nk] (aa [y.2.af] (True)))))))))))))
def Te (y:List ai):Prop:=let c:=λp:Prop=>RAQ y (ah y) p;(∃z:(List ai)×Nat,c ([]=z.1/\0=(z.2:Int)/\(Iv (S9 y z))))/\(∀x:(List ai)×Nat,let q1:=(x.2:Int);let a:=gt (ai.mk 0 [] 0 0 false 0 0 []) y q1.toNat;let b:=ai.mk a.op a.r a.mn a.mx a.lz a.cap a.nk a.af;let d:=!(List.any x.1 (λ(e:ai)=>oh e b));(Iv (S9 y x))->ak (az q1 (ah y)) (aI 0 q1/\az q1 (ah y)/\Iv (dM x.1)/\RAP x.1 (RA1 a (RAP a.af (ak d (bF (ah (bM x.1 [b])) 96/\∃z:(List ai)×Nat,c (bM x.1 [b]=z.1/\aD .i64 q1 1=(z.2:Int)/\(Iv (S9 y z/\(y.length-z.2)<(y.length-x.2))))) (∃z:(List ai)×Nat,c (x.1=z.1/\aD .i64 q1 1=(z.2:Int)/\(Iv (S9 y z/\(y.length-z.2)<(y.length-x.2))))))))) (x.1=ed [] y/\True))
theorem Qpv (y:Int×List ai) (c:MV.pre y):S' y:=by
 obtain⟨op,a⟩:=y;obtain⟨h1,d⟩:a.length<=1000000/\(aG op a).length<=1000000:=c;unfold S';simp only[bN,bh,aw,a8,br,di,bS,Zad];refine⟨⟨0,by rfl,rfl,by rfl,ω,by simp[aG]⟩,λx f=>⟨λe=>⟨ω,e,λb=>?_,λb=>?_⟩,λe=>?_⟩⟩
 ·have e:x<a.length:=ω;have ht:=cm bD e;have hs:aG op (a.take (x+1))=aG op (a.take x)++(a.getD x bD).af:=by
   grind [aG]
  grind [kW]
 ·have e:x<a.length:=ω;have ht:=cm bD e;have hs:aG op (a.take (x+1))=aG op (a.take x)++[a.getD x bD]:=by
   grind [aG]
  grind [kW]
 ·grind
def QhQ:Ok MV:=okZ [] f216 Qpi trivial Qpv
def Qa0:Ok S4:=okZ (V:=QhP) [] f218 (λ_=>dr ()) trivial λy _=>⟨rfl,trivial⟩
theorem Qpw (y:List ai) (f:MW.pre y):S_ y:=by
 have hl:y.length<=1000000:=f;unfold S_;simp only[bN,bh,aw,di,bS,Zad];refine⟨⟨0,rfl,Zaj _,λj b=>absurd b (Zbo _)⟩,λx ⟨g,a⟩=>⟨λe=>?_,λe=>?_⟩⟩
 ·have c:x<y.length:=ω;have a:∀j,j<x->vF (y.getD j bD)=false:=a;have d:y.getD x (ai.mk 0 [] 0 0 false 0 0 [])=y.getD x bD:=rfl;rw[d];refine⟨ω,e,λh=>(S2 c h a).symm,λh=>⟨x+1,bL ω,⟨ω,λj b=>?_⟩,ω⟩⟩;grind
 ·grind [S1]
def QhR:Ok MW:=okZ [S4] f249 Qpl Qa0 Qpw
theorem D7 (p:ai->Bool) (l:List ai):(xH p l= -1/\∀j,j<l.length->p (l.getD j bD)=false)\/∃i:Nat,i<l.length/\xH p l=(i:Int)/\p (l.getD i bD)/\∀j,j<i->p (l.getD j bD)=false:=by
 grind [xH]
theorem D8 (h:∀j,j<l.length->vF (l.getD j bD)=false):gX l=l:=by
 unfold gX;refine List.filter_eq_self.mpr λa b=>?_
 grind [List.getElem_of_mem]
theorem xJ (h:a<l.length):gX (l.take (a+1))=gX (l.take a)++(if vF (l.getD a bD) then[] else[l.getD a bD]):=by
 grind [gX,cm]
theorem Tf (h:a<l.length):(l.set a k).take (a+1)=l.take a++[k]:=by
 rw[cm bD (by grind),List.take_set_of_le (Zah _),eG (by grind),List.getElem_set_self]
theorem Qpx (y:List ai) (f:MX.pre y):Ta y:=by
 have hl:y.length<=1000000:=f;unfold Ta;simp only[bN,bh,aw,di,bS,Zad,aJ,Zan,Zao];refine⟨hl,λh=>?_,λh=>?_⟩
 ·grind [D7,D8]
 ·obtain⟨i,i1,i2,i3,i4⟩:∃i:Nat,i<y.length/\xH vF y=(i:Int)/\vF (y.getD i bD)/\∀j,j<i->vF (y.getD j bD)=false:=by
   grind [D7]
  rw[i2];refine⟨⟨(y,i,i+1),rfl,bL ω,rfl,rfl,ZcR _,i1,?_,rfl⟩,λx d=>?_⟩
  ·show y.take i=gX (y.take (i+1))
   grind [xJ,D8]
  ·obtain⟨a,i,j⟩:=x;obtain⟨c1,c2,c3,c4,c5⟩:a.length=y.length/\i<=j/\j<=y.length/\a.take i=gX (y.take j)/\a.drop j=y.drop j:=d;refine⟨λe=>⟨ω,e,?_⟩,λe=>⟨ω,by grind,ω,by grind,?_⟩⟩
   ·have e:j<y.length:=by grind
    have c:a.getD j (ai.mk 0 [] 0 0 false 0 0 [])=y.getD j bD:=by
     grind [List.drop_eq_getElem_cons]
    have b:a.drop (j+1)=y.drop (j+1):=by
     grind [List.drop_eq_getElem_cons]
    rw[c];refine⟨λq=>⟨ω,by grind,(a.set i (y.getD j bD),i+1,j+1),bL (show i<=1000000 by omega),bL (show j<=1000000 by omega),rfl,⟨by grind,show i+1<=j+1 by omega,show j+1<=y.length by omega,?_,?_⟩,show y.length-(j+1)<y.length-j by omega⟩,λq=>⟨(a,i,j+1),rfl,bL (show j<=1000000 by omega),rfl,⟨c1,show i<=j+1 by omega,show j+1<=y.length by omega,?_,b⟩,show y.length-(j+1)<y.length-j by omega⟩⟩
    ·grind [Tf,xJ]
    ·grind [List.drop_set_of_lt]
    ·grind [xJ]
   ·grind [dv,Cx,Int.toNat_natCast]
def QhS:Ok MX:=okZ [S4,MW] f217 Qpn ⟨Qa0,QhR⟩ Qpx
def Tg (l:List ai):(gX l).length<=l.length:=List.length_filter_le _ _
def ctH (y:ai) (b:ctC.pre y):Qdr y:=by
 obtain⟨h1,a⟩:y.af.length<=1000000/\(aG 3 y.af).length<=1000000:=b;have:=Tg (aG 3 y.af);unfold Qdr;simp only[eN,Zai,fB,aJ];exact⟨⟨h1,a⟩,a,ω,rfl,rfl,rfl,rfl,rfl,rfl,rfl,rfl⟩
def Qpy:Ok ctC:=okZ [MV,MX,MN] f179 (λ_=>dr ()) ⟨QhQ,QhS,QaY⟩ ctH
theorem Qpz (y:ai×ai) (a:S7.pre y):Tb y:=by
 have a:dG y.1:=a;grind [Tb,bS]
def QhT:Ok S7:=okZ [MS] f252 (λ_=>dr ()) (Qph .s) Qpz
theorem QpA (y:List ai×ai) (a:MY.pre y):Tc y:=by
 obtain⟨y,k⟩:=y;have a:dM y:=a;have hl:=a.len;unfold Tc;simp only[bN,bh,aw,di,bS,Zad];refine⟨⟨0,rfl,Zaj _,λj d=>absurd d (Zbo _)⟩,λx ⟨g,b⟩=>⟨λe=>?_,λe=>?_⟩⟩
 ·have c:x<y.length:=ω;have b:∀j,j<x->oh (y.getD j bD) k=false:=b;have f:y.getD x (ai.mk 0 [] 0 0 false 0 0 [])=y.getD x bD:=rfl;rw[f];refine⟨ω,e,a.get c,λh=>(S2 (p:=λx=>oh x k) c h b).symm,λh=>⟨x+1,bL ω,⟨ω,λj d=>?_⟩,ω⟩⟩;grind
 ·grind [S1]
def QhU:Ok MY:=okZ [S7] f249 Qpq QhT QpA
def QpB (y:List ai×ai) (a:S8.pre y):Td y:=by
 unfold Td;simp only[eN,Zai,fB,bS];exact⟨a,S3 _ _⟩
def QhV:Ok S8:=okZ [MY] f251 (λ_=>dr ()) QhU QpB
theorem QpC (y:List ai) (c:MZ.pre y):Te y:=by
 have c:dM y:=c;have hl:=c.len;unfold Te;simp only[bN,bh,aw,a8,br,di,bS,Zad,Zan,Zao];refine⟨⟨([],0),rfl,rfl,Zaj _,rfl,Zaj _,λn a=>by grind [aB]⟩,λx j=>?_⟩;obtain⟨o,i⟩:=x;obtain⟨c1,c2,c3,c4⟩:i<=y.length/\ed o (y.drop i)=ed [] y/\(aB o).length<=(aB (y.take i)).length/\∀n∈aB o,iN n:=j;have b:∀n,(aB (y.take n)).length<=(aB y).length:=λn=>by
  grind [List.take_append_drop,cD]
 have hO:dM o:=⟨by have:=b i;have:=c.1;omega,c4⟩;have h:=hO.len;refine⟨λe=>?_,λe=>?_⟩
 ·have d:i<y.length:=ω;have g:y.getD i (ai.mk 0 [] 0 0 false 0 0 [])=y.getD i bD:=rfl;have f:y.drop i=y.getD i bD::y.drop (i+1):=by simp_all
  have k:(aB (y.take (i+1))).length=(aB (y.take i)).length+(aE (y.getD i bD)).length:=by
   grind [cD,aB]
  rw[f,ed] at c2;rw[g];refine⟨ω,e,hO,λq=>?_,λq=>?_⟩
  ·rw[q] at c2;refine⟨by grind,(o++[y.getD i bD],i+1),rfl,bL ω,⟨show i+1<=y.length by omega,by assumption,?_,λn a=>?_⟩,show y.length-(i+1)<y.length-i by omega⟩
   ·grind [cD]
   ·rw[cD,aB,aB,Zaw] at a;rcases List.mem_append.mp a with a | a
    ·grind
    ·exact(c.get d).2 n a
  ·rw[q] at c2;exact⟨(o,i+1),rfl,bL ω,⟨show i+1<=y.length by omega,by assumption,show(aB o).length<=(aB (y.take (i+1))).length by omega,c4⟩,show y.length-(i+1)<y.length-i by omega⟩
 ·grind [ed]
def QhW:Ok MZ:=okZ [S8] f221 Qpt QhV QpC
def tl (l:List ai):Prop:=∀t∈l,t.r.length<=1000000
def om (l:List ai):ai:=l.getD (l.length-1) bD
def pb (r:List Rg):ai:=.mk 2 (aX r) 0 0 false 0 0 []
def dC (out:List ai) (k:ai):List ai:=if out.length≠0/\k.op=2/\(om out).op=2 then out.set (out.length-1) (pb ((om out).r++k.r)) else out++[k]
def bK (out:List ai):List ai->List ai
 | []=>out
 | k::l=>bK (dC out k) l
def M4:bk D:=bP 220 (List ai) (λa s=>match a with
 | [l]=>aA (aW D s 15 l) λl=>.ret (l:List ai)
 | _=>.fail) (λy=>y.length<=1000000/\tl y) (λy=>[.list 15 y]) λy=>.list 15 (bK [] y)
def sf (y:List ai) (x:List ai×Nat):Prop:=x.2<=y.length/\bK x.1 (y.drop x.2)=bK [] y/\x.1.length<=x.2/\tl x.1
def QpD (y:M4.Y):cU D:=⟨[],[9],[(58,⟨List ai×Nat,[8,9],λx=>[(3,.own 0 8 (ah x.1)),(10,QtJ x.2)],[],λx=>ui x.1,1,sf y,λx=>y.length-x.2⟩)],[],1,[]⟩
def Km (t:ai):Nd:=⟨t.op,t.r,t.mn,t.mx,t.lz,t.cap,t.nk⟩
def bH (t:ai):ai:=t.af.getD 0 bD
def uI (t:ai):ai:=.mk t.op t.r t.mn t.mx (t.lz&&decide (t.mn≠t.mx)) t.cap t.nk t.af
def D9 (k:ai) (n:Int):ai:=.mk k.op k.r (k.mn*n) k.mx k.lz k.cap k.nk k.af
def cS (t:ai):ai:=
 if (bH t).op=1 then bH t
 else if t.mn=1/\t.mx=1 then bH t
 else if t.mx=0/\fm (bH t)=false then .mk 1 [] 0 0 false 0 0 []
 else if eH (Km (uI t))/\eH (Km (bH t))/\(bH (bH t)).op=2 then D9 (bH t) t.mn
 else uI t
def YW (y:ai):Prop:=1<=y.af.length/\dG (bH y)/\0<=y.mn/\((bH y).op=5->0<=(bH y).mn/\1<=(bH y).af.length)
def Th:bk D:=bP 181 ai (λa _=>uH a) YW (λy=>[.agg (D.ba 15 y)]) λy=>.agg (D.ba 15 (lk (cS y)))
def Ti (y:List ai):Prop:=let d:=y.length;let i:=λp:Prop=>RAQ y (ah y) p;let u:=ai.mk 0 [] 0 0 false 0 0 [];(∃z:(List ai)×Nat,i (0=ah z.1/\0=(z.2:Int)/\[]=z.1/\(Iv (sf y z))))/\(∀x:(List ai)×Nat,let c:=(x.2:Int);let b:=cQ .i64 (ah x.1) 1;let a:=gt u y c.toNat;let e:=gt u x.1 b.toNat;let f:=bM e.r a.r;let g:=bM x.1 [ai.mk a.op a.r a.mn a.mx a.lz a.cap a.nk a.af];let h:Prop:=(bF (ah g) 96/\∃z:(List ai)×Nat,i (ah g=ah z.1/\aD .i64 c 1=(z.2:Int)/\g=z.1/\(Iv (sf y z/\(d-z.2)<(d-x.2)))));(Iv (sf y x))->ak (az c (ah y)) (aI 0 c/\az c (ah y)/\ak (aI 0 b) (ak (aC a.op 2) (aI 0 b/\az b (ah x.1)/\ak (aC e.op 2) (aI 0 b/\az b (ah x.1)/\bF (ah e.r) 8/\bF (ah f) 8/\RAR e.r a.r a.r (Iv (f.length<=100000000)/\aa [f] (aI 0 b/\az b (ah x.1)/\∃z:(List ai)×Nat,i (ah x.1=ah z.1/\aD .i64 c 1=(z.2:Int)/\cO x.1 b.toNat (ai.mk 2 (aX f) 0 0 false 0 0 [])=z.1/\(Iv (sf y z/\(d-z.2)<(d-x.2))))))) (h)) (h)) (h)) (x.1=bK [] y/\True))
def Tj (y:ai):Prop:=let b:=lk (cS y);let q1:=!(aC y.mn y.mx);let F:=ai.mk 0 [] 0 0 false 0 0 [];let a:=gt F y.af 0;let g:=a.af;let o:=aC (gt F g 0).op 2;let t:=eH (Nd.mk y.op y.r y.mn y.mx false y.cap y.nk);let u:=eH (Nd.mk y.op y.r y.mn y.mx q1 y.cap y.nk);let q:=eH (Nd.mk a.op a.r a.mn a.mx a.lz a.cap a.nk);let n:=ai.mk a.op a.r a.mn a.mx a.lz a.cap a.nk g;let s:=λp:Prop=>RA1 a (RAP g p);let m:=λp:Prop=>RA1 a p;let h:Prop:=(y.cap=b.cap/\y.nk=b.nk/\y.af=b.af/\True);let d:Prop:=(y.op=b.op/\y.r=b.r/\y.mn=b.mn/\y.mx=b.mx/\false=b.lz/\h);let e:Prop:=(y.op=b.op/\y.r=b.r/\y.mn=b.mn/\y.mx=b.mx/\q1=b.lz/\h);let f:Prop:=(a.mx=b.mx/\a.lz=b.lz/\a.cap=b.cap/\a.nk=b.nk/\g=b.af/\True);let c:Prop:=(a.op=b.op/\a.r=b.r/\a.mn=b.mn/\f);let B:=a.op=b.op/\a.r=b.r/\iY .i64 a.mn y.mn=b.mn/\f;let i:Prop:=(Iv True/\RAS y.op y.r y.mn y.mx (false=false/\aa [y.cap,y.nk] (ak t (Iv True/\m (ak q (Tt 1 (az 0 (ah g)/\ak o B (d))) (d))) (d))));let j:Prop:=(Iv True/\RAW y.op y.r y.mn y.mx q1 y.cap y.nk (ak u (Iv True/\m (ak q (Tt 1 (az 0 (ah g)/\ak o B (e))) (e))) (e)));let A:=1=b.op/\[]=b.r/\0=b.mn/\0=b.mx/\false=b.lz/\0=b.cap/\0=b.nk/\[]=b.af/\True;let k:Prop:=(ak (aC y.mx 0) (Iv (dG n)/\s (ak (!(fm n)) A (i))) (i));let l:Prop:=(ak (aC y.mx 0) (Iv (dG n)/\s (ak (!(fm n)) A (j))) (j));ak y.lz (Tt 1 (az 0 (ah y.af)/\ak (aC a.op 1) (c) (ak (aC y.mn 1) (ak (aC y.mx 1) (c) (l)) (l)))) (Tt 1 (az 0 (ah y.af)/\ak (aC a.op 1) (c) (ak (aC y.mn 1) (ak (aC y.mx 1) (c) (k)) (k))))
theorem D':∀(m:List Rg) (b:Int),0<=b->b<=1114112->(∀p∈m,tV p/\b<=p.1)->m.Pairwise (λp q=>p.2+1<q.1)->2*(m.length:Int)<=1114113-b
 | [],b,_,h,_,_=>by grind
 | p::m,b,h0,h,h1,h2=>by
  obtain⟨⟨c1,c2,c3,c4⟩,c5⟩:=h1 p Za8;obtain⟨a,c⟩:=List.pairwise_cons.mp h2;cases m with
  | nil=>simp;omega
  | cons q m=>
   have f:=a q Za8;obtain⟨⟨_,e2,e,_⟩,_⟩:=h1 q (ZaU _ Za8);have:=D' (q::m) (p.2+2) ω ω (λx d=>⟨(h1 x (ZaU _ d)).1,by grind⟩) c;grind
def kX (l:List Rg):(aX l).length<=1000000:=by
 obtain⟨⟨h1,b⟩,_⟩:=dP l;have:=D' (aX l) 0 ω ω (λp a=>⟨h1 p a,(h1 p a).1⟩) b;omega
theorem jo (o:List ai) (k:ai):(dC o k).length<=o.length+1:=by
 grind [dC]
theorem D_ (h:tl l) (hk:k.r.length<=1000000):tl (dC l k):=by
 unfold dC;split
 ·intro t ht;rcases Zb1 ht with h1 | h1
  ·exact h t h1
  ·rw[h1];exact kX _
 ·intro t ht;rcases List.mem_append.mp ht with h1 | h1
  ·exact h t h1
  ·grind
theorem QpG (y:List ai) (m:M4.pre y):Ti y:=by
 obtain⟨hl,j⟩:y.length<=1000000/\tl y:=m;unfold Ti;simp only[bN,bh,aw,a8,br,di,bS,Zad];refine⟨⟨([],0),rfl,rfl,rfl,Zaj _,rfl,Zah _,λt ht=>nomatch ht⟩,λx l=>?_⟩;obtain⟨o,i⟩:=x;obtain⟨c1,c2,c3,c4⟩:i<=y.length/\bK o (y.drop i)=bK [] y/\o.length<=i/\tl o:=l;refine⟨λe=>?_,λe=>?_⟩
 ·have p:i<y.length:=ω;have f:y.getD i (ai.mk 0 [] 0 0 false 0 0 [])=y.getD i bD:=rfl;have d:y.drop i=y.getD i bD::y.drop (i+1):=by simp_all
  have hk:(y.getD i bD).r.length<=1000000:=j _ (by grind);rw[d,bK] at c2;have q:=jo o (y.getD i bD);have n:=D_ c4 hk;have step:∀z,z=dC o (y.getD i bD)->sf y (z,i+1)/\y.length-(i+1)<y.length-i:=λz hz=>by
   subst hz;exact⟨⟨show i+1<=y.length by omega,c2,show(dC o (y.getD i bD)).length<=i+1 by omega,n⟩,ω⟩
  rw[f];simp only;generalize y.getD i bD=k at*
  have b:¬(o.length≠0/\k.op=2/\(om o).op=2)->(((o++[k]).length:Nat):Int)*(96:Nat)<=140737488355328/\∃z:List ai×Nat,(((o++[k]).length:Nat):Int)=((z.1.length:Nat):Int)/\aD .i64 (i:Int) 1=(z.2:Int)/\o++[k]=z.1/\sf y z/\y.length-z.2<y.length-i:=λh=>by
   grind [dC]
  by_cases h0:o.length=0
  ·rw[h0,show cQ .i64 ((0:Nat):Int) 1= -1 from qJ ω ω];grind
  ·rw[zZ ω ω];have c:o.getD (((o.length-1:Nat):Int).toNat) (ai.mk 0 [] 0 0 false 0 0 [])=om o:=rfl;have g:(om o).r.length<=1000000:=c4 _ (by grind);simp only[c];refine⟨ω,e,λ_=>⟨λh1=>⟨ω,ω,λa=>⟨ω,ω,ω,by grind,by grind,ω,ω,(dC o k,i+1),?_,bL ω,?_,step _ rfl⟩,λa=>b λh=>a h.2.2⟩,λh1=>b λh=>h1 h.2.1⟩,λh=>absurd h ω⟩
   ·grind [dC]
   ·show cO o (((o.length-1:Nat):Int).toNat) _=dC o k
    unfold dC;rw[Zac ⟨h0,h1,a⟩];rfl
 ·grind [bK]
def QhX (a:Ok cK):Ok M4:=okZ [cK] f220 QpD a QpG
theorem QpH (y:ai) (A:Th.pre y):Tj y:=by
 obtain⟨h1,o,C,D⟩:1<=y.af.length/\dG (bH y)/\0<=y.mn/\((bH y).op=5->0<=(bH y).mn/\1<=(bH y).af.length):=A;have hk:y.af.getD 0 (ai.mk 0 [] 0 0 false 0 0 [])=bH y:=rfl;have t:(bH y).af.getD 0 (ai.mk 0 [] 0 0 false 0 0 [])=bH (bH y):=rfl;unfold Tj;simp only[bN,bh,aw,di,bS,aJ,hk,t,Zan,Zao];have m:∀x:Nd,eH x->x.op=5/\x.mn<=1:=λx h=>by
  grind [eH]
 have E:∀X,cS y=X->X.op=(cS y).op/\X.r=(cS y).r/\X.mn=(cS y).mn/\X.mx=(cS y).mx/\X.lz=(cS y).lz/\X.cap=(cS y).cap/\X.nk=(cS y).nk/\X.af=(cS y).af:=λX h=>by
  grind
 have V:∀b,uI y=ai.mk y.op y.r y.mn y.mx b y.cap y.nk y.af->¬(bH y).op=1->¬(y.mn=1/\y.mx=1)->¬(y.mx=0/\fm (bH y)=false)->
   (eH ⟨y.op,y.r,y.mn,y.mx,b,y.cap,y.nk⟩->(eH ⟨(bH y).op,(bH y).r,(bH y).mn,(bH y).mx,(bH y).lz,(bH y).cap,(bH y).nk⟩->(0:Int)<((bH y).af.length:Int)/\((bH (bH y)).op=2->iY .i64 (bH y).mn y.mn=(bH y).mn*y.mn/\cS y=D9 (bH y) y.mn)/\((bH (bH y)).op≠2->cS y=uI y))/\(eH ⟨(bH y).op,(bH y).r,(bH y).mn,(bH y).mx,(bH y).lz,(bH y).cap,(bH y).nk⟩=false->cS y=uI y))/\(eH ⟨y.op,y.r,y.mn,y.mx,b,y.cap,y.nk⟩=false->cS y=uI y):=λb k p q s=>by
  have e:cS y=if eH (Km (uI y))/\eH (Km (bH y))/\(bH (bH y)).op=2 then D9 (bH y) y.mn else uI y:=by
   grind [cS]
  have B:eH (Km (uI y))=eH ⟨y.op,y.r,y.mn,y.mx,b,y.cap,y.nk⟩:=by rw[k];rfl
  grind [Km]
 have u:(bH y).op=1->cS y=bH y:=λh=>by grind [cS]
 have v:¬(bH y).op=1->y.mn=1->y.mx=1->cS y=bH y:=λh a b=>by grind [cS]
 have n:¬(bH y).op=1->¬(y.mn=1/\y.mx=1)->y.mx=0->fm (bH y)=false->cS y=.mk 1 [] 0 0 false 0 0 []:=λh a b c=>by grind [cS]
 have F:∀b,uI y=ai.mk y.op y.r y.mn y.mx b y.cap y.nk y.af->cS y=uI y->y.op=(cS y).op/\y.r=(cS y).r/\y.mn=(cS y).mn/\y.mx=(cS y).mx/\b=(cS y).lz/\y.cap=(cS y).cap/\y.nk=(cS y).nk/\y.af=(cS y).af:=λb k h=>by
  rw[h,k];exact⟨rfl,rfl,rfl,rfl,rfl,rfl,rfl,rfl⟩
 have M:iY .i64 (bH y).mn y.mn=(bH y).mn*y.mn/\cS y=D9 (bH y) y.mn->(bH y).op=(cS y).op/\(bH y).r=(cS y).r/\iY .i64 (bH y).mn y.mn=(cS y).mn/\(bH y).mx=(cS y).mx/\(bH y).lz=(cS y).lz/\(bH y).cap=(cS y).cap/\(bH y).nk=(cS y).nk/\(bH y).af=(cS y).af:=λ⟨a,h⟩=>by
  rw[a,h];exact⟨rfl,rfl,rfl,rfl,rfl,rfl,rfl,rfl⟩
 have z:y.lz->uI y=ai.mk y.op y.r y.mn y.mx (!aC y.mn y.mx) y.cap y.nk y.af:=λh=>by
  grind [uI]
 have w:y.lz=false->uI y=ai.mk y.op y.r y.mn y.mx false y.cap y.nk y.af:=λh=>by
  grind [uI]
 refine⟨λl=>?_,λl=>?_⟩
 ·have k:=z l;have W:=λp q s=>V _ k p q s
  have G:=F _ k;refine⟨ω,λk1=>E _ (u k1),λk1=>⟨λk2=>⟨λk3=>E _ (v k1 k2 k3),λk3=>⟨λk4=>⟨o,λk5=>E _ (n k1 (λh=>k3 h.2) k4 k5),λk5=>?_⟩,λk4=>?_⟩⟩,λk2=>⟨λk4=>⟨o,λk5=>E _ (n k1 (λh=>k2 h.1) k4 k5),λk5=>?_⟩,λk4=>?_⟩⟩⟩
  ·obtain⟨g,j⟩:=W k1 (λh=>k3 h.2) (λh=>by grind);exact⟨λd=>⟨λf=>⟨((g d).1 f).1,λi=>M (((g d).1 f).2.1 i),λi=>G (((g d).1 f).2.2 i)⟩,λf=>G ((g d).2 f)⟩,λd=>G (j d)⟩
  ·obtain⟨g,j⟩:=W k1 (λh=>k3 h.2) (λh=>k4 h.1);exact⟨λd=>⟨λf=>⟨((g d).1 f).1,λi=>M (((g d).1 f).2.1 i),λi=>G (((g d).1 f).2.2 i)⟩,λf=>G ((g d).2 f)⟩,λd=>G (j d)⟩
  ·obtain⟨g,j⟩:=W k1 (λh=>k2 h.1) (λh=>by grind);exact⟨λd=>⟨λf=>⟨((g d).1 f).1,λi=>M (((g d).1 f).2.1 i),λi=>G (((g d).1 f).2.2 i)⟩,λf=>G ((g d).2 f)⟩,λd=>G (j d)⟩
  ·obtain⟨g,j⟩:=W k1 (λh=>k2 h.1) (λh=>k4 h.1);exact⟨λd=>⟨λf=>⟨((g d).1 f).1,λi=>M (((g d).1 f).2.1 i),λi=>G (((g d).1 f).2.2 i)⟩,λf=>G ((g d).2 f)⟩,λd=>G (j d)⟩
 ·have k:=w l;have W:=λp q s=>V _ k p q s
  have G:=F _ k;refine⟨ω,λk1=>E _ (u k1),λk1=>⟨λk2=>⟨λk3=>E _ (v k1 k2 k3),λk3=>⟨λk4=>⟨o,λk5=>E _ (n k1 (λh=>k3 h.2) k4 k5),λk5=>?_⟩,λk4=>?_⟩⟩,λk2=>⟨λk4=>⟨o,λk5=>E _ (n k1 (λh=>k2 h.1) k4 k5),λk5=>?_⟩,λk4=>?_⟩⟩⟩
  ·obtain⟨g,j⟩:=W k1 (λh=>k3 h.2) (λh=>by grind);exact⟨λd=>⟨λf=>⟨((g d).1 f).1,λi=>M (((g d).1 f).2.1 i),λi=>G (((g d).1 f).2.2 i)⟩,λf=>G ((g d).2 f)⟩,λd=>G (j d)⟩
  ·obtain⟨g,j⟩:=W k1 (λh=>k3 h.2) (λh=>k4 h.1);exact⟨λd=>⟨λf=>⟨((g d).1 f).1,λi=>M (((g d).1 f).2.1 i),λi=>G (((g d).1 f).2.2 i)⟩,λf=>G ((g d).2 f)⟩,λd=>G (j d)⟩
  ·obtain⟨g,j⟩:=W k1 (λh=>k2 h.1) (λh=>by grind);exact⟨λd=>⟨λf=>⟨((g d).1 f).1,λi=>M (((g d).1 f).2.1 i),λi=>G (((g d).1 f).2.2 i)⟩,λf=>G ((g d).2 f)⟩,λd=>G (j d)⟩
  ·obtain⟨g,j⟩:=W k1 (λh=>k2 h.1) (λh=>k4 h.1);exact⟨λd=>⟨λf=>⟨((g d).1 f).1,λi=>M (((g d).1 f).2.1 i),λi=>G (((g d).1 f).2.2 i)⟩,λf=>G ((g d).2 f)⟩,λd=>G (j d)⟩
def QhY:Ok Th:=okZ [MQ,SK] f181 (λ_=>dr ()) ⟨Qpd .g,Qhz⟩ QpH
def j_ (l:List ai):List ai:=bK [] (ed [] l)
def jN:Nat->List ai->List ai
 | 0,l=>l
 | n+1,l=>if (j_ l).length=l.length then l else jN n (j_ l)
def BV (t:ai):ai:=ic 4 (jN (aG 4 t.af).length (aG 4 t.af))
def atC:bk D:=bP 180 ai (λa _=>uH a) (λy=>y.af.length<=1000000/\dM (aG 4 y.af)) (λy=>[.agg (D.ba 15 y)]) λy=>.agg (D.ba 15 (lk (BV y)))
def atI (y:ai) (x:List ai):Prop:=dM x/\∃n,x.length<=n/\jN n x=jN (aG 4 y.af).length (aG 4 y.af)
def atO (y:atC.Y):cU D:=⟨[],[],[(14,⟨List ai,[],λx=>[(2,.ptr 0 0),(3,.list 15 x)],[],λ_=>[(0,.cells (D.ba 15 bD) 209 false)],1,atI y,λx=>x.length⟩)],[],1,[]⟩
def Qdt (y:ai):Prop:=let a:=lk (BV y);let d:=λp:Prop=>RAE (RAF (RAD p));let e:=λp:Prop=>RAD (RAL p);Iv (y.af.length<=1000000/\(aG 4 y.af).length<=1000000)/\RAQ (4:Int) y.af ((∃z:List ai,aG 4 y.af=z/\d (false=false/\e ((Iv (atI y z)))))/\(∀x:List ai,let c:=ed [] x;let b:=lk (ic 4 x);let f:=aC (ah (bK [] c)) (ah x);(Iv (atI y x))->Iv (dM x)/\aa [x] (Iv (c.length<=1000000/\tl c)/\aa [c] (ak f (Iv (x.length<=1000000)/\aa ([4]:List Int) (aa [x] (b.op=a.op/\b.r=a.r/\b.mn=a.mn/\b.mx=a.mx/\b.lz=a.lz/\b.cap=a.cap/\b.nk=a.nk/\b.af=a.af/\True))) (∃z:List ai,bK [] c=z/\d (false=false/\e ((Iv (atI y z/\z.length<x.length)))))))))
def NL (n:Nat) (l:List Nd):Prop:=l.length<=n/\∀x∈l,iN x
def NL.app {b:Nat} {l m:List Nd} (h:NL a l) (c:NL b m):NL (a+b) (l++m):=
 ⟨by rw[Zab];have:=h.1;have:=c.1;omega,λx d=>(List.mem_append.mp d).elim (h.2 x) (c.2 x)⟩
theorem eB (t:ai) (l:List ai):aB (t::l)=aE t++aB l:=by rfl
def Hn (r:List Rg):NL 1 (aE (pb (r))):=by
 rw[bU];refine⟨by simp[pb,ai.af,aB],λx a=>?_⟩;have a:x=⟨2,aX r,0,0,false,0,0⟩:=by simpa [pb,ai.af,aB,ai.op,ai.r,ai.mn,ai.mx,ai.lz,ai.cap] using a
 rw[a];exact kX r
theorem Tk (ht:NL 1 (aE k)):∀(l:List ai) (i n:Nat),NL n (aB l)->NL n (aB (l.set i k))
 | [],_,_,h=>h
 | a::l,0,n,h=>by
  rw[Zdb,eB];rw[eB] at h;have h1:=h.1;rw[Zab] at h1;have d:1<=(aE a).length:=by rw[bU];simp
  have:=ht.1;exact⟨by grind,λx b=>(List.mem_append.mp b).elim (ht.2 x) λb=>h.2 x (ZaC _ b)⟩
 | a::l,i+1,n,h=>by
  rw[Zdd,eB];rw[eB] at h;have h1:=h.1;rw[Zab] at h1;have:=Tk ht l i (aB l).length ⟨Zah _,λx b=>h.2 x (ZaC _ b)⟩;have c:=this.1;exact⟨by grind,λx b=>(List.mem_append.mp b).elim (λb=>h.2 x (Zay _ b)) (this.2 x)⟩
theorem xK (o:List ai) (k:ai):aB (o++[k])=aB o++aE k:=by grind [cD,aB]
def Tm {b:Nat} (h:NL a (aB l)) (hk:NL b (aE k)):NL (a+b) (aB (dC l k)):=by
 unfold dC;split
 ·have:=Tk (Hn ((om l).r++k.r)) l (l.length-1) a h;exact⟨by have:=this.1;omega,this.2⟩
 ·rw[xK];exact h.app hk
def nQ (h:NL a (aB (k::l))):NL (aE k).length (aE k)/\NL (aB l).length (aB l)/\(aE k).length+(aB l).length<=a:=by
 rw[eB] at h;have h1:=h.1;rw[Zab] at h1;exact⟨⟨Zah _,λx n=>h.2 x (Zay _ n)⟩,⟨Zah _,λx n=>h.2 x (ZaC _ n)⟩,h1⟩
theorem tm:∀(l o:List ai) (a b:Nat),NL a (aB o)->NL b (aB l)->NL (a+b) (aB (bK o l))/\(bK o l).length<=o.length+l.length
 | [],o,a,b,h,_=>⟨⟨by have:=h.1;unfold bK;omega,h.2⟩,Zah _⟩
 | k::l,o,a,b,h,h2=>by
  obtain⟨p1,p2,p3⟩:=nQ h2;obtain⟨c,d⟩:=tm l _ _ _ (Tm h p1) p2;have:=jo o k;have:=c.1;rw[bK];exact⟨⟨ω,c.2⟩,by grind⟩
theorem pV:∀(l o:List ai) (a b:Nat),NL a (aB o)->NL b (aB l)->NL (a+b) (aB (ed o l))/\(ed o l).length<=o.length+l.length
 | [],o,a,b,h,_=>⟨⟨by have:=h.1;unfold ed;omega,h.2⟩,Zah _⟩
 | k::l,o,a,b,h,h2=>by
  obtain⟨p1,p2,p3⟩:=nQ h2;rw[ed];split
  ·obtain⟨c,d⟩:=pV l o _ _ h p2;have:=c.1;exact⟨⟨ω,c.2⟩,by grind⟩
  ·obtain⟨c,d⟩:=pV l (o++[k]) _ _ (by rw[xK];exact h.app p1) p2;have:=c.1;simp only[Zab,Zae,Zak] at d;exact⟨⟨ω,c.2⟩,by grind⟩
theorem BW:NL 0 (aB []):=⟨by simp[aB],λx a=>by grind [aB]⟩
theorem YZ (h:dM l):dM (ed [] l)/\(ed [] l).length<=l.length:=by
 obtain⟨a,b⟩:=pV l [] 0 1000000 BW h;exact⟨⟨by have:=a.1;omega,a.2⟩,by grind⟩
theorem Kn (h:dM l):dM (bK [] l)/\(bK [] l).length<=l.length:=by
 obtain⟨a,b⟩:=tm l [] 0 1000000 BW h;exact⟨⟨by have:=a.1;omega,a.2⟩,by grind⟩
theorem dM.rt (h:dM l):tl l:=λt ht=>by
 obtain⟨i,hi,rfl⟩:=Za3 ht;have:=h.get hi;rw[eG hi] at this;have a:=this.2 ⟨l[i].op,l[i].r,l[i].mn,l[i].mx,l[i].lz,l[i].cap,l[i].af.length⟩ (by grind [bU]);exact a
theorem atH (y:ai) (d:atC.pre y):Qdt y:=by
 obtain⟨h1,b⟩:y.af.length<=1000000/\dM (aG 4 y.af):=d;unfold Qdt;simp only[bh,je,mJ,aw,aJ];refine⟨⟨h1,b.len⟩,⟨_,rfl,b,_,Zah _,rfl⟩,λx c=>?_⟩;obtain⟨i1,n,i2,i3⟩:=c;obtain⟨a,h⟩:=YZ i1;obtain⟨f,g⟩:=Kn a;refine⟨i1,⟨a.len,a.rt⟩,λe=>⟨i1.len,?_⟩,λe=>⟨_,rfl,?_,ω⟩⟩
 ·have e:(j_ x).length=x.length:=by grind [j_]
  have:BV y=ic 4 x:=by
   unfold BV;rw[<-i3];cases n with
   | zero=>rfl
   | succ n=>rw[jN,Zac e]
  grind
 ·have e:¬(j_ x).length=x.length:=by grind [j_]
  cases n with
  | zero=>exact absurd (show(j_ x).length=x.length by omega) e
  | succ n=>
   rw[jN,Zaa e] at i3;exact⟨f,n,ω,i3⟩
def QpI (a:Ok cK):Ok atC:=okZ [MO,MZ,M4,MN] f180 atO ⟨QhA,QhW,QhX a,QaY⟩ atH
def xL (t:ai):ai:=if t.op=3 then D6 t else if t.op=4 then BV t else if t.op=5 then cS t else t
mutual
def ka:ai->ai
 | .mk op r mn mx lz cap nk ks=>xL (.mk op r mn mx lz cap nk (dp ks))
def dp:List ai->List ai
 | []=>[]
 | t::l=>ka t::dp l
end
mutual
def si:ai->Prop
 | .mk op _ mn _ _ _ _ ks=>(op=5->1<=ks.length/\0<=mn)/\pd ks
def pd:List ai->Prop
 | []=>True
 | t::l=>si t/\pd l
end
variable {l:List ai} {k:ai}
def M5 (t:ai):ai:=lk (ka t)
def Ea (t:ai) (n:Nat):List ai:=lk ((dp t.af).take n)
def Ho:bk D:=bP 122 ai (λa _=>uH a) (λy=>dG y/\si y) (λy=>[.agg (D.ba 15 y)]) λy=>.agg (D.ba 15 (M5 y))
def QpJ (y:Ho.Y):cU D:=⟨[],[],[(58,⟨Nat,[11,12],λx=>[(1,.ptr 0 0),(2,.ptr 1 0),(3,.grow 15 (Ea y x) 2),(13,QtJ x)],[],λ_=>[(0,.cells (D.ba 15 y) 209 false),(1,.cells (D.ba 15 bD) 209 false),(2,.tok 15 209)],3,λx=>x<=y.af.length,λx=>y.af.length-x⟩)],[],1,[]⟩
def QpK (y:Ho.Y):Prop:=vc [Ho.under dg (dg y),ctC,atC,Th] f122 Ho QpJ y
def Tn (y:ai):Prop:=let a:=M5 y;let q1:=y.af;let j:=ah q1;let n:=λp:Prop=>RAE (RAF (RAD p));let o:=λp:Prop=>RAD (RAL (RA1 y (RAP q1 p)));Tt 1 (aI 0 j/\bF j 96/\(∃z:Nat,RAQ q1 j ([]=Ea y z/\0=(z:Int)/\n (false=false/\o ((Iv (z<=q1.length))))))/\(∀x:Nat,let g:=Ea y x;let l:=q1.length;let e:=gt (ai.mk 0 [] 0 0 false 0 0 []) q1 (x:Int).toNat;let m:=ai.mk y.op y.r y.mn y.mx y.lz y.cap y.nk g;let h:=lk (D6 m);let b:=lk (BV m);let c:=lk (cS m);let f:=ai.mk e.op e.r e.mn e.mx e.lz e.cap e.nk e.af;let d:=M5 f;let k:=bM g [ai.mk d.op d.r d.mn d.mx d.lz d.cap d.nk d.af];let i:=λp:Prop=>RA1 y (RAP g p);(Iv (x<=l))->ak (az (x:Int) j) (aI 0 (x:Int)/\az (x:Int) j/\Iv ((dG f/\si f)/\dg f<dg y)/\RA1 e (RAP e.af (bF (ah k) 96/\∃z:Nat,aa [q1] (aa [j] (k=Ea y z/\aD .i64 (x:Int) 1=(z:Int)/\n (false=false/\o ((Iv (z<=l/\(l-z)<(l-x)))))))))) (ak (aC y.op 3) (Iv (g.length<=1000000/\(aG 3 g).length<=1000000)/\i (h.op=a.op/\h.r=a.r/\h.mn=a.mn/\h.mx=a.mx/\h.lz=a.lz/\h.cap=a.cap/\h.nk=a.nk/\h.af=a.af/\True)) (ak (aC y.op 4) (Iv (g.length<=1000000/\dM (aG 4 g))/\i (b.op=a.op/\b.r=a.r/\b.mn=a.mn/\b.mx=a.mx/\b.lz=a.lz/\b.cap=a.cap/\b.nk=a.nk/\b.af=a.af/\True)) (ak (aC y.op 5) (Iv (YW m)/\i (c.op=a.op/\c.r=a.r/\c.mn=a.mn/\c.mx=a.mx/\c.lz=a.lz/\c.cap=a.cap/\c.nk=a.nk/\c.af=a.af/\True)) (y.op=a.op/\y.r=a.r/\y.mn=a.mn/\y.mx=a.mx/\y.lz=a.lz/\y.cap=a.cap/\y.nk=a.nk/\g=a.af/\True))))))
def Y0:∀y,Tn y=QpK y:=λy=>by kernel_rfl
theorem jA (t:ai):si t↔(t.op=5->1<=t.af.length/\0<=t.mn)/\pd t.af:=by cases t;rw[si];exact ZbW
theorem kj (l:List ai):pd l↔∀t∈l,si t:=by
 induction l with
 | nil=>simp[pd]
 | cons a l b=>rw[pd,b];simp
theorem pW (l:List ai):(dp l).length=l.length:=by
 induction l with
 | nil=>simp[dp]
 | cons a l b=>simp[dp,b]
theorem M6 (l:List ai):dp l=l.map ka:=by
 induction l with
 | nil=>simp[dp]
 | cons a l b=>simp[dp,b]
def Y1 (t:ai):ka t=xL (.mk t.op t.r t.mn t.mx t.lz t.cap t.nk (dp t.af)):=by cases t;rw[ka];rfl
theorem Eb {op:Int} (h:op≠5) (hl:pd l):si (ic op l):=by
 match l,hl with
 | [],_=>rw[ic,si];exact⟨λh=>ω,by assumption⟩
 | [k],hl=>exact(kj _).mp hl k (by simp)
 | a::b::l,hl=>
  grind [ic,si]
theorem Ak {op:Int} (hl:pd l):pd (aG op l):=by
 grind [kj,aG,jA]
def Y2 (hl:pd l):pd (gX l):=by
 rw[kj] at*
 exact λt ht=>hl t (List.mem_filter.mp ht).1
theorem BX:∀(l o:List ai),pd o->pd l->pd (ed o l)
 | [],o,h,_=>by assumption
 | k::l,o,h,h2=>by
  rw[ed];rw[pd] at h2;split
  ·exact BX l o h h2.2
  ·refine BX l _ ?_ h2.2;grind [kj]
theorem To (r:List Rg):si (pb r):=by grind [pb,si,pd]
theorem Tp (h:pd l) (hk:si k):pd (dC l k):=by
 grind [kj,dC,To]
theorem Al:∀(l o:List ai),pd o->pd l->pd (bK o l)
 | [],o,h,_=>by assumption
 | k::l,o,h,h2=>by
  rw[bK];rw[pd] at h2;exact Al l _ (Tp h h2.1) h2.2
theorem Ec:∀(n:Nat) (l:List ai),pd l->pd (jN n l)
 | 0,l,h=>h
 | n+1,l,h=>by
  rw[jN];split
  ·exact h
  ·exact Ec n _ (Al _ _ (by grind [pd]) (BX _ _ (by grind [pd]) h))
def NL.to {a b:Nat} {l:List Nd} (h:NL a l) (c:a<=b):NL b l:=⟨Zav h.1 c,h.2⟩
theorem m_ (op:Int):∀(l:List ai) (n:Nat),NL n (aB l)->NL n (aB (aG op l))
 | [],n,h=>h
 | k::l,n,h=>by
  obtain⟨p1,p2,p3⟩:=nQ h;have e:aG op (k::l)=(if k.op=op then k.af else[k])++aG op l:=rfl;have r:=m_ op l _ p2;rw[e,cD];split
  ·rw[bU] at p1 p3;simp only[Zae] at p3;have q:NL (aB k.af).length (aB k.af):=⟨Zah _,λx a=>p1.2 x (ZaU _ a)⟩;exact(q.app r).to ω
  ·rw[show aB [k]=aE k by grind [aB]];exact(p1.app r).to ω
theorem Ko:∀(l:List ai) (n:Nat),NL n (aB l)->NL n (aB (gX l))
 | [],n,h=>h
 | k::l,n,h=>by
  obtain⟨p1,p2,p3⟩:=nQ h;have r:=Ko l _ p2;unfold gX at r ⊢;rw[List.filter_cons];split
  ·rw[eB];exact(p1.app r).to ω
  ·exact r.to ω
theorem Kp (op:Int):NL 1 (aE (.mk op [] 0 0 false 0 0 [])):=by
 rw[aE];refine⟨by simp[aB],λx a=>?_⟩;have a:x=⟨op,[],0,0,false,0,0⟩:=by grind [aB]
 rw[a];exact Zaj _
theorem Ed (op:Int) {n:Nat} (h:NL n (aB l)):NL (n+1) (aE (ic op l)):=by
 match l,h with
 | [],_=>exact(Kp 1).to ω
 | [k],h=>
  rw[show aB [k]=aE k by grind [aB]] at h;exact h.to ω
 | a::b::l,h=>
  rw[show ic op (a::b::l)=.mk op [] 0 0 false 0 0 (a::b::l) from rfl,aE];refine⟨by have:=h.1;simp only[Zae];omega,λx c=>?_⟩;rcases List.mem_cons.mp c with c | c
  ·rw[c];exact Zaj _
  ·exact h.2 x c
theorem Ee:∀(n:Nat) (l:List ai) (m:Nat),NL m (aB l)->NL m (aB (jN n l))
 | 0,l,m,h=>h
 | n+1,l,m,h=>by
  rw[jN];split
  ·exact h
  ·have h1:=(pV l [] 0 m BW h).1;have a:=(tm _ [] 0 _ BW h1).1;exact Ee n _ m (a.to ω)
def Qa1 (l:List ai):Prop:=∀x∈aB l,iN x
theorem Qdv (h:0<l.length) (hl:Qa1 l) {a:Nd}:NL (a::aB l).length (aE (l.getD 0 bD)):=by
 cases l with
 | nil=>cases h
 | cons k l=>
  have e:(k::l).getD 0 bD=k:=rfl;rw[e,eB];refine⟨by grind,λx b=>hl x (by grind [eB])⟩
def Kept (t u:ai):Prop:=si u/\NL (aE t).length (aE u)
def Y3 (h:si k) (b:NL (aE k).length (aE k)):Kept k (uI k):=by
 unfold uI;refine⟨?_,?_⟩
 ·rw[jA] at*;exact h
 ·rw[bU] at b;rw[bU k];rw[aE];refine⟨Zah _,λx a=>?_⟩;rcases List.mem_cons.mp a with a | a
  ·rw[a];exact b.2 ⟨k.op,k.r,k.mn,k.mx,k.lz,k.cap,k.af.length⟩ Za8
  ·exact b.2 x (ZaU _ a)
theorem Tq (hk:1<=k.af.length) (h:si k) (a:NL (aE k).length (aE k)):Kept k (bH k):=by
 have c:=(kj _).mp ((jA k).mp h).2;unfold bH;refine⟨by grind,?_⟩;rw[bU] at a ⊢;have hl:Qa1 k.af:=λx b=>a.2 x (ZaU _ b)
 exact Qdv hk hl
theorem sj (t:ai):1<=(aE t).length:=by rw[bU];simp
theorem Tr (hk:1<=k.af.length) (h0:0<=k.mn) (h:si k) (b:NL (aE k).length (aE k)):Kept k (cS k):=by
 have K:=Tq hk h b;unfold cS;split
 ·exact K
 ·split
  ·exact K
  ·split
   ·exact⟨by grind [si,pd],(Kp 1).to (sj k)⟩
   ·split
    ·obtain⟨k1,k2⟩:=K;generalize bH k=t at*
     rw[jA] at k1;refine⟨?_,?_⟩
     ·grind [D9,si,Int.mul_nonneg]
     ·rw[bU t] at k2;unfold D9;rw[aE];refine⟨by have:=k2.1;simpa using this,λx a=>?_⟩;rcases List.mem_cons.mp a with a | a
      ·rw[a];exact k2.2 ⟨t.op,t.r,t.mn,t.mx,t.lz,t.cap,t.af.length⟩ Za8
      ·exact k2.2 x (ZaU _ a)
    ·exact Y3 h b
theorem M7 {t:ai} (h:si t) (a:NL (aE t).length (aE t)):Kept t (xL t):=by
 have hi:=(jA t).mp h;have hl:NL (aB t.af).length (aB t.af):=by
  rw[bU] at a;exact⟨Zah _,λx b=>a.2 x (ZaU _ b)⟩
 have e:(aE t).length=(aB t.af).length+1:=by rw[bU];simp
 unfold xL;split
 ·refine⟨Eb ω (Y2 (Ak hi.2)),?_⟩;grind [D6,Ed,Ko,m_]
 ·split
  ·refine⟨Eb ω (Ec _ _ (Ak hi.2)),?_⟩;grind [BV,Ed,Ee,m_]
  ·split
   ·grind [Tr]
   ·exact⟨h,a⟩
mutual
theorem pX:∀t:ai,si t->NL (aE t).length (aE t)->Kept t (ka t)
 | .mk op r mn mx lz cap nk ks,h,hn=>by
  rw[si] at h
  rw[aE] at hn
  obtain⟨r1,r2⟩:=nR ks h.2 ⟨Zah _,λx hx=>hn.2 x (ZaU _ hx)⟩
  have hN:NL (aE (.mk op r mn mx lz cap nk ks)).length (aE (.mk op r mn mx lz cap nk (dp ks))):=by
   rw[aE,aE]
   refine⟨by have:=r2.1;simp only[Zae];omega,λx hx=>?_⟩
   rcases List.mem_cons.mp hx with hx | hx
   ·rw[hx];exact hn.2 ⟨op,r,mn,mx,lz,cap,ks.length⟩ Za8
   ·exact r2.2 x hx
  have B:=M7 (t:=.mk op r mn mx lz cap nk (dp ks)) (by rw[si,pW];exact⟨h.1,r1⟩) ⟨Zah _,hN.2⟩
  rw[ka]
  exact⟨B.1,B.2.to hN.1⟩
theorem nR:∀l:List ai,pd l->NL (aB l).length (aB l)->pd (dp l)/\NL (aB l).length (aB (dp l))
 | [],_,h=>⟨by rw[dp,pd];trivial,by rw[dp];exact h⟩
 | t::l,h,hn=>by
  rw[pd] at h
  obtain⟨p1,p2,p3⟩:=nQ hn
  have a:=pX t h.1 p1
  have b:=nR l h.2 p2
  rw[dp,pd,eB (ka t)]
  exact⟨⟨a.1,b.1⟩,(a.2.app b.2).to p3⟩
end
theorem QpL (y:ai) (u:Ho.pre y):Tn y:=by
 obtain⟨h1,n⟩:dG y/\si y:=u;have hi:=(jA y).mp n;have hk:=h1.af;have hl:=hk.len;have t:=pW y.af;obtain⟨z,h⟩:=nR y.af hi.2 ⟨Zah _,hk.2⟩;unfold Tn;simp only[bN,bh,aw,a8,br,di,bS,Zad,M5,Ea,aJ];refine⟨ω,ω,⟨0,rfl,rfl,Zaj _⟩,λx k=>⟨λe=>?_,λe=>?_⟩⟩
 ·have c:x<y.af.length:=ω;have q:y.af.getD x (ai.mk 0 [] 0 0 false 0 0 [])=y.af.getD x bD:=rfl;rw[q];have ht:(dp y.af).take (x+1)=(dp y.af).take x++[ka (y.af.getD x bD)]:=by
   rw[cm bD ω,eG (show x<(dp y.af).length by omega),eG c];grind [M6]
  have f:si (y.af.getD x bD):=by grind [kj]
  exact⟨ω,e,⟨⟨hk.get c,f⟩,iO c⟩,by grind,x+1,ht.symm,bL ω,ω,ω⟩
 ·have k:(dp y.af).take x=dp y.af:=ZaA ω;rw[k,Y1 y];generalize s:dp y.af=a at*
  have w:∀op,(aG op a).length<=1000000/\dM (aG op a):=λop=>by
   have:=m_ op a _ h;have j:dM (aG op a):=⟨Zav this.1 hk.1,this.2⟩;exact⟨j.len,j⟩
  refine⟨λo=>?_,λg=>⟨λo=>?_,λl=>⟨λo=>?_,λv=>?_⟩⟩⟩
  ·rw[show xL (.mk y.op y.r y.mn y.mx y.lz y.cap y.nk a)=D6 (.mk y.op y.r y.mn y.mx y.lz y.cap y.nk a) from Zac o];grind
  ·rw[show xL (.mk y.op y.r y.mn y.mx y.lz y.cap y.nk a)=BV (.mk y.op y.r y.mn y.mx y.lz y.cap y.nk a) from(Zaa g).trans (Zac o)];grind
  ·rw[show xL (.mk y.op y.r y.mn y.mx y.lz y.cap y.nk a)=cS (.mk y.op y.r y.mn y.mx y.lz y.cap y.nk a) from((Zaa g).trans (Zaa l)).trans (Zac o)];obtain⟨b1,m⟩:=hi.1 o;have d:0<a.length:=ω;have p:dM a:=⟨Zav h.1 hk.1,h.2⟩;have b:si (a.getD 0 bD):=by grind [kj]
   exact⟨⟨show 1<=a.length by omega,p.get d,m,λi=>⟨(((jA _).mp b).1 i).2,(((jA _).mp b).1 i).1⟩⟩,rfl,rfl,rfl,rfl,rfl,rfl,rfl,rfl⟩
  ·rw[show xL (.mk y.op y.r y.mn y.mx y.lz y.cap y.nk a)=(.mk y.op y.r y.mn y.mx y.lz y.cap y.nk a) from((Zaa g).trans (Zaa l)).trans (Zaa v)];exact⟨rfl,rfl,rfl,rfl,rfl,rfl,rfl,rfl⟩
def QhZ (a:Ok cK):Ok Ho:=Ql dg Y0 ⟨Qpy,QpI a,QhY⟩ QpL
def cL (y:List Nd):List Nd:=if dL y=true then aE (ka (ct y).1) else[]
def oo (y:List Nd):Prop:=∀x∈y,iN x
def Ef:bk D:=bP 77 (List Nd) Yd oo (λy=>[.list 7 y]) λy=>.list 7 (lk (cL y))
def Ts (y:List Nd):Prop:=let a:=(ct y).1;let q1:=ai.mk a.op a.r a.mn a.mx a.lz a.cap a.nk a.af;let b:=M5 q1;let c:=ai.mk b.op b.r b.mn b.mx b.lz b.cap b.nk b.af;Iv (cA y)/\RAP y (ak (!(dL y)) ([]=lk (cL y)/\True) (Iv (y.length<=1000000/\Option.isSome (fL y.length y))/\aa [y] (Iv (dG q1/\si q1)/\aa [a.op] (aa [a.r] (aa [a.mn,a.mx] (aa [a.lz] (aa [a.cap,a.nk] (aa [a.af] (Iv (dG c)/\aa [b.op] (aa [b.r] (aa [b.mn,b.mx] (aa [b.lz] (aa [b.cap,b.nk] (aa [b.af] (dc c=lk (cL y)/\True)))))))))))))))
def M8 (x:Nd):Prop:=∃g:Nat,(cj x g).2
mutual
def kA:ai->Prop
 | .mk op r mn mx lz cap nk ks=>M8 ⟨op,r,mn,mx,lz,cap,ks.length⟩/\nk=ks.length/\na ks
def na:List ai->Prop
 | []=>True
 | t::l=>kA t/\na l
end
def iP (t:ai):kA t↔M8 ⟨t.op,t.r,t.mn,t.mx,t.lz,t.cap,t.af.length⟩/\t.nk=t.af.length/\na t.af:=by cases t;rw[kA];exact ZbW
theorem pY (l:List ai):na l↔∀t∈l,kA t:=by
 induction l with
 | nil=>simp[na]
 | cons a l b=>rw[na,b];simp
mutual
theorem tn:∀(t:ai) (m:Nat) (rest:List Nd),kA t->(aE t++rest).length<=m->fL m (aE t++rest)=some (t,rest)
 | .mk op r mn mx lz cap nk ks,m,rest,h,hm=>by
  rw[kA] at h
  rw[aE] at hm ⊢
  simp only[Za1,Zae] at hm ⊢
  obtain⟨k,rfl⟩:∃k,m=k+1:=⟨m-1,ω⟩
  rw[fL]
  simp only[Zad]
  rw[xM ks k rest h.2.2 ω,h.2.1]
theorem xM:∀(l:List ai) (m:Nat) (rest:List Nd),na l->(aB l++rest).length<=m->jM (fL m) l.length (aB l++rest)=some (l,rest)
 | [],m,rest,_,_=>by simp[jM,aB]
 | t::l,m,rest,h,hm=>by
  rw[na] at h
  rw[aB,ZaD] at hm ⊢
  rw[Zae,jM,tn t m _ h.1 hm]
  simp only
  rw[xM l m rest h.2 (by simp only[Zab] at hm ⊢;omega)]
end
variable {L:List Nd}
theorem Eg {x:Nd} {g:Int} (h:(cj x g).2):(cj x g).1=x.af/\0<=x.af:=by
 revert h
 grind [cj]
def Gr (L:List Nd) (f:Nat->Nat->Bool×Nat×Nat):Prop:=∀a g b c,f a g=(true,b,c)->∃t,kA t/\L.drop a=aE t++L.drop b
theorem Am {f:Nat->Nat->Bool×Nat×Nat} (e:Gr L f):∀(k a g b d:Nat),fG f k a g=(true,b,d)->∃c,na c/\c.length=k/\L.drop a=aB c++L.drop b
 | 0,a,g,b,d,h=>by cases h;exact⟨[],by grind [na],rfl,by rfl⟩
 | k+1,a,g,b,d,h=>by
  rw[fG] at h;split at h
  ·grind
  ·rename_i h1
   obtain⟨t,i,j⟩:=e a g (f a g).2.1 (f a g).2.2 (by
    have:(f a g).1:=by grind
    rw[<-this])
   obtain⟨c,l,m,n⟩:=Am e k _ _ _ _ h;exact⟨t::c,by grind [na],by grind,by grind [aB]⟩
theorem Eh (L:List Nd):∀n,Gr L (fH L n)
 | 0=>λa g b j h=>by cases h
 | n+1=>λa g b j h=>by
  rw[fH] at h;split at h
  ·cases h
  ·rename_i hl
   have e:L.drop a=L.getD a (nd 0)::L.drop (a+1):=by simp_all
   generalize L.getD a (nd 0)=x at h e;split at h
   ·cases h
   ·rename_i hs
    have c:(cj x g).2:=by grind
    obtain⟨i,e2⟩:=Eg c;obtain⟨f,h1,k,l⟩:=Am (Eh L n) _ _ _ _ _ h;rw[i] at k;have d:(f.length:Int)=x.af:=ω;refine⟨.mk x.op x.r x.mn x.mx x.lz x.cap x.af f,by rw[kA,d];exact⟨⟨g,c⟩,rfl,h1⟩,?_⟩;rw[e,l,aE,d];rfl
theorem jq (h:dL L):∃t,kA t/\L=aE t/\L.length<=480:=by
 unfold dL at h;simp only[ZaW,ZaP,Zb7] at h;obtain⟨⟨⟨h1,a⟩,b⟩,c⟩:=h;obtain⟨t,d,e⟩:=Eh L 241 0 0 (fH L 241 0 0).2.1 (fH L 241 0 0).2.2 (by grind);grind
theorem xN {t:ai} (h:kA t):fL (aE t).length (aE t)=some (t,[]):=by
 have:=tn t (aE t).length [] h (by simp);grind
theorem pe {t:ai} (h:kA t):ct (aE t)=(t,[]):=by
 grind [ct,aJ,xN]
theorem M8.rep {x:Nd} (h:M8 x) (a:x.op=5):x.af=1/\0<=x.mn/\x.mn<=30/\(x.mx= -1\/(x.mn<=x.mx/\x.mx<=30)):=by
 obtain⟨g,h⟩:=h;grind [cj]
mutual
theorem Ei:∀t:ai,kA t->si t
 | .mk op r mn mx lz cap nk ks,h=>by
  rw[kA] at h
  rw[si]
  refine⟨λh5=>?_,Tu ks h.2.2⟩
  obtain⟨h1,h2,_⟩:=h.1.rep h5
  have h1:(ks.length:Int)=1:=h1
  exact⟨ω,h2⟩
theorem Tu:∀l:List ai,na l->pd l
 | [],_=>by rw[pd];trivial
 | t::l,h=>by rw[na] at h;rw[pd];exact⟨Ei t h.1,Tu l h.2⟩
end
theorem QpN (y:List Nd) (j:Ef.pre y):Ts y:=by
 have a:cA y:=j;unfold Ts;simp only[bh,bS,M5,dc,aJ,Zan,Zao];refine⟨a,λh=>?_,λh=>?_⟩
 ·grind [cL]
 ·obtain⟨t,h1,f,g⟩:=jq h;have d:=Ei t h1;have e:ct y=(t,[]):=by grind [pe]
  have hs:cL y=aE (ka t):=by
   grind [cL]
  have b:NL (aE t).length (aE t):=by rw[<-f];exact⟨Zah _,a⟩
  have i:(aE t).length<=480:=by grind
  obtain⟨_,k2⟩:=pX t d b;rw[e,hs];have k1:(aE (ka t)).length<=(aE t).length:=k2.1;have c:(aE t).length<=1000000:=Zav i (by decide);refine⟨⟨Zav g (by decide),?_⟩,⟨⟨c,b.2⟩,d⟩,⟨Zav k1 c,k2.2⟩,rfl⟩;grind [xN]
def Qa2 (a:Ok cK):Ok Ef:=okZ [GR,Hk,Ho,Hl] f77 (λ_=>dr ()) ⟨QaN a,QhB,QhZ a,QhC⟩ QpN
def pf (op mn mx:Int) (k s:Nat):Nat:=
 if op=2\/op=7\/op=8 then 1 else if op=4 then s+2*(k-1) else if op=6 then s+2
 else if op=5 then(if mx= -1 then mn.toNat*s+s+2 else mn.toNat*s+(mx.toNat-mn.toNat)*(s+1)) else s
mutual
def bt:ai->Nat
 | .mk op _ mn mx _ _ _ ks=>pf op mn mx ks.length (aO ks)
def aO:List ai->Nat
 | []=>0
 | t::l=>bt t+aO l
end
def eO (n:Nat):Int:=min (n:Int) 401
mutual
def jO:ai->List Int
 | .mk op _ mn mx _ _ _ ks=>eO (pf op mn mx ks.length (aO ks))::fT ks
def fT:List ai->List Int
 | []=>[]
 | t::l=>jO t++fT l
end
mutual
def ql:ai->Nat->List Int
 | .mk _ _ _ _ _ _ _ ks,a=>((a+1+(aB ks).length:Nat):Int)::kY ks (a+1)
def kY:List ai->Nat->List Int
 | [],_=>[]
 | t::l,a=>ql t a++kY l (a+(aE t).length)
end
def kB (o:List Int) (a:Nat) (s:List Int):List Int:=o.take a++s++o.drop (a+s.length)
structure nr where
 l:List Nd
 o:List Int
 a:Int
def nr.t (y:nr):ai:=lk (ct (y.l.drop y.a.toNat)).1
def nr.n (y:nr):Nat:=lk (aE y.t).length
def Qh0 (args:List (AV D.E)) (s:St D.E):C nr:=match args with
 | [l,o,a]=>aA (aW D s 7 l) λl=>aA (aW D s 5 o) λo=>aQ (da a) λ_ a=>.ret ⟨l,o,a⟩
 | _=>.fail
def M9 (y:nr):Prop:=0<=y.a/\y.o.length=y.l.length/\y.l.length<=480/\∃t r,kA t/\y.l.drop y.a.toNat=aE t++r
abbrev An (l:List Int):List (Nat×AO D.E):=[(0,.arr 5 l 3 false)]
variable {a:Nat} {o s:List Int}
def Fa (y:nr):List Int:=lk (kB y.o y.a.toNat (jO y.t))
def szC:bk D:=⟨117,nr,Qh0,M9,λy=>[.list 7 y.l,.own 0 1 (ah y.o),QtJ y.a],λy=>An y.o,λy=>QtJ (y.a+y.n),λy=>An (Fa y),1,1⟩
def Y5 (y:nr) (k:Nat):List Int:=lk (kB y.o (y.a.toNat+1) (fT (y.t.af.take k)))
def Od (y:nr) (k:Nat):Int:=lk (y.a+1+(aB (y.t.af.take k)).length)
def szM (y:nr) (k:Nat):Int:=lk (eO (aO (y.t.af.take k)))
def szO (y:szC.Y):cU D:=⟨[],[],[(250,⟨Nat,[0,2,18],λx=>[(1,.own 0 1 (ah (Y5 y x))),(7,.ptr 1 0),(8,QtJ (Od y x)),(9,QtJ (szM y x)),(19,QtJ x)],[1],λx=>An (Y5 y x),2,λx=>x<=y.t.af.length,λx=>y.t.af.length-x⟩)],[],1,[]⟩
def szV (y:szC.Y):Prop:=vc [szC.under (λy=>dg y.t) (dg y.t)] f117 szC szO y
def Hq (y:nr):List Int:=lk (kB y.o y.a.toNat (ql y.t y.a.toNat))
def enC:bk D:=⟨118,nr,Qh0,M9,λy=>[.list 7 y.l,.own 0 1 (ah y.o),QtJ y.a],λy=>An y.o,λy=>QtJ (y.a+y.n),λy=>An (Hq y),1,1⟩
def Y6 (y:nr) (k:Nat):List Int:=lk (kB y.o (y.a.toNat+1) (kY (y.t.af.take k) (y.a.toNat+1)))
def enO (y:enC.Y):cU D:=⟨[],[],[(58,⟨Nat,[0,2,14],λx=>[(1,.own 0 1 (ah (Y6 y x))),(7,QtJ (Od y x)),(15,QtJ x)],[],λx=>An (Y6 y x),1,λx=>x<=y.t.af.length,λx=>y.t.af.length-x⟩)],[],1,[]⟩
def enV (y:enC.Y):Prop:=vc [enC.under (λy=>dg y.t) (dg y.t)] f118 enC enO y
def Qdy (y:nr):Prop:=let j:=Fa y;let q1:=y.a.toNat;let g:=lk (ct (List.drop q1 y.l)).1;let b:=gt (Nd.mk 0 [] 0 0 false 0 0) y.l q1;let q:=g.af.length;let u:=iY .i64 2 (cQ .i64 b.af 1);let v:=cQ .i64 b.mx b.mn;let t:=λp:Prop=>RA7 b p;let A:=y.a+((lk (aE g).length:Nat):Int);aI 0 y.a/\az y.a (ah y.l)/\(∃z:Nat,RAR y.l y.a b.af (ah y.o=ah (Y5 y z)/\aD .i64 y.a 1=Od y z/\0=szM y z/\0=(z:Int)/\t (y.o=Y5 y z/\(Iv (z<=q)))))/\(∀x:Nat,let f:=Y5 y x;let e:=Od y x;let d:=szM y x;let c:=ah f;let k:=Fa (nr.mk y.l f e);let m:=lk (ct (List.drop e.toNat y.l)).1;let n:=iY .i64 b.mn d;let s:=az (x:Int) b.af;let h:Prop:=(aI 0 y.a/\az y.a c/\e=A/\cO f q1 (ga 1 401)=j/\True);let i:Prop:=(ak (aC b.op 4) (aI 0 y.a/\az y.a c/\e=A/\cO f q1 (ga (aD .i64 d u) 401)=j/\True) (ak (aC b.op 6) (aI 0 y.a/\az y.a c/\e=A/\cO f q1 (ga (aD .i64 d 2) 401)=j/\True) (ak (aC b.op 5) (ak (aC b.mx (-1)) (aI 0 y.a/\az y.a c/\e=A/\cO f q1 (ga (aD .i64 (aD .i64 n d) 2) 401)=j/\True) (aI 0 y.a/\az y.a c/\e=A/\cO f q1 (ga (aD .i64 n (iY .i64 v (aD .i64 d 1))) 401)=j/\True)) (aI 0 y.a/\az y.a c/\e=A/\cO f q1 (ga d 401)=j/\True))));(Iv (x<=q))->ak s (Iv (M9 (nr.mk y.l f e)/\dg m<dg g)/\RAS y.l c e f (aI 0 e/\az e c/\∃z:Nat,aa [y.l] (aa [y.a,b.af] (c=ah (Y5 y z)/\(e+((lk (aE m).length:Nat):Int))=Od y z/\ga (aD .i64 d (gt 0 k e.toNat)) 401=szM y z/\aD .i64 (x:Int) 1=(z:Int)/\t (k=Y5 y z/\(Iv (z<=q/\(q-z)<(q-x)))))))) (ak (aC b.op 2) (ak (aC b.op 2) (h) (i)) (ak (aC b.op 7) (ak (aC b.op 7) (h) (i)) (ak (aC b.op 8) (h) (i)))))
def Qdz:∀y,Qdy y=szV y:=λy=>by kernel_rfl
def QdA (y:nr):Prop:=let d:=lk (ct (List.drop y.a.toNat y.l)).1;let q1:=d.af.length;let u:=gt (Nd.mk 0 [] 0 0 false 0 0) y.l y.a.toNat;let f:=λp:Prop=>RAR y.l y.a u.af p;aI 0 y.a/\az y.a (ah y.l)/\(∃z:Nat,f (ah y.o=ah (Y6 y z)/\aD .i64 y.a 1=Od y z/\0=(z:Int)/\y.o=Y6 y z/\(Iv (z<=q1))))/\(∀x:Nat,let b:=Od y x;let c:=Y6 y x;let e:=lk (ct (List.drop b.toNat y.l)).1;let g:=az (x:Int) u.af;(Iv (x<=q1))->ak g (Iv (M9 (nr.mk y.l c b)/\dg e<dg d)/\RAS y.l (ah c) b c (∃z:Nat,f (ah c=ah (Y6 y z)/\(b+((lk (aE e).length:Nat):Int))=Od y z/\aD .i64 (x:Int) 1=(z:Int)/\Hq (nr.mk y.l c b)=Y6 y z/\(Iv (z<=q1/\(q1-z)<(q1-x)))))) (aI 0 y.a/\az y.a (ah c)/\b=(y.a+((lk (aE d).length:Nat):Int))/\cO c y.a.toNat b=Hq y/\True))
def QdB:∀y,QdA y=enV y:=λy=>by kernel_rfl
theorem Hr {α:Type} {i b:List α} {d:α} (h:i.length<=a):(i++b).getD a d=b.getD (a-i.length) d:=by
 grind
def Kq (o:List Int) (a:Nat):kB o a []=o:=by simp[kB]
theorem Kr (h:a+s.length<=o.length):(kB o a s).length=o.length:=by
 grind [kB]
theorem Ks {b:Nat} {t:List Int} (h:a+s.length<=o.length) (d:b=a+s.length):kB (kB o a s) b t=kB o a (s++t):=by
 subst d;unfold kB;have c:(o.take a++s++o.drop (a+s.length)).take (a+s.length)=o.take a++s:=ZdF (by grind);have e2:(o.take a++s++o.drop (a+s.length)).drop (a+s.length+t.length)=o.drop (a+s.length+t.length):=by
  rw[<-ZbZ,List.drop_left' (by simp;omega),ZbZ]
 rw[c,e2,Zab,<-Za4];simp
theorem Kt (v:Int) (h:a<o.length):(kB o (a+1) s).set a v=kB o a (v::s):=by
 unfold kB;have b:o.take (a+1)=o.take a++[o[a]]:=by simp_all
 have e2:(o.take a).length=a:=by grind
 rw[b,ZaD,ZaD,ZbY _ _ ω,e2,Zb3];grind
theorem QdC {i:Nat} (h:a<=o.length) (hi:i<s.length):(kB o a s).getD (a+i) 0=s.getD i 0:=by
 grind [kB]
theorem qZ (t:ai):jO t=eO (bt t)::fT t.af:=by cases t;rw[jO,bt];rfl
def size_eq (t:ai):bt t=pf t.op t.mn t.mx t.af.length (aO t.af):=by cases t;rw[bt];rfl
theorem Hs (t:ai) (a:Nat):ql t a=((a+(aE t).length:Nat):Int)::kY t.af (a+1):=by
 rw[bU];cases t with
 | mk op r mn mx lz cap nk b=>rw[ql];simp[ai.af];omega
mutual
theorem Ej:∀t:ai,(jO t).length=(aE t).length
 | .mk op r mn mx lz cap nk ks=>by rw[jO,aE,Zae,Zae,kZ ks]
theorem kZ:∀l:List ai,(fT l).length=(aB l).length
 | []=>by simp[fT,aB]
 | t::l=>by rw[fT,aB,Zab,Zab,Ej t,kZ l]
end
mutual
theorem Ek:∀(t:ai) (a:Nat),(ql t a).length=(aE t).length
 | .mk op r mn mx lz cap nk ks,a=>by rw[ql,aE,Zae,Zae,ph ks]
theorem ph:∀(l:List ai) (a:Nat),(kY l a).length=(aB l).length
 | [],a=>by simp[kY,aB]
 | t::l,a=>by rw[kY,aB,Zab,Zab,Ek t,ph l]
end
variable {Z:ai} {l Y:List Nd} {a:Nat}
theorem sk (a b:List ai):fT (a++b)=fT a++fT b:=by
 induction a with
 | nil=>simp[fT]
 | cons x a c=>simp[fT,c]
theorem tp (a b:List ai):aO (a++b)=aO a+aO b:=by
 induction a with
 | nil=>simp[aO]
 | cons x a c=>simp[aO,c];omega
theorem xO:∀(l m:List ai) (a:Nat),kY (l++m) a=kY l a++kY m (a+(aB l).length)
 | [],m,a=>by rfl
 | t::l,m,a=>by
  rw[Za1,kY,xO l m,kY,aB,Zab,ZaD,Za4]
theorem Tv (h:kA Z) (r:List Nd):ct (aE Z++r)=(Z,r):=by
 grind [ct,aJ,tn]
theorem kk {r:List Nd} (h:kA Z) (e:l.drop a=aE Z++r):lk (ct (l.drop a)).1=Z:=by
 rw[aJ,e,Tv h]
theorem vG {x:Nat} (e:l.drop a=aE Z++Y) (d:x<Z.af.length):l.drop (a+1+(aB (Z.af.take x)).length)=aE (Z.af.getD x bD)++(aB (Z.af.drop (x+1))++Y):=by
 have c:Z.af=Z.af.take x++(Z.af.getD x bD::Z.af.drop (x+1)):=by
  simp_all
 have b:aB Z.af=aB (Z.af.take x)++(aE (Z.af.getD x bD)++aB (Z.af.drop (x+1))):=by
  grind [cD,aB]
 rw[show a+1+(aB (Z.af.take x)).length=a+(1+(aB (Z.af.take x)).length) by omega,<-ZbZ,e,bU,b,Za1,ZaD];grind
theorem pZ (e:l.drop a=aE Z++Y):a<l.length/\l.getD a (nd 0)=⟨Z.op,Z.r,Z.mn,Z.mx,Z.lz,Z.cap,Z.af.length⟩/\a+(aE Z).length<=l.length:=by
 grind [bU,List.length_append,List.drop_eq_getElem_cons]
theorem Ht (n:Nat):0<=eO n/\eO n<=401:=by grind [eO]
theorem k_ (a b:Int):ga a b=min a b:=by grind [ga]
theorem Y7 (s u:Nat):ga (aD .i64 (eO s) (eO u)) 401=eO (s+u):=by
 grind [k_,eO]
theorem Ku (s k:Nat) (hk:k<=1000):ga (aD .i64 (eO s) (k:Int)) 401=eO (s+k):=by
 grind [k_,eO]
theorem Tw {mn:Int} (s:Nat) (h0:0<=mn) (h1:mn<=30):ga (aD .i64 (aD .i64 (iY .i64 mn (eO s)) (eO s)) 2) 401=eO (mn.toNat*s+s+2):=by
 obtain⟨m,rfl⟩:=Zau h0;by_cases hs:s<=401
 ·have a:m*s<=30*401:=Zci ω hs;grind [k_,eO]
 ·grind [eO,k_]
theorem Y8 {mn mx:Int} (s:Nat) (h0:0<=mn) (h1:mn<=mx) (f:mx<=30):ga (aD .i64 (iY .i64 mn (eO s)) (iY .i64 (cQ .i64 mx mn) (aD .i64 (eO s) 1))) 401=eO (mn.toNat*s+(mx.toNat-mn.toNat)*(s+1)):=by
 obtain⟨m,rfl⟩:=Zau h0;have⟨d,i⟩:=Zau (show 0<=mx-m by omega);have c:mx=((m+d:Nat):Int):=ω;subst c;have e:=Ht s;rw[qJ ω ω,show((m+d:Nat):Int) -(m:Int)=(d:Int) by omega,Zad,Zad,ZcN,bG (a:=eO s) (b:=1) ω ω];by_cases hs:s<=401
 ·have g:m*s<=30*401:=Zci ω hs;have h:d*(s+1)<=30*402:=Zci ω ω;grind [k_,eO]
 ·have g1:m*402<=m*s:=Zci ω ω;have g2:d*403<=d*(s+1):=Zci ω ω;grind [k_,eO]
theorem M9.out {y:nr} (h:M9 y):∃(a:Nat) (r:List Nd),y.a=a/\kA y.t/\y.l.drop a=aE y.t++r/\y.o.length=y.l.length/\y.l.length<=480/\y.n=(aE y.t).length:=by
 have⟨h0,h1,b,t,r,c,d⟩:=h;grind [nr.t,kk,nr.n,aJ]
theorem szH (y:nr) (O:szC.pre y):Qdy y:=by
 have⟨a,r,B,hw,n,N,hl,V⟩:=M9.out O;have⟨l,o,T⟩:=y;simp only at B n N hl;subst B;have⟨Y,P,Z⟩:=pZ n;have s:=(iP _).mp hw;have eT:lk (ct (List.drop a l)).1=nr.t ⟨l,o,a⟩:=rfl;have E:∀k,Od ⟨l,o,a⟩ k=((a+1+(aB ((nr.t ⟨l,o,a⟩).af.take k)).length:Nat):Int):=λk=>by grind [Od,aJ]
 have G:∀k,Y5 ⟨l,o,a⟩ k=kB o (a+1) (fT ((nr.t ⟨l,o,a⟩).af.take k)):=λk=>by grind [Y5,aJ]
 have H:∀k,szM ⟨l,o,a⟩ k=eO (aO ((nr.t ⟨l,o,a⟩).af.take k)):=λk=>by unfold szM;rw[aJ]
 have I:Fa ⟨l,o,a⟩=kB o a (jO (nr.t ⟨l,o,a⟩)):=by grind [Fa,aJ]
 unfold Qdy;simp only[Zad,eT];rw[I];generalize nr.t ⟨l,o,a⟩=t at*
 have J:=bU t;have K:(aE t).length=(aB t.af).length+1:=by grind
 have p:gt (Nd.mk 0 [] 0 0 false 0 0) l a=⟨t.op,t.r,t.mn,t.mx,t.lz,t.cap,t.af.length⟩:=P;have C:∀k,(aB (t.af.take k)).length<=(aB t.af).length:=λk=>by
  grind [List.take_append_drop,cD]
 have M:t.af.length<=(aB t.af).length:=by
  have key:∀l:List ai,l.length<=(aB l).length:=λl=>by
   induction l with
   | nil=>simp
   | cons x l X=>simp only[aB,Zab,Zae];rw[bU];simp;omega
  exact key _
 have hlen:∀k,(kB o (a+1) (fT (t.af.take k))).length=o.length:=λk=>Kr (by grind [kZ])
 rw[p];simp only[E,G,H];simp only[bN,bh,aw,di,Zad,hlen,aJ];refine⟨ω,ω,⟨0,by grind [aB],by rfl,rfl,by simp[fT,Kq],Zaj _⟩,λx W=>⟨λe=>?_,λe=>?_⟩⟩
 ·have b:x<t.af.length:=ω;have hk:=vG n b;have u:kA (t.af.getD x bD):=by grind [pY]
  have ht:=cm bD b;have⟨m1,_,m3⟩:=pZ hk;have w:M9 ⟨l,kB o (a+1) (fT (t.af.take x)),((a+1+(aB (t.af.take x)).length:Nat):Int)⟩:=⟨by grind,by grind,hl,_,_,u,by assumption⟩;have q:(ct (List.drop (a+1+(aB (t.af.take x)).length) l)).1=t.af.getD x bD:=by grind [aJ,kk]
  have i:Fa ⟨l,kB o (a+1) (fT (t.af.take x)),((a+1+(aB (t.af.take x)).length:Nat):Int)⟩=kB o (a+1) (fT (t.af.take (x+1))):=by
   unfold Fa nr.t;grind [aJ,Ks,kZ,sk,fT]
  have F:(kB o (a+1) (fT (t.af.take (x+1)))).getD (a+1+(aB (t.af.take x)).length) 0=eO (bt (t.af.getD x bD)):=by
   rw[ht,sk,fT,fT,Zaw,<-kZ,QdC ω (by rw[qZ];simp),Hr ω,Zb3,qZ];rfl
  rw[i,F,q];refine⟨⟨w,iO b⟩,ω,ω,x+1,?_,?_,bL ω,rfl,ω,ω⟩
  ·grind [cD,aB]
  ·grind [tp,aO,Y7]
 ·have b:x=t.af.length:=ω;subst b;rw[ZaM];have c:((a+1+(aB t.af).length:Nat):Int)=(a:Int)+(((aE t).length:Nat):Int):=ω;have fin:∀v,v=eO (bt t)->cO (kB o (a+1) (fT t.af)) a v=kB o a (jO t):=λv D=>by
   show(kB o (a+1) (fT t.af)).set a v=_
   grind [Kt,qZ]
  have dd:=size_eq t;unfold pf at dd;have all:∀v,v=eO (bt t)->(0:Int)<=a/\(a:Int)<(o.length:Int)/\((a+1+(aB t.af).length:Nat):Int)=(a:Int)+(((aE t).length:Nat):Int)/\cO (kB o (a+1) (fT t.af)) a v=kB o a (jO t):=λv D=>⟨ω,ω,c,fin v D⟩
  have one:t.op=2\/t.op=7\/t.op=8->ga 1 401=eO (bt t):=λh=>by rw[dd,Zac h];decide
  have wf:=s.1;have rest:¬(t.op=2\/t.op=7\/t.op=8)->((t.op=4->(0:Int)<=a/\(a:Int)<(o.length:Int)/\((a+1+(aB t.af).length:Nat):Int)=(a:Int)+(((aE t).length:Nat):Int)/\cO (kB o (a+1) (fT t.af)) a (ga (aD .i64 (eO (aO t.af)) (iY .i64 2 (cQ .i64 (t.af.length:Int) 1))) 401)=kB o a (jO t))/\
    (t.op≠4->(t.op=6->(0:Int)<=a/\(a:Int)<(o.length:Int)/\((a+1+(aB t.af).length:Nat):Int)=(a:Int)+(((aE t).length:Nat):Int)/\cO (kB o (a+1) (fT t.af)) a (ga (aD .i64 (eO (aO t.af)) 2) 401)=kB o a (jO t))/\
    (t.op≠6->(t.op=5->(t.mx= -1->(0:Int)<=a/\(a:Int)<(o.length:Int)/\((a+1+(aB t.af).length:Nat):Int)=(a:Int)+(((aE t).length:Nat):Int)/\cO (kB o (a+1) (fT t.af)) a (ga (aD .i64 (aD .i64 (iY .i64 t.mn (eO (aO t.af))) (eO (aO t.af))) 2) 401)=kB o a (jO t))/\
     (t.mx≠-1->(0:Int)<=a/\(a:Int)<(o.length:Int)/\((a+1+(aB t.af).length:Nat):Int)=(a:Int)+(((aE t).length:Nat):Int)/\cO (kB o (a+1) (fT t.af)) a (ga (aD .i64 (iY .i64 t.mn (eO (aO t.af))) (iY .i64 (cQ .i64 t.mx t.mn) (aD .i64 (eO (aO t.af)) 1))) 401)=kB o a (jO t)))/\
    (t.op≠5->(0:Int)<=a/\(a:Int)<(o.length:Int)/\((a+1+(aB t.af).length:Nat):Int)=(a:Int)+(((aE t).length:Nat):Int)/\cO (kB o (a+1) (fT t.af)) a (ga (eO (aO t.af)) 401)=kB o a (jO t))))):=λh=>by
   rw[Zaa h] at dd;refine⟨λd=>all _ ?_,λd=>⟨λz=>all _ ?_,λz=>⟨λf=>⟨λQ=>all _ ?_,λQ=>all _ ?_⟩,λf=>all _ ?_⟩⟩⟩
   ·rw[Zac d] at dd;have L:1<=t.af.length:=by
     have⟨g,U⟩:=wf;grind [cj]
    rw[dd,zZ ω ω,BE ω ω];have:=Ku (aO t.af) (2*(t.af.length-1)) ω;assumption
   ·rw[Zaa d,Zac z] at dd;rw[dd];exact Ku _ 2 ω
   ·have⟨_,R,S,_⟩:=wf.rep f;grind [Tw]
   ·have⟨_,R,S,w4⟩:=wf.rep f;grind [Y8]
   ·rw[Zaa d,Zaa z,Zaa f] at dd;rw[dd,k_];have:=Ht (aO t.af);omega
  refine⟨λj=>⟨λ_=>all _ (one (.inl j)),λh=>absurd j h⟩,λj=>⟨λm=>⟨λ_=>all _ (one (.inr (.inl m))),λh=>absurd m h⟩,λm=>⟨λA=>all _ (one (.inr (.inr A))),λA=>rest ω⟩⟩⟩
def QpO:Ok szC:=Ql (λy=>dg y.t) Qdz trivial szH
theorem enH (y:nr) (z:enC.pre y):QdA y:=by
 have⟨a,r,j,hw,d,v,hl,D⟩:=M9.out z;have⟨l,o,B⟩:=y;simp only at j d v hl;subst j;have⟨G,A,H⟩:=pZ d;have w:=(iP _).mp hw;have eT:lk (ct (List.drop a l)).1=nr.t ⟨l,o,a⟩:=rfl;have n:∀k,Od ⟨l,o,a⟩ k=((a+1+(aB ((nr.t ⟨l,o,a⟩).af.take k)).length:Nat):Int):=λk=>by grind [Od,aJ]
 have p:∀k,Y6 ⟨l,o,a⟩ k=kB o (a+1) (kY ((nr.t ⟨l,o,a⟩).af.take k) (a+1)):=λk=>by grind [Y6,aJ]
 have C:Hq ⟨l,o,a⟩=kB o a (ql (nr.t ⟨l,o,a⟩) a):=by grind [Hq,aJ]
 unfold QdA;simp only[Zad,eT];generalize nr.t ⟨l,o,a⟩=t at*
 have q:=bU t;have s:(aE t).length=(aB t.af).length+1:=by grind
 have f:gt (Nd.mk 0 [] 0 0 false 0 0) l a=⟨t.op,t.r,t.mn,t.mx,t.lz,t.cap,t.af.length⟩:=A;have m:∀k,(aB (t.af.take k)).length<=(aB t.af).length:=λk=>by
  grind [List.take_append_drop,cD]
 have u:t.af.length<=(aB t.af).length:=by
  have key:∀l:List ai,l.length<=(aB l).length:=λl=>by
   induction l with
   | nil=>simp
   | cons x l F=>simp only[aB,Zab,Zae];rw[bU];simp;omega
  exact key _
 have hlen:∀k,(kB o (a+1) (kY (t.af.take k) (a+1))).length=o.length:=λk=>Kr (by grind [ph])
 rw[f];simp only[n,p];simp only[bN,bh,aw,di,Zad,hlen,aJ];refine⟨ω,ω,⟨0,by grind [aB],rfl,by simp[kY,Kq],Zaj _⟩,λx E=>⟨λe=>?_,λe=>?_⟩⟩
 ·have b:x<t.af.length:=ω;have hk:=vG d b;have h:kA (t.af.getD x bD):=by grind [pY]
  have ht:=cm bD b;have i:M9 ⟨l,kB o (a+1) (kY (t.af.take x) (a+1)),((a+1+(aB (t.af.take x)).length:Nat):Int)⟩:=⟨by grind,by grind,hl,_,_,h,by assumption⟩;have g:(ct (List.drop (a+1+(aB (t.af.take x)).length) l)).1=t.af.getD x bD:=by grind [aJ,kk]
  have c:Hq ⟨l,kB o (a+1) (kY (t.af.take x) (a+1)),((a+1+(aB (t.af.take x)).length:Nat):Int)⟩=kB o (a+1) (kY (t.af.take (x+1)) (a+1)):=by
   unfold Hq nr.t;grind [aJ,Ks,ph,xO,kY]
  rw[c,g];refine⟨⟨i,iO b⟩,x+1,?_,bL ω,rfl,ω,ω⟩;grind [cD,aB]
 ·have b:x=t.af.length:=ω;subst b;rw[ZaM];refine⟨ω,ω,ω,?_⟩;show(kB o (a+1) _).set a _=_
  grind [Kt,Hs]
def QpP:Ok enC:=Ql (λy=>dg y.t) QdB trivial enH
def in0:aV:=⟨0,0,0,[]⟩
def ie (f:Nat->List aV) (sz:Nat):Nat->Nat->List aV
 | 0,_=>[]
 | n+1,b=>f b++ie f sz n (b+sz)
def fo (g:Nat->aV) (f:Nat->List aV) (sz:Nat):Nat->Nat->List aV
 | 0,_=>[]
 | n+1,b=>g b::(f (b+1)++fo g f sz n (b+1+sz))
def gY (lz:Bool) (b out:Nat):aV:=if lz=true then⟨2,out,(b+1:Nat),[]⟩ else⟨2,(b+1:Nat),out,[]⟩
def la (mn mx:Int):Nat:=mx.toNat-mn.toNat
def Hu (f:Nat->List aV) (sz:Nat) (mn mx:Int) (lz:Bool) (b:Nat):List aV:=
 ie f sz mn.toNat b++(if mx= -1 then gY lz (b+mn.toNat*sz) (b+mn.toNat*sz+sz+2)::(f (b+mn.toNat*sz+1)++[⟨3,(b+mn.toNat*sz:Nat),0,[]⟩])
  else fo (λi=>gY lz i (b+mn.toNat*sz+la mn mx*(sz+1))) f sz (la mn mx) (b+mn.toNat*sz))
mutual
def bT:ai->Nat->List aV
 | .mk op r mn mx lz cap _ ks,b=>
  if op=2 then[⟨1,0,0,r⟩] else if op=7 then[⟨5,0,0,[]⟩] else if op=8 then[⟨6,0,0,[]⟩]
  else if op=3 then bu ks b
  else if op=4 then km ks b (b+aO ks+2*(ks.length-1))
  else if op=5 then Hu (λb=>bu ks b) (aO ks) mn mx lz b
  else if op=6 then⟨4,2*cap,0,[]⟩::(bu ks (b+1)++[⟨4,2*cap+1,0,[]⟩])
  else[]
def bu:List ai->Nat->List aV
 | [],_=>[]
 | t::l,b=>bT t b++bu l (b+bt t)
def km:List ai->Nat->Nat->List aV
 | [],_,_=>[]
 | t::l,b,e=>if l.isEmpty=true then bT t b else⟨2,(b+1:Nat),(b+2+bt t:Nat),[]⟩::(bT t (b+1)++⟨3,e,0,[]⟩::km l (b+2+bt t) e)
end
def fI:List ai->Nat->Nat->List aV
 | [],_,_=>[]
 | t::l,b,e=>⟨2,(b+1:Nat),(b+2+bt t:Nat),[]⟩::(bT t (b+1)++⟨3,e,0,[]⟩::fI l (b+2+bt t) e)
def jW:List ai->Nat->List Int
 | [],_=>[]
 | t::l,b=>(b+1+bt t:Nat)::jW l (b+2+bt t)
def jP (sz:Nat):Nat->Nat->List Int
 | 0,_=>[]
 | n+1,b=>(b:Int)::jP sz n (b+1+sz)
def lb (e:Int) (l:List aV) (j:Int):List aV:=l.set j.toNat ⟨(l.getD j.toNat in0).op,e,(l.getD j.toNat in0).y,(l.getD j.toNat in0).bm⟩
def fw (e:Int) (lz:Bool) (l:List aV) (j:Int):List aV:=l.set j.toNat ⟨(l.getD j.toNat in0).op,if lz=true then e else j+1,if lz=true then j+1 else e,(l.getD j.toNat in0).bm⟩
structure ep where
 ae:List aV
 bx:List Nd
 cB:List Int
 aS:List Int
abbrev uJ:=ep×Int
variable {Z:Nat} {Y:Nat->List aV} {x:Nd} {g:Nat->aV}
def Kv (n:Nat) (y:ep) (ae:List aV):List (Nat×AO D.E):=[(0,.cells [.own n 4 (ah ae),.list 7 y.bx,.list 5 y.cB,.list 5 y.aS] 197 false),(n,.arr 8 ae 203 false)]
def QdE (v:AV D.E) (s:St D.E):C ep:=match v with
 | .ptr b _=>aA (cN (s.h.get b)) λo=>match o with
  | .cells cs _ _=>match cs with
   | [c,l,x,e]=>aA (aW D s 8 c) λc=>aA (aW D s 7 l) λl=>aA (aW D s 5 x) λx=>aA (aW D s 5 e) λe=>.ret ⟨c,l,x,e⟩
   | _=>.fail
  | _=>.fail
 | _=>.fail
def Qa3 (v:AV D.E):C aV:=aA (asAgg v) λcs=>uw D 8 cs
def uK:bk D:=⟨119,ep×aV,λa s=>match a with
 | [p,i]=>aA (QdE p s) λy=>aA (Qa3 i) λi=>.ret (y,i)
 | _=>.fail,λy=>y.1.ae.length<=1000,λy=>[.ptr 0 0,.agg (D.ba 8 y.2)],λy=>Kv 1 y.1 y.1.ae,λy=>QtJ y.1.ae.length,λy=>Kv 2 y.1 (y.1.ae++[y.2]),2,3⟩
def QpQ (_:uK.Y):cU D:=⟨[],[],[],[],1,[]⟩
def Em:bk D:=⟨215,ep×Int×Int×Bool,λa s=>match a with
 | [p,i,o,b]=>aA (QdE p s) λy=>aQ (da i) λ_ i=>aQ (da o) λ_ o=>aQ (AZ b) λb _=>.ret (y,i,o,b)
 | _=>.fail,λy=>y.1.ae.length<=1000/\0<=y.2.1/\y.2.1<y.1.ae.length,λy=>[.ptr 0 0,QtJ y.2.1,QtJ y.2.2.1,.bool y.2.2.2],λy=>Kv 1 y.1 y.1.ae,λ_=>.tuple [],λy=>Kv 1 y.1 (fw y.2.2.1 y.2.2.2 y.1.ae y.2.1),2,2⟩
def ep.t (y:uJ):ai:=lk (ct (y.1.bx.drop y.2.toNat)).1
def lf (y:uJ):Prop:=0<=y.2/\y.1.bx.length<=480/\(∀x∈y.1.bx,iN x)/\∃t,kA t/\y.1.ae.length+bt t<=400/\(∃r,y.1.bx.drop y.2.toNat=aE t++r)/\(∃r,y.1.cB.drop y.2.toNat=jO t++r)/\∃r,y.1.aS.drop y.2.toNat=ql t y.2.toNat++r
def QpT (a:List (AV D.E)) (s:St D.E):C uJ:=match a with
 | [p,i]=>aA (QdE p s) λy=>aQ (da i) λ_ i=>.ret (y,i)
 | _=>.fail
def ig (y:uJ):List aV:=lk (y.1.ae++bT (ep.t y) y.1.ae.length)
def QdF (f:FuncId) (pre:uJ->Prop):bk D:=⟨f,uJ,QpT,pre,λy=>[.ptr 0 0,QtJ y.2],λy=>Kv 1 y.1 y.1.ae,λ_=>.tuple [],λy=>Kv 2 y.1 (ig y),2,3⟩
def Hv:bk D:=QdF 120 lf
def QdG (y:uJ):Prop:=lf y/\(ep.t y).op=4
def QdH (y:uJ):Prop:=lf y/\(ep.t y).op=5
def M_:bk D:=QdF 177 QdG
def Na:bk D:=QdF 178 QdH
def fnM (y:uJ) (n:Nat):s6:=[Hv.under (λy=>2*dg (ep.t y)+1) n,M_.under (λy=>2*dg (ep.t y)) n,Na.under (λy=>2*dg (ep.t y)) n]
def uL (y:uJ) (k:Nat):Int:=lk (y.2+1+(aB ((ep.t y).af.take k)).length)
def En (y:uJ) (k:Nat):List aV:=lk (y.1.ae++bu ((ep.t y).af.take k) y.1.ae.length)
def Qh1 (y:Hv.Y):cU D:=⟨[],[],[(30710,⟨Nat,[0,38],λk=>[(4,.ptr 2 0),(5,QtJ (uL y k)),(39,QtJ k)],[2],λk=>Kv 3 y.1 (En y k),4,λk=>k<=(ep.t y).af.length,λk=>(ep.t y).af.length-k⟩)],[],1,[]⟩
def QpV (y:Hv.Y):Prop:=vc (fnM y (2*dg (ep.t y)+1)++[uK]) f120 Hv Qh1 y
def Eo (y:uJ) (k:Nat):List aV:=lk (y.1.ae++fI ((ep.t y).af.take k) y.1.ae.length 0)
def Ep (y:uJ) (k:Nat):List Int:=lk (jW ((ep.t y).af.take k) y.1.ae.length)
def BY (y:uJ):List aV:=lk (y.1.ae++km (ep.t y).af y.1.ae.length 0)
def BZ (y:uJ):List Int:=lk (jW (ep.t y).af.dropLast y.1.ae.length)
def Er (y:uJ) (j:Nat):List aV:=lk (((BZ y).take j).foldl (lb (ig y).length) (BY y))
def uM (n:Nat):Nat×AO D.E:=(n,.tok 5 3)
def Qh2 (y:M_.Y):cU D:=⟨[],[],[
 (58,⟨Nat,[0,1,19],λk=>[(4,.grow 5 (Ep y k) 3),(5,QtJ (uL y k)),(20,QtJ k)],[],λk=>Kv 2 y.1 (Eo y k)++[uM 3],4,λk=>k+1<=(ep.t y).af.length,λk=>(ep.t y).af.length-k⟩),
 (62,⟨Nat,[0,66],λj=>[(65,.grow 5 (BZ y) 3),(67,QtJ j)],[],λj=>Kv 2 y.1 (Er y j)++[uM 3],4,λj=>j<=(BZ y).length,λj=>(BZ y).length-j⟩)],
 [(7,⟨Unit,[0],λ_=>[(4,.grow 5 (BZ y) 3)],[],λ_=>Kv 2 y.1 (BY y)++[uM 3],4,λ_=>True,λ_=>0⟩)],1,[]⟩
def QpW (y:M_.Y):Prop:=vc (fnM y (2*dg (ep.t y))++[uK,Em]) f177 M_ Qh2 y
def ndO (n:Nat) (x:ai):Nat×AO D.E:=(n,.cells [.int .i64 x.op,.list 6 x.r,.int .i64 x.mn,.int .i64 x.mx,.bool x.lz,.int .i64 x.cap,.int .i64 x.nk] 206 false)
def sm (y:uJ) (k:Nat):List aV:=lk (y.1.ae++ie (bu (ep.t y).af) (aO (ep.t y).af) k y.1.ae.length)
def Nb (y:uJ):Nat:=lk (sm y (ep.t y).mn.toNat).length
def yN (y:uJ) (k:Nat):List aV:=lk (sm y (ep.t y).mn.toNat++fo (λ_=>⟨2,0,0,[]⟩) (bu (ep.t y).af) (aO (ep.t y).af) k (Nb y))
def uN (y:uJ) (k:Nat):List Int:=lk (jP (aO (ep.t y).af) k (Nb y))
def lG (y:uJ):Nat:=lk (la (ep.t y).mn (ep.t y).mx)
def Es (y:uJ) (j:Nat):List aV:=lk (((uN y (lG y)).take j).foldl (fw (ig y).length (ep.t y).lz) (yN y (lG y)))
def Qh3 (y:Na.Y):cU D:=⟨[],[],[
 (106,⟨Nat,[0,5,28],λk=>[(4,.ptr 2 0),(29,QtJ k)],[],λk=>Kv 3 y.1 (sm y k)++[ndO 2 (ep.t y)],4,λk=>k<=(ep.t y).mn.toNat,λk=>(ep.t y).mn.toNat-k⟩),
 (250,⟨Nat,[0,5,62],λk=>[(4,.ptr 2 0),(7,.grow 5 (uN y k) 4),(63,QtJ k)],[],λk=>Kv 3 y.1 (yN y k)++[ndO 2 (ep.t y),uM 4],5,λk=>k<=lG y,λk=>lG y-k⟩),
 (254,⟨Nat,[0,76],λj=>[(4,.ptr 2 0),(75,.grow 5 (uN y (lG y)) 4),(77,QtJ j)],[],λj=>Kv 3 y.1 (Es y j)++[ndO 2 (ep.t y),uM 4],5,λj=>j<=lG y,λj=>lG y-j⟩)],
 [(3,⟨Unit,[0,5],λ_=>[(4,.ptr 2 0)],[],λ_=>Kv 3 y.1 (sm y (ep.t y).mn.toNat)++[ndO 2 (ep.t y)],4,λ_=>True,λ_=>0⟩)],1,[]⟩
def QpX (y:Na.Y):Prop:=vc (fnM y (2*dg (ep.t y))++[uK,Em]) f178 Na Qh3 y
abbrev RAU {T0 T1 T2 T3 T4:Type} (a:T0) (b:T1) (c:T2) (d:T3) (e:T4) (p:Prop):Prop:=aa [a] (aa [b] (aa [c] (aa [d] (aa [e] p))))
def Tx (y:ep×aV):Prop:=let a:=([y.2]:List aV);let q1:=ah (bM y.1.ae a);bF q1 48=true/\RAU (ah y.1.ae) y.2.op y.2.x y.2.y y.2.bm (cQ .i64 q1 1=(y.1.ae.length:Int)/\q1=ah (y.1.ae++a)/\aa [y.1.bx] (aa [y.1.cB,y.1.aS] (bM y.1.ae a=(y.1.ae++a)/\True)))
abbrev RA5 (v:ep) (p:Prop):Prop:=aa [v.bx] (aa [v.cB] (aa [v.aS] p))
def Ty (y:ep×Int×Int×Bool):Prop:=let a:=ah y.1.ae;let q1:=y.2.1.toNat;let i:=aD .i64 y.2.1 1;let e:=gt (aV.mk 0 0 0 []) y.1.ae q1;let d:=fw y.2.2.1 y.2.2.2 y.1.ae y.2.1;let j:=cO y.1.ae q1 (aV.mk e.op i e.y e.bm);let f:=gt (aV.mk 0 0 0 []) j q1;let g:=cO j q1 (aV.mk f.op f.x y.2.2.1 f.bm);let h:=gt (aV.mk 0 0 0 []) g q1;let k:=cO g q1 (aV.mk h.op y.2.2.1 h.y h.bm);let b:=gt (aV.mk 0 0 0 []) k q1;let c:=λp:Prop=>RA5 y.1 p;aI 0 y.2.1=true/\az y.2.1 a=true/\aI 0 y.2.1=true/\az y.2.1 a=true/\RAQ a a (ak y.2.2.2 (aI 0 y.2.1=true/\az y.2.1 a=true/\aI 0 y.2.1=true/\az y.2.1 a=true/\aa [a,a] (a=ah d/\c (cO k q1 (aV.mk b.op b.x i b.bm)=d/\True))) (a=ah d/\c (g=d/\True)))
def Tz (y:ep×Int):Prop:=let f:=ig y;let q1:=ah f;let h:=ah y.1.ae;let o:=aD .i64 y.2 1;let q:=(y.1,y.2);let i:=lk (ct (List.drop y.2.toNat y.1.bx)).1;let a:=gt (Nd.mk 0 [] 0 0 false 0 0) y.1.bx y.2.toNat;let l:=i.af.length;let m:=iY .i64 2 a.cap;let u:=aD .i64 m 1;let B:=y.1.ae++[aV.mk 4 m 0 []];let s:=ah B;let j:=(ep.mk B y.1.bx y.1.cB y.1.aS,o);let d:=ig j;let b:=λp:Prop=>RA5 y.1 p;let n:=λp:Prop=>RA7 a p;let k:Prop:=(RAQ y.2 h (RA5 y.1 (RAP y.1.ae (ah (ig q)=q1/\b (ig q=f/\True)))));let A:=y.1.ae++[aV.mk 1 0 0 a.r];let F:=y.1.ae++[aV.mk 5 0 0 []];let G:=y.1.ae++[aV.mk 6 0 0 []];aI 0 y.2/\az y.2 (ah y.1.bx)/\ak (aC a.op 2) (bF (ah a.r) 8/\Iv (y.1.ae.length<=1000)/\aa ([1,0,0]:List Int) (RAQ a.r h (RA5 y.1 (RAP y.1.ae (ah A=q1/\b (A=f/\True)))))) (ak (aC a.op 7) (Iv (y.1.ae.length<=1000)/\aa ([5,0,0]:List Int) (RAF (RAP h (RA5 y.1 (RAP y.1.ae (ah F=q1/\b (F=f/\True))))))) (ak (aC a.op 8) (Iv (y.1.ae.length<=1000)/\aa ([6,0,0]:List Int) (RAF (RAP h (RA5 y.1 (RAP y.1.ae (ah G=q1/\b (G=f/\True))))))) (ak (aC a.op 3) ((∃z:Nat,RAP a.af (o=uL y z/\0=(z:Int)/\n (h=ah (En y z)/\b (y.1.ae=En y z/\(Iv (z<=l))))))/\(∀x:Nat,let c:=uL y x;let e:=En y x;let g:=(ep.mk e y.1.bx y.1.cB y.1.aS,c);let t:=az (x:Int) a.af;(Iv (x<=l))->ak t (Iv (lf g/\((2*dg (lk (ct (List.drop c.toNat y.1.bx)).1))+1)<((2*dg i)+1))/\aa [c,ah e] (RA5 y.1 (RAP e (aI 0 c/\az c (ah y.1.aS)/\∃z:Nat,aa [a.af] (gt 0 y.1.aS c.toNat=uL y z/\aD .i64 (x:Int) 1=(z:Int)/\n (ah (ig g)=ah (En y z)/\b (ig g=En y z/\(Iv (z<=l/\(l-z)<(l-x)))))))))) (ah e=q1/\b (e=f/\True)))) (ak (aC a.op 4) (Iv (QdG q/\(2*dg i)<((2*dg i)+1))/\k) (ak (aC a.op 5) (Iv (QdH q/\(2*dg i)<((2*dg i)+1))/\k) (ak (aC a.op 6) (Iv (y.1.ae.length<=1000)/\aa ([4,m,0]:List Int) (RAF (RAP h (RA5 y.1 (RAP y.1.ae (Iv (lf j/\((2*dg (lk (ct (List.drop o.toNat y.1.bx)).1))+1)<((2*dg i)+1))/\aa [o,s] (aa [y.1.bx] (aa [y.1.cB,y.1.aS] (aa [y.1.ae++[aV.mk 4 m 0 []]] (Iv (d.length<=1000)/\aa ([4,u,0]:List Int) (aa ([[]]:List (List (Int×Int))) (aa [ah d] (aa [y.1.bx] (aa [y.1.cB,y.1.aS] (aa [d] (ah (d++[aV.mk 4 u 0 []])=q1/\b ((d++[aV.mk 4 u 0 []])=f/\True))))))))))))))))) (h=q1/\b (y.1.ae=f/\True))))))))
def Y_:∀y,Tz y=QpV y:=λy=>by kernel_rfl
def TB (y:ep×Int):Prop:=let d:=BZ y;let q1:=ah (BY y);let A:=lk (ct (List.drop y.2.toNat y.1.bx)).1;let s:=A.af.length;let F:=gt (Nd.mk 0 [] 0 0 false 0 0) y.1.bx y.2.toNat;let C:=λp:Prop=>RAQ y.2 F.af p;let k:=λp:Prop=>RA5 y.1 p;(aI 0 y.2/\az y.2 (ah y.1.bx)/\(∃z:Nat,C ([]=Ep y z/\aD .i64 y.2 1=uL y z/\0=(z:Int)/\ah y.1.ae=ah (Eo y z)/\k (y.1.ae=Eo y z/\(Iv ((z+1)<=s)))))/\(∀x:Nat,let h:=uL y x;let c:=Eo y x;let t:=(c.length:Int);let B:=(ep.mk c y.1.bx y.1.cB y.1.aS,h);let u:=ah (c++[aV.mk 2 0 0 []]);let v:=az (x:Int) F.af;let w:=aC (x:Int) (cQ .i64 F.af 1);let m:=(ep.mk (c++[aV.mk 2 0 0 []]) y.1.bx y.1.cB y.1.aS,h);let a:=ig m;let n:=bM (Ep y x) [(a.length:Int)];let i:=ah (a++[aV.mk 3 0 0 []]);let o:=(a++[aV.mk 3 0 0 []]).length;let q:=fw i false (a++[aV.mk 3 0 0 []]) t;(Iv ((x+1)<=s))->ak v (aI 0 y.2/\az y.2 (ah y.1.bx)/\ak w (Iv (lf B/\((2*dg (lk (ct (List.drop h.toNat y.1.bx)).1))+1)<(2*dg A))/\aa [h,ah c] (RA5 y.1 (RAP c (∃z:Unit,Ep y x=d/\ah (ig B)=q1/\k (ig B=BY y/\(Iv True)))))) (Iv (c.length<=1000)/\aa ([2,0,0]:List Int) (RAF (aa [ah c] (RA5 y.1 (RAP c (Iv (lf m/\((2*dg (lk (ct (List.drop h.toNat y.1.bx)).1))+1)<(2*dg A))/\aa [h,u] (aa [y.1.bx] (aa [y.1.cB,y.1.aS] (aa [c++[aV.mk 2 0 0 []]] (Iv (a.length<=1000)/\aa ([3,0,0]:List Int) (aa ([[]]:List (List (Int×Int))) (aa [ah a] (aa [y.1.bx] (aa [y.1.cB,y.1.aS] (aa [a] (bF (ah n) 8/\Iv (o<=1000/\0<=t/\t<(o:Int))/\aa [t,i] (false=false/\aa [i] (aa [y.1.bx] (aa [y.1.cB,y.1.aS] (aa [a++[aV.mk 3 0 0 []]] (aI 0 h/\az h (ah y.1.aS)/\∃z:Nat,C (n=Ep y z/\gt 0 y.1.aS h.toNat=uL y z/\aD .i64 (x:Int) 1=(z:Int)/\ah q=ah (Eo y z)/\k (q=Eo y z/\(Iv ((z+1)<=s/\(s-z)<(s-x))))))))))))))))))))))))))) (∃z:Unit,Ep y x=d/\ah c=q1/\k (c=BY y/\(Iv True)))))/\(∀x:Unit,(Iv True)->(∃z:Nat,RAQ (ah d) d (0=(z:Int)/\q1=ah (Er y z)/\k (BY y=Er y z/\(Iv (z<=d.length)))))/\(∀l:Nat,let e:=Er y l;let f:=d.length;let b:=ah e;let r:=az (l:Int) (ah d);let g:=gt 0 d (l:Int).toNat;let j:=gt (aV.mk 0 0 0 []) e g.toNat;(Iv (l<=f))->ak r (aI 0 (l:Int)/\r/\aI 0 g/\az g b/\RAQ b b (∃z:Nat,aa [ah d] (aa [d] (aD .i64 (l:Int) 1=(z:Int)/\b=ah (Er y z)/\k (cO e g.toNat (aV.mk j.op b j.y j.bm)=Er y z/\(Iv (z<=f/\(f-z)<(f-l)))))))) (b=ah (ig y)/\k (e=ig y/\True))))
def Za:∀y,TB y=QpW y:=λy=>by kernel_rfl
abbrev RAX {T0 T1 T2 T3 T4 T5 T6 T7:Type} (a:T0) (b:T1) (c:T2) (d:T3) (e:T4) (f:T5) (g:T6) (h:T7) (p:Prop):Prop:=aa [a] (aa [b] (aa [c] (aa [d] (aa [e] (aa [f] (aa [g] (aa [h] p)))))))
def TC (y:ep×Int):Prop:=let E:=uN y (lG y);let q1:=aD .i64 y.2 1;let a:=lk (ct (List.drop y.2.toNat y.1.bx)).1;let K:=az 0 (gt 0 y.1.cB q1.toNat);let d:=gt (Nd.mk 0 [] 0 0 false 0 0) y.1.bx y.2.toNat;let v:=a.mn.toNat;let j:=sm y v;let F:=ah j;let m:=(j.length:Int);let L:=ah (j++[aV.mk 2 0 0 []]);let q:=cQ .i64 a.mx a.mn;let w:=(ep.mk (j++[aV.mk 2 0 0 []]) y.1.bx y.1.cB y.1.aS,q1);let e:=ig w;let k:=ah (e++[aV.mk 3 m 0 []]);let A:=(e++[aV.mk 3 m 0 []]).length;let B:=fw k a.lz (e++[aV.mk 3 m 0 []]) m;let b:=λp:Prop=>RA5 y.1 p;let i:=λp:Prop=>RAW a.op a.r a.mn a.mx a.lz a.cap a.nk p;let N:=((2*dg (lk (ct (List.drop q1.toNat y.1.bx)).1))+1)<(2*dg a);aI 0 y.2=true/\az y.2 (ah y.1.bx)=true/\(aI 0 q1=true/\az q1 (ah y.1.cB)=true/\ak K ((∃z:Nat,RAQ q1 d.mn (0=(z:Int)/\d.op=a.op/\d.r=a.r/\d.mn=a.mn/\d.mx=a.mx/\d.lz=a.lz/\d.cap=a.cap/\d.af=a.nk/\ah y.1.ae=ah (sm y z)/\b (y.1.ae=sm y z/\(Iv (z<=v)))))/\(∀x:Nat,let g:=sm y x;let s:=(ep.mk g y.1.bx y.1.cB y.1.aS,q1);let G:=az (x:Int) d.mn;(Iv (x<=v))->ak G (Iv (lf s/\N)/\aa [q1,ah g] (RA5 y.1 (RAP g (∃z:Nat,aa [q1,d.mn] (aD .i64 (x:Int) 1=(z:Int)/\i (ah (ig s)=ah (sm y z)/\b (ig s=sm y z/\(Iv (z<=v/\(v-z)<(v-x)))))))))) (∃z:Unit,RAX q1 a.op a.r a.mn a.mx a.lz a.cap a.nk (ah g=F/\b (g=j/\(Iv True)))))) (∃z:Unit,RAP q1 (d.op=a.op/\d.r=a.r/\d.mn=a.mn/\d.mx=a.mx/\d.lz=a.lz/\d.cap=a.cap/\d.af=a.nk/\ah y.1.ae=F/\b (y.1.ae=j/\(Iv True)))))/\(∀x:Unit,(Iv True)->ak (aC a.mx (-1)) (Iv (j.length<=1000)/\aa ([2,0,0]:List Int) (RAF (RAP F (RA5 y.1 (RAP j (Iv (lf w/\N)/\aa [q1,L] (aa [y.1.bx] (aa [y.1.cB,y.1.aS] (aa [j++[aV.mk 2 0 0 []]] (Iv (e.length<=1000)/\aa ([3,m,0]:List Int) (aa ([[]]:List (List (Int×Int))) (aa [ah e] (aa [y.1.bx] (aa [y.1.cB,y.1.aS] (aa [e] (Iv (A<=1000/\0<=m/\m<(A:Int))/\aa [m,k] (aa [a.lz] (aa [k] (aa [y.1.bx] (aa [y.1.cB,y.1.aS] (aa [e++[aV.mk 3 m 0 []]] (aa [k] (aa [a.lz] (ah B=ah (ig y)/\b (B=ig y/\True))))))))))))))))))))))))) ((∃z:Nat,RAQ q1 q ([]=uN y z/\0=(z:Int)/\i (F=ah (yN y z)/\b (j=yN y z/\(Iv (z<=lG y))))))/\(∀n:Nat,let c:=yN y n;let t:=ah (uN y n);let C:=bM (uN y n) [(c.length:Int)];let H:=ah (c++[aV.mk 2 0 0 []]);let u:=(ep.mk (c++[aV.mk 2 0 0 []]) y.1.bx y.1.cB y.1.aS,q1);let I:=az (n:Int) q;(Iv (n<=lG y))->ak I (Iv (c.length<=1000)/\aa ([2,0,0]:List Int) (RAF (aa [ah c] (RA5 y.1 (RAP c (bF (ah C) 8=true/\Iv (lf u/\N)/\aa [q1,H] (aa [y.1.bx] (aa [y.1.cB,y.1.aS] (aa [c++[aV.mk 2 0 0 []]] (∃z:Nat,aa [q1,q] (C=uN y z/\aD .i64 (n:Int) 1=(z:Int)/\i (ah (ig u)=ah (yN y z)/\b (ig u=yN y z/\(Iv (z<=lG y/\(lG y-z)<(lG y-n)))))))))))))))) ((∃z:Nat,RAP t (uN y n=E/\0=(z:Int)/\i (ah c=ah (Es y z)/\b (c=Es y z/\(Iv (z<=lG y))))))/\(∀o:Nat,let f:=Es y o;let h:=ah f;let J:=az (o:Int) t;let l:=gt 0 E (o:Int).toNat;let D:=fw h a.lz f l;(Iv (o<=lG y))->ak J (aI 0 (o:Int)=true/\az (o:Int) (ah E)=true/\Iv (f.length<=1000/\0<=l/\l<(f.length:Int))/\RAS l h a.lz h (RA5 y.1 (RAR f h a.lz (∃z:Nat,aa [t] (aa [E] (aD .i64 (o:Int) 1=(z:Int)/\i (ah D=ah (Es y z)/\b (D=Es y z/\(Iv (z<=lG y/\(lG y-z)<(lG y-o))))))))))) (h=ah (ig y)/\b (f=ig y/\True)))))))
def Zb:∀y,TC y=QpX y:=λy=>by kernel_rfl
def lg (t:ai) (b:Nat):bT t b=if t.op=2 then[⟨1,0,0,t.r⟩] else if t.op=7 then[⟨5,0,0,[]⟩] else if t.op=8 then[⟨6,0,0,[]⟩]
  else if t.op=3 then bu t.af b
  else if t.op=4 then km t.af b (b+aO t.af+2*(t.af.length-1))
  else if t.op=5 then Hu (λb=>bu t.af b) (aO t.af) t.mn t.mx t.lz b
  else if t.op=6 then⟨4,2*t.cap,0,[]⟩::(bu t.af (b+1)++[⟨4,2*t.cap+1,0,[]⟩])
  else[]:=by cases t;rw[bT];rfl
theorem pj (a:∀b,(Y b).length=Z):∀(n b:Nat),(ie Y Z n b).length=n*Z
 | 0,b=>by simp[ie]
 | n+1,b=>by rw[ie,Zab,a,pj a n,ZaV,Zc1]
theorem pk (a:∀b,(Y b).length=Z):∀(n b:Nat),(fo g Y Z n b).length=n*(Z+1)
 | 0,b=>by simp[fo]
 | n+1,b=>by rw[fo,Zae,Zab,a,pk a n,ZaV];omega
theorem Ao:∀(n b:Nat),ie Y Z (n+1) b=ie Y Z n b++Y (b+n*Z)
 | 0,b=>by simp[ie]
 | n+1,b=>by
  rw[ie,Ao n,ie,ZaD,ZaV];congr 3;omega
theorem Ap:∀(n b:Nat),fo g Y Z (n+1) b=fo g Y Z n b++(g (b+n*(Z+1))::Y (b+n*(Z+1)+1))
 | 0,b=>by simp[fo]
 | n+1,b=>by
  rw[fo,Ap n,fo,Za1,ZaD,ZaV,show b+1+Z+n*(Z+1)=b+(n*(Z+1)+(Z+1)) by omega]
theorem Aq:∀(n b:Nat),jP Z (n+1) b=jP Z n b++[((b+n*(Z+1):Nat):Int)]
 | 0,b=>by simp[jP]
 | n+1,b=>by
  rw[jP,Aq n,jP,Za1,ZaV,show b+1+Z+n*(Z+1)=b+(n*(Z+1)+(Z+1)) by omega]
theorem Et:∀(n b:Nat),(jP Z n b).length=n
 | 0,b=>rfl
 | n+1,b=>by rw[jP,Zae,Et n]
theorem M8.op (h:M8 x) (h1:x.op≠1):x.op=2\/x.op=7\/x.op=8\/x.op=3\/x.op=4\/x.op=5\/x.op=6:=by
 have⟨g,h⟩:=h;grind [cj]
theorem M8.none (h:M8 x) (h1:x.op=1):x.af=0:=by
 have⟨g,h⟩:=h;grind [cj]
theorem M8.ay (h:M8 x) (h1:x.op=4):2<=x.af:=by
 obtain⟨g,h⟩:=h;grind [cj]
theorem M8.uE (h:M8 x) (h1:x.op=6):x.af=1/\1<=x.cap/\x.cap<=4:=by
 have⟨g,h⟩:=h;grind [cj]
mutual
theorem iQ:∀(t:ai) (b:Nat),kA t->(bT t b).length=bt t
 | .mk op r mn mx lz cap nk ks,b,h=>by
  rw[kA] at h
  have hl:=λb=>nc ks b h.2.2
  have ha:=λb e=>lh ks b e h.2.2
  rw[bT,bt]
  unfold pf
  by_cases h1:op=1
  ·have h0:(ks.length:Int)=0:=h.1.none h1
   have:ks=[]:=Zap ω
   subst this
   subst h1
   simp[aO]
  ·by_cases h2:op=2
   ·simp[h2]
   ·by_cases h7:op=7
    ·simp[h7]
    ·by_cases h8:op=8
     ·simp[h8]
     ·by_cases h3:op=3
      ·simp[h3,hl]
      ·by_cases h4:op=4
       ·simp[h4,ha]
       ·by_cases h5:op=5
        ·simp only[h5]
         simp only[show ¬((5:Int)=2) by decide,show ¬((5:Int)=7) by decide,show ¬((5:Int)=8) by decide,show ¬((5:Int)=3) by decide,show ¬((5:Int)=4) by decide,show ¬((5:Int)=6) by decide,Za0,Zbv,or_self]
         unfold Hu
         rw[Zab,pj hl]
         split
         ·simp[hl];omega
         ·rw[pk hl];rfl
        ·have h6:op=6:=by
          have:=h.1.op h1
          simp only at this
          omega
         simp[h6,hl]
theorem nc:∀(l:List ai) (b:Nat),na l->(bu l b).length=aO l
 | [],b,_=>by simp[bu,aO]
 | t::l,b,h=>by
  rw[na] at h
  rw[bu,aO,Zab,iQ t b h.1,nc l _ h.2]
theorem lh:∀(l:List ai) (b e:Nat),na l->(km l b e).length=aO l+2*(l.length-1)
 | [],b,e,_=>by simp[km,aO]
 | t::l,b,e,h=>by
  rw[na] at h
  have h1:=λb=>iQ t b h.1
  have h2:=λb=>lh l b e h.2
  rw[km,aO]
  cases l with
  | nil=>simp[h1,aO]
  | cons u l=>
   simp only[List.isEmpty_cons,ZaE,Za0,Zae,Zab,h1,h2]
   omega
end
variable {b:Nat} {l:List ai} {p q:List aV}
theorem na.mem (h:na l) (a:b<l.length):kA (l.getD b bD):=by grind [pY]
theorem na.take (h:na l) (n:Nat):na (l.take n):=by grind [pY]
theorem Zc (h:na l) (b e:Nat):(fI l b e).length=aO l+2*l.length:=by
 induction l generalizing b with
 | nil=>simp[fI,aO]
 | cons t l a=>
  grind [na,fI,iQ,aO]
theorem Hw (l:List ai) (t:ai) (b:Nat):bu (l++[t]) b=bu l b++bT t (b+aO l):=by
 induction l generalizing b with
 | nil=>simp[bu,aO]
 | cons a l c=>rw[Za1,bu,c,bu,aO,ZaD,Za4]
theorem Nc (l:List ai) (t:ai) (b e:Nat):fI (l++[t]) b e=fI l b e++(⟨2,(b+(aO l+2*l.length)+1:Nat),(b+(aO l+2*l.length)+2+bt t:Nat),[]⟩::(bT t (b+(aO l+2*l.length)+1)++[⟨3,e,0,[]⟩])):=by
 induction l generalizing b with
 | nil=>simp[fI,aO]
 | cons a l c=>
  rw[Za1,fI,c,fI,aO,Zae,Za1,ZaD,Za1,show b+2+bt a+(aO l+2*l.length)=b+(bt a+aO l+2*(l.length+1)) by omega]
theorem Nf (l:List ai) (t:ai) (b:Nat):jW (l++[t]) b=jW l b++[((b+(aO l+2*l.length)+1+bt t:Nat):Int)]:=by
 induction l generalizing b with
 | nil=>simp[jW,aO]
 | cons a l c=>
  rw[Za1,jW,c,jW,aO,Zae,Za1,show b+2+bt a+(aO l+2*l.length)=b+(bt a+aO l+2*(l.length+1)) by omega]
theorem Eu (l:List ai) (b:Nat):(jW l b).length=l.length:=by
 induction l generalizing b with
 | nil=>rfl
 | cons a l c=>rw[jW,Zae,c,Zae]
theorem p_ (l:List ai) (t:ai) (b e:Nat):km (l++[t]) b e=fI l b e++bT t (b+(aO l+2*l.length)):=by
 induction l generalizing b with
 | nil=>simp[km,fI,aO]
 | cons a l c=>
  grind [km,fI,aO,List.length_cons]
theorem TD {x:aV} {e:Int} (a:p.length=b):lb e (p++x::q) (b:Int)=p++⟨x.op,e,x.y,x.bm⟩::q:=by
 grind [lb]
theorem sq {x:aV} {e:Int} {lz:Bool} (a:p.length=b):fw e lz (p++x::q) (b:Int)=p++⟨x.op,if lz=true then e else(b:Int)+1,if lz=true then(b:Int)+1 else e,x.bm⟩::q:=by
 grind [fw]
theorem iR (e:Int) (l:List aV) (j:Int):(lb e l j).length=l.length:=by grind [lb]
theorem ee (e:Int) (lz:Bool) (l:List aV) (j:Int):(fw e lz l j).length=l.length:=by grind [fw]
theorem As (e:Int):∀(a:List Int) (l:List aV),(a.foldl (lb e) l).length=l.length
 | [],l=>rfl
 | j::a,l=>by rw[Zb2,As e a,iR]
theorem Au (e:Int) (lz:Bool):∀(a:List Int) (l:List aV),(a.foldl (fw e lz) l).length=l.length
 | [],l=>rfl
 | j::a,l=>by rw[Zb2,Au e lz a,ee]
theorem B0 {e:Nat}:∀(l:List ai) (p q:List aV) (b:Nat),na l->p.length=b->(jW l b).foldl (lb e) (p++(fI l b 0++q))=p++(fI l b e++q)
 | [],p,q,b,_,_=>by rfl
 | t::l,p,q,b,h,hb=>by
  have h1:=iQ t (b+1) h.1;rw[jW,fI,fI,Zb2];have a:p++((⟨2,(b+1:Nat),(b+2+bt t:Nat),[]⟩::(bT t (b+1)++⟨3,(0:Nat),0,[]⟩::fI l (b+2+bt t) 0))++q)=(p++(⟨2,(b+1:Nat),(b+2+bt t:Nat),[]⟩::bT t (b+1)))++(⟨3,(0:Nat),0,[]⟩::(fI l (b+2+bt t) 0++q)):=by simp
  rw[a,TD (by grind)];have e2:∀x:aV,(p++(⟨2,(b+1:Nat),(b+2+bt t:Nat),[]⟩::bT t (b+1)))++(x::(fI l (b+2+bt t) 0++q))=((p++(⟨2,(b+1:Nat),(b+2+bt t:Nat),[]⟩::bT t (b+1)))++[x])++(fI l (b+2+bt t) 0++q):=λx=>by simp
  rw[e2,B0 l _ q (b+2+bt t) h.2 (by simp;omega)];simp
theorem B3 {lz:Bool} {f:Nat->List aV} {sz:Nat} (c:∀e,(f e).length=sz):∀(n:Nat) (p:List aV) (e:Nat),p.length=e->(jP sz n e).foldl (fw b lz) (p++fo (λ_=>⟨2,0,0,[]⟩) f sz n e)=p++fo (λi=>gY lz i b) f sz n e
 | 0,p,e,_=>by rfl
 | n+1,p,e,a=>by
  rw[jP,fo,fo,Zb2,sq a];have e2:∀x:aV,p++x::(f (e+1)++fo (λ_=>⟨2,0,0,[]⟩) f sz n (e+1+sz))=(p++x::f (e+1))++fo (λ_=>⟨2,0,0,[]⟩) f sz n (e+1+sz):=λx=>by simp
  rw[e2,B3 c n _ (e+1+sz) (by grind)];grind [gY]
theorem QpY (y:ep×aV) (a:uK.pre y):Tx y:=by
 have h:y.1.ae.length<=1000:=a;grind [Tx]
def Kw:Ok uK:=okZ [] f119 QpQ trivial QpY
theorem B4 {α:Type} {l:List α} {v d:α} (h:b<l.length):gt d (cO l b v) b=v:=by
 grind [cO]
theorem tq {α:Type} (l:List α) (i:Nat) (a b:α):cO (cO l i a) i b=cO l i b:=by grind [cO,List.set_set]
def QpZ (y:ep×Int×Int×Bool) (f:Em.pre y):Ty y:=by
 have⟨m,a,o,lz⟩:=y;obtain⟨h1,b,c⟩:m.ae.length<=1000/\0<=a/\a<m.ae.length:=f;have hi:a.toNat<m.ae.length:=ω;unfold Ty;simp only[bh,gx,eV,aw,ee,B4 hi,tq];have e:aD .i64 a 1=a+1:=bG ω ω;have d:gt (aV.mk 0 0 0 []) m.ae a.toNat=m.ae.getD a.toNat in0:=rfl;refine⟨b,c,b,c,λh=>⟨b,c,b,c,?_⟩,λh=>?_⟩
 ·simp only[e,d,h,fw,Zbv];rfl
 ·simp only[e,d,h,fw,ZaE,Za0];rfl
def Qa4:Ok Em:=okZ [] f215 (λ_=>dr ()) trivial QpZ
structure AtK (m:ep) (a:Nat) (t:ai):Prop where
 len:m.bx.length<=480
 nds:∀x∈m.bx,iN x
 wf:kA t
 fit:m.ae.length+bt t<=400
 nd:∃r,m.bx.drop a=aE t++r
 sz:∃r,m.cB.drop a=jO t++r
 en:∃r,m.aS.drop a=ql t a++r
variable {a x:Nat} {Z:ai} {m:ep}
theorem lf.out {i:Int} (h:lf (m,i)):∃a:Nat,i=a/\AtK m a (ep.t (m,i)):=by
 have⟨h0,h1,b,t,c,d,⟨r,f⟩,g,j⟩:=h;obtain⟨a,rfl⟩:=Zau h0;have e:ep.t (m,(a:Int))=t:=by grind [ep.t,kk]
 exact⟨a,rfl,by rw[e];exact⟨h1,b,c,d,⟨r,f⟩,g,j⟩⟩
theorem AtK.t (h:AtK m a Z):ep.t (m,(a:Int))=Z:=by
 have⟨r,b⟩:=h.nd;exact kk h.wf b
def AtK.nda (h:AtK m a Z):lf (m,(a:Int)):=
 ⟨ω,h.len,h.nds,Z,h.wf,h.fit,by simp only[Zad];exact h.nd,by simp only[Zad];exact h.sz,by simp only[Zad];exact h.en⟩
def AtK.cod (h:AtK m a Z):ig (m,(a:Int))=m.ae++bT Z m.ae.length:=by
 unfold ig;rw[aJ,h.t]
def fM (t:ai) (a x:Nat):Nat:=a+1+(aB (t.af.take x)).length
theorem Av (l:List ai) (x:Nat) (a:x<l.length):aO l=aO (l.take x)+bt (l.getD x bD)+aO (l.drop (x+1)):=by
 grind [List.drop_eq_getElem_cons,List.take_append_drop,tp,aO]
theorem xP {α:Type} {l:List α} {b:Nat} {u v w r:List α} (h:l.drop a=(u++(v++w))++r) (c:b=a+u.length):l.drop b=v++(w++r):=by
 subst c;rw[<-ZbZ,h];simp
theorem AtK.TE (h:AtK m a Z) (b:x<Z.af.length) (c:List aV) (d:c.length+bt (Z.af.getD x bD)<=400):AtK ⟨c,m.bx,m.cB,m.aS⟩ (fM Z a x) (Z.af.getD x bD):=by
 have⟨r,h1⟩:=h.nd;have⟨g,j⟩:=h.sz;have⟨i,k⟩:=h.en;have e:Z.af=Z.af.take x++(Z.af.getD x bD::Z.af.drop (x+1)):=by
  simp_all
 have hk:=vG h1 b;refine⟨h.len,h.nds,((iP _).mp h.wf).2.2.mem b,d,⟨_,hk⟩,⟨fT (Z.af.drop (x+1))++g,?_⟩,kY (Z.af.drop (x+1)) (fM Z a x+(aE (Z.af.getD x bD)).length)++i,?_⟩
 ·have f:jO Z=(eO (bt Z)::fT (Z.af.take x))++(jO (Z.af.getD x bD)++fT (Z.af.drop (x+1))):=by
   grind [qZ,sk,fT]
  grind [xP,fM,kZ]
 ·have f:ql Z a=(((a+(aE Z).length:Nat):Int)::kY (Z.af.take x) (a+1))++(ql (Z.af.getD x bD) (fM Z a x)++kY (Z.af.drop (x+1)) (fM Z a x+(aE (Z.af.getD x bD)).length)):=by
   rw[Hs]
   conv=>lhs;rw[e]
   rw[xO,kY];rfl
  grind [xP,fM,ph]
theorem Aw (b:x<Z.af.length):fM Z a (x+1)=fM Z a x+(aE (Z.af.getD x bD)).length:=by
 grind [fM,cm,cD,aB]
theorem Kx {α:Type} {l r:List α} {x d:α} (h:l.drop a=x::r):a<l.length/\l.getD a d=x:=by
 grind [List.drop_of_length_le,List.drop_eq_getElem_cons]
theorem AtK.enx (h:AtK m a Z):a<m.aS.length/\m.aS.getD a 0=((a+(aE Z).length:Nat):Int):=by
 have⟨r,b⟩:=h.en;grind [Hs,Kx]
theorem AtK.ndx (h:AtK m a Z):a<m.bx.length/\gt (Nd.mk 0 [] 0 0 false 0 0) m.bx a=⟨Z.op,Z.r,Z.mn,Z.mx,Z.lz,Z.cap,Z.af.length⟩:=by
 have⟨r,b⟩:=h.nd;grind [pZ]
theorem AtK.num (h:AtK m a Z):a<=480/\Z.af.length<=480:=by
 have⟨r,h1⟩:=h.nd;have b:=pZ h1;have c:=h.len;have key:∀l:List ai,l.length<=(aB l).length:=λl=>by
  induction l with
  | nil=>simp
  | cons x l d=>simp only[aB,Zab,Zae];rw[bU];simp;omega
 grind [bU]
def Ky (h:AtK m a Z) (k:Nat):uL (m,(a:Int)) k=(fM Z a k:Nat):=by
 unfold uL fM;rw[aJ,h.t];omega
theorem kC (t:ai) (a:Nat):fM t a 0=a+1:=by rfl
def TG (h:a<Z.af.length):2*dg (Z.af.getD a bD)+1<2*dg Z:=by have:=iO h;omega
def AtK.go (h:AtK m a Z) (b:x<Z.af.length) (c:List aV) (e:c.length+bt (Z.af.getD x bD)<=400):
  lf (⟨c,m.bx,m.cB,m.aS⟩,(fM Z a x:Nat))/\ep.t (⟨c,m.bx,m.cB,m.aS⟩,(fM Z a x:Nat))=Z.af.getD x bD/\ig (⟨c,m.bx,m.cB,m.aS⟩,(fM Z a x:Nat))=c++bT (Z.af.getD x bD) c.length/\(bT (Z.af.getD x bD) c.length).length=bt (Z.af.getD x bD)/\(fM Z a x:Nat)<m.aS.length/\m.aS.getD (fM Z a x) 0=(fM Z a (x+1):Nat):=by
 have hk:=h.TE b c e;have⟨d,e2⟩:=hk.enx;exact⟨hk.nda,hk.t,hk.cod,iQ _ _ hk.wf,d,by rw[e2,Aw b]⟩
theorem Qp2 (y:uJ) (l:Hv.pre y):Tz y:=by
 have⟨m,i⟩:=y;obtain⟨a,rfl,h⟩:=lf.out l;have d:lf (m,(a:Int)):=l;have eT:lk (ct (List.drop a m.bx)).1=ep.t (m,(a:Int)):=rfl;have z:=h.cod;have A:∀k,En (m,(a:Int)) k=m.ae++bu ((ep.t (m,(a:Int))).af.take k) m.ae.length:=λk=>by grind [En,aJ]
 have B:∀k,uL (m,(a:Int)) k=(fM (ep.t (m,(a:Int))) a k:Nat):=Ky h;unfold Tz QdG QdH;simp only[Zad,eT,A,B,z];generalize ep.t (m,(a:Int))=t at*
 have⟨g1,g2⟩:=h.ndx;have⟨b1,H⟩:=h.num;rw[g2];have wf:=(iP _).mp h.wf;have j:=h.fit;have f:=lg t m.ae.length;have dd:=size_eq t;unfold pf at dd;have I:t.r.length<=1000000:=by
  have⟨r,h1⟩:=h.nd;have:(⟨t.op,t.r,t.mn,t.mx,t.lz,t.cap,t.af.length⟩:Nd)∈m.bx:=Zc5 (i:=a) (by grind [bU]);exact h.nds _ this
 simp only[bN,bh,aw,di,br,Zad];refine⟨ω,ω,λD=>⟨ω,ω,?_⟩,λD=>⟨λF=>⟨ω,?_⟩,λF=>⟨λG=>⟨ω,?_⟩,λG=>⟨λE=>⟨⟨0,by grind [kC],rfl,by simp[bu],by simp[bu],Zaj _⟩,λx J=>⟨λe=>?_,λe=>?_⟩⟩,λE=>⟨λn=>⟨⟨d,n⟩,ω⟩,λn=>⟨λo=>⟨⟨d,o⟩,ω⟩,λo=>⟨λp=>?_,λp=>?_⟩⟩⟩⟩⟩⟩⟩
 ·grind
 ·grind
 ·grind
 ·have c:x<t.af.length:=ω;have g:=Av t.af x c;have hl:=nc (t.af.take x) m.ae.length (wf.2.2.take x);have⟨c1,c2,c3,c4,c5,c6⟩:=h.go c (m.ae++bu (t.af.take x) m.ae.length) (by grind);have b:lk (ct (List.drop (fM t a x) m.bx)).1=t.af.getD x bD:=c2;have ht:=cm bD c;rw[b,c3];have hs:m.ae++bu (t.af.take x) m.ae.length++bT (t.af.getD x bD) (m.ae++bu (t.af.take x) m.ae.length).length=m.ae++bu (t.af.take (x+1)) m.ae.length:=by
   grind [Hw]
  exact⟨⟨c1,by have:=TG c;omega⟩,ω,ω,x+1,c6,bL ω,by rw[hs],hs,ω,ω⟩
 ·grind
 ·have⟨q,s,u⟩:=wf.1.uE p;have q:(t.af.length:Int)=1:=q;have s:1<=t.cap:=s;have u:t.cap<=4:=u;have c:0<t.af.length:=ω;have C:t.af=[t.af.getD 0 bD]:=by
   match hk:t.af,(show t.af.length=1 by omega) with
   | [k],_=>rfl
  have qG:aO t.af=bt (t.af.getD 0 bD):=by grind [aO]
  have e8:iY .i64 2 t.cap=2*t.cap:=BE ω ω;have w:aD .i64 (2*t.cap) 1=2*t.cap+1:=bG ω ω;have v:aD .i64 (a:Int) 1=(fM t a 0:Nat):=by grind [kC]
  simp only[e8,w,v,Zad];have⟨c1,c2,c3,c4,c5,c6⟩:=h.go c (m.ae++[aV.mk 4 (2*t.cap) 0 []]) (by grind);have b:lk (ct (List.drop (fM t a 0) m.bx)).1=t.af.getD 0 bD:=c2;rw[b,c3];have hs:m.ae++[aV.mk 4 (2*t.cap) 0 []]++bT (t.af.getD 0 bD) (m.ae++[aV.mk 4 (2*t.cap) 0 []]).length++[aV.mk 4 (2*t.cap+1) 0 []]=m.ae++bT t m.ae.length:=by
   grind [bu]
  refine⟨ω,⟨c1,by have:=TG c;omega⟩,?_,by rw[hs],hs⟩;grind
 ·grind
theorem Qp3 (y:uJ) (Z:M_.pre y):TB y:=by
 have⟨m,i⟩:=y;obtain⟨B,F⟩:lf (m,i)/\(ep.t (m,i)).op=4:=Z;obtain⟨a,rfl,h⟩:=lf.out B;have eT:lk (ct (List.drop a m.bx)).1=ep.t (m,(a:Int)):=rfl;have O:=h.cod;have Q:∀k,Eo (m,(a:Int)) k=m.ae++fI ((ep.t (m,(a:Int))).af.take k) m.ae.length 0:=λk=>by grind [Eo,aJ]
 have P:∀k,Ep (m,(a:Int)) k=jW ((ep.t (m,(a:Int))).af.take k) m.ae.length:=λk=>by grind [Ep,aJ]
 have S:BY (m,(a:Int))=m.ae++km (ep.t (m,(a:Int))).af m.ae.length 0:=by unfold BY;rw[aJ]
 have N:BZ (m,(a:Int))=jW (ep.t (m,(a:Int))).af.dropLast m.ae.length:=by unfold BZ;rw[aJ]
 have T:∀j,Er (m,(a:Int)) j=((BZ (m,(a:Int))).take j).foldl (lb (ig (m,(a:Int))).length) (BY (m,(a:Int))):=λj=>by unfold Er;rw[aJ]
 have R:∀k,uL (m,(a:Int)) k=(fM (ep.t (m,(a:Int))) a k:Nat):=Ky h;unfold TB;simp only[Zad,eT,Q,P,T,R,O,S,N];generalize ep.t (m,(a:Int))=t at*
 have⟨g1,g2⟩:=h.ndx;have⟨b1,b2⟩:=h.num;rw[g2];have wf:=(iP _).mp h.wf;have J:=h.fit;have o:=lg t m.ae.length;rw[Zaa ω,Zaa ω,Zaa ω,Zaa ω,Zac F] at o;have dd:=size_eq t;unfold pf at dd;rw[Zaa ω,Zac F] at dd;have W:2<=t.af.length:=by have h:=wf.1.ay F;simp only at h;omega
 have g:t.af=t.af.dropLast++[t.af.getD (t.af.length-1) bD]:=by
  conv=>lhs;rw[<-ZaM (l:=t.af),show t.af.length=(t.af.length-1)+1 by omega]
  grind [cm]
 have r:t.af.take (t.af.length-1)=t.af.dropLast:=by grind
 have D:na t.af.dropLast:=by rw[<-r];exact wf.2.2.take _
 simp only[bN,bh,aw,di,br,Zad,a8,ZaX,ZaY,ZaZ];have A:aD .i64 (a:Int) 1=(fM t a 0:Nat):=by rw[bG ω ω,kC];rfl
 have K:cQ .i64 (t.af.length:Int) 1=((t.af.length-1:Nat):Int):=zZ ω ω;refine⟨⟨ω,ω,⟨0,by rfl,A,rfl,by simp[fI],by simp[fI],ω⟩,λx hx=>⟨λe=>?_,λe=>ω⟩⟩,⟨0,rfl,by simp,rfl,Zaj _⟩,λj hj=>⟨λe=>?_,λe=>?_⟩⟩
 ·have d:x<t.af.length:=ω;have H:=Av t.af x d;have hl:=Zc (wf.2.2.take x) m.ae.length 0;have s:(t.af.take x).length=x:=by grind
  have c:(m.ae++fI (t.af.take x) m.ae.length 0).length=m.ae.length+(aO (t.af.take x)+2*x):=by grind
  refine⟨ω,ω,λel=>?_,λel=>?_⟩
  ·have E:x=t.af.length-1:=ω;have⟨c1,c2,c3,c4,c5,c6⟩:=h.go d (m.ae++fI (t.af.take x) m.ae.length 0) ω;have f:lk (ct (List.drop (fM t a x) m.bx)).1=t.af.getD x bD:=c2;rw[f,c3];have hs:m.ae++fI (t.af.take x) m.ae.length 0++bT (t.af.getD x bD) (m.ae++fI (t.af.take x) m.ae.length 0).length=m.ae++km t.af m.ae.length 0:=by
    conv=>rhs;rw[g,p_]
    rw[c,E,r,ZaD,show t.af.dropLast.length=t.af.length-1 by simp]
   exact⟨⟨c1,by have:=TG d;omega⟩,by grind,by rw[hs],hs⟩
  ·have⟨c1,c2,c3,c4,c5,c6⟩:=h.go d (m.ae++fI (t.af.take x) m.ae.length 0++[aV.mk 2 0 0 []]) (by grind);have f:lk (ct (List.drop (fM t a x) m.bx)).1=t.af.getD x bD:=c2;rw[f,c3];have hs:fw (((m.ae++fI (t.af.take x) m.ae.length 0++[aV.mk 2 0 0 []]++bT (t.af.getD x bD) (m.ae++fI (t.af.take x) m.ae.length 0++[aV.mk 2 0 0 []]).length++[aV.mk 3 0 0 []]).length:Nat):Int) false (m.ae++fI (t.af.take x) m.ae.length 0++[aV.mk 2 0 0 []]++bT (t.af.getD x bD) (m.ae++fI (t.af.take x) m.ae.length 0++[aV.mk 2 0 0 []]).length++[aV.mk 3 0 0 []]) ((m.ae++fI (t.af.take x) m.ae.length 0).length:Nat)=m.ae++fI (t.af.take (x+1)) m.ae.length 0:=by
    rw[cm bD d,Nc,s];have M:∀(p:List aV) (u v:aV) (q:List aV),p++[u]++q++[v]=p++u::(q++[v]):=λp u v q=>by simp
    rw[M,sq rfl,ZaD,c];have z:(m.ae++fI (t.af.take x) m.ae.length 0++[(aV.mk 2 0 0 []:aV)]).length=m.ae.length+(aO (t.af.take x)+2*x)+1:=by grind
    rw[z];have n2:(m.ae++(fI (t.af.take x) m.ae.length 0++(aV.mk 2 0 0 []:aV)::(bT (t.af.getD x bD) (m.ae.length+(aO (t.af.take x)+2*x)+1)++[aV.mk 3 0 0 []]))).length=m.ae.length+(aO (t.af.take x)+2*x)+2+bt (t.af.getD x bD):=by
     grind
    simp only[ZaD,n2];rfl
   have n3:(m.ae++fI (t.af.take x) m.ae.length 0++[aV.mk 2 0 0 []]++bT (t.af.getD x bD) (m.ae++fI (t.af.take x) m.ae.length 0++[aV.mk 2 0 0 []]).length).length=m.ae.length+(aO (t.af.take x)+2*x)+1+bt (t.af.getD x bD):=by
    grind
   refine⟨ω,⟨c1,TG d⟩,ω,?_,⟨?_,ω,?_⟩,ω,ω,x+1,?_,c6,bL ω,by rw[hs],hs,ω,ω⟩
   ·grind [Eu]
   ·grind
   ·grind
   ·rw[cm bD d,Nf,s,n3]
 ·have d:j<(jW t.af.dropLast m.ae.length).length:=ω;have L:(List.foldl (lb ((m.ae++bT t m.ae.length).length:Nat)) (m.ae++km t.af m.ae.length 0) ((jW t.af.dropLast m.ae.length).take j)).length=(m.ae++bT t m.ae.length).length:=by
   grind [As,lh]
  have X:∀(l:List ai) (b:Nat) (v:Int),v∈jW l b->0<=v/\v<(b+aO l+2*l.length:Nat):=λl=>by
   induction l with
   | nil=>intro b v w;cases w
   | cons u l ih=>
    intro b v w;rw[aO,Zae];rcases List.mem_cons.mp w with w | w
    ·omega
    ·grind
  have U:(jW t.af.dropLast m.ae.length).getD j 0∈jW t.af.dropLast m.ae.length:=by grind
  have⟨v1,v2⟩:=X _ _ _ U;have Y:aO t.af.dropLast<=aO t.af:=by
   grind [tp]
  have z:(m.ae++bT t m.ae.length).length=m.ae.length+(aO t.af+2*(t.af.length-1)):=by grind [lh]
  have I:t.af.dropLast.length=t.af.length-1:=by simp
  have C:∀(n:List Int) (l:List aV) (e:Int),n.take (j+1)=n.take j++[n.getD j 0]->List.foldl (lb e) l (n.take (j+1))=lb e (List.foldl (lb e) l (n.take j)) (n.getD j 0):=λn l e h=>by grind
  have G:=C _ (m.ae++km t.af m.ae.length 0) ((m.ae++bT t m.ae.length).length:Nat) (cm 0 d);have V:=Eu t.af.dropLast m.ae.length;rw[L];refine⟨ω,e,v1,ω,j+1,bL ω,?_,?_,ω,ω⟩
  ·rw[G,iR,L]
  ·rw[G];rfl
 ·have d:j=(jW t.af.dropLast m.ae.length).length:=ω;have hs:List.foldl (lb ((m.ae++bT t m.ae.length).length:Nat)) (m.ae++km t.af m.ae.length 0) (jW t.af.dropLast m.ae.length)=m.ae++bT t m.ae.length:=by
   have z:(m.ae++bT t m.ae.length).length=m.ae.length+aO t.af+2*(t.af.length-1):=by grind [lh]
   rw[z];have:=B0 (e:=m.ae.length+aO t.af+2*(t.af.length-1)) t.af.dropLast m.ae (bT (t.af.getD (t.af.length-1) bD) (m.ae.length+(aO t.af.dropLast+2*t.af.dropLast.length))) m.ae.length D rfl;grind [p_]
  grind
theorem AtK.Qp4 (h:AtK m a Z) (g:x<Z.af.length):fM Z a x<m.cB.length/\m.cB.getD (fM Z a x) 0=eO (bt (Z.af.getD x bD)):=by
 have⟨i,c⟩:=h.sz;have f:Z.af=Z.af.take x++(Z.af.getD x bD::Z.af.drop (x+1)):=by
  simp_all
 have d:jO Z=(eO (bt Z)::fT (Z.af.take x))++(jO (Z.af.getD x bD)++fT (Z.af.drop (x+1))):=by
  grind [qZ,sk,fT]
 rw[d] at c;have e:=xP (b:=fM Z a x) c (by grind [fM,kZ]);grind [qZ,Kx]
theorem Qp5 (y:uJ) (hy:Na.pre y):TC y:=by
 have⟨m,i⟩:=y;obtain⟨K,R⟩:lf (m,i)/\(ep.t (m,i)).op=5:=hy;obtain⟨a,rfl,h⟩:=lf.out K;have eT:lk (ct (List.drop a m.bx)).1=ep.t (m,(a:Int)):=rfl;have Z:=h.cod;have eK:∀k,sm (m,(a:Int)) k=m.ae++ie (bu (ep.t (m,(a:Int))).af) (aO (ep.t (m,(a:Int))).af) k m.ae.length:=λk=>by grind [sm,aJ]
 have Y:Nb (m,(a:Int))=(sm (m,(a:Int)) (ep.t (m,(a:Int))).mn.toNat).length:=by grind [Nb,aJ]
 have eS:∀k,yN (m,(a:Int)) k=sm (m,(a:Int)) (ep.t (m,(a:Int))).mn.toNat++fo (λ_=>aV.mk 2 0 0 []) (bu (ep.t (m,(a:Int))).af) (aO (ep.t (m,(a:Int))).af) k (Nb (m,(a:Int))):=λk=>by unfold yN;rw[aJ]
 have eJ:∀k,uN (m,(a:Int)) k=jP (aO (ep.t (m,(a:Int))).af) k (Nb (m,(a:Int))):=λk=>by unfold uN;rw[aJ]
 have eM:lG (m,(a:Int))=la (ep.t (m,(a:Int))).mn (ep.t (m,(a:Int))).mx:=by unfold lG;rw[aJ]
 have eX:∀j,Es (m,(a:Int)) j=((uN (m,(a:Int)) (lG (m,(a:Int)))).take j).foldl (fw (ig (m,(a:Int))).length (ep.t (m,(a:Int))).lz) (yN (m,(a:Int)) (lG (m,(a:Int)))):=λj=>by unfold Es;rw[aJ]
 unfold TC;simp only[Zad,eT,eX,Z,eJ,eS,Y,eM,eK];generalize ep.t (m,(a:Int))=t at*
 have⟨g1,g2⟩:=h.ndx;have⟨b1,b2⟩:=h.num;rw[g2];have wf:=(iP _).mp h.wf;have T:=h.fit;have d:=lg t m.ae.length;rw[Zaa ω,Zaa ω,Zaa ω,Zaa ω,Zaa ω,Zac R] at d;unfold Hu at d;have dd:=size_eq t;unfold pf at dd;rw[Zaa ω,Zaa ω,Zaa ω,Zac R] at dd;have⟨V,W,X,w4⟩:=wf.1.rep R;have V:(t.af.length:Int)=1:=V;have W:0<=t.mn:=W;have X:t.mn<=30:=X;have w4:t.mx= -1\/(t.mn<=t.mx/\t.mx<=30):=w4;have B:0<t.af.length:=ω;have hks:t.af=[t.af.getD 0 bD]:=by
  match hk:t.af,(show t.af.length=1 by omega) with
  | [k],_=>rfl
 have qG:aO t.af=bt (t.af.getD 0 bD):=by grind [aO]
 have hcl:∀b,bu t.af b=bT (t.af.getD 0 bD) b:=λb=>by grind [bu]
 have f:∀b,(bu t.af b).length=aO t.af:=λb=>nc _ b wf.2.2
 have hrl:=λn=>pj f n m.ae.length
 have I:aD .i64 (a:Int) 1=(fM t a 0:Nat):=by grind [kC]
 have⟨s1,U⟩:=h.Qp4 B;rw[<-qG] at U;have L:(t.af.length:Int)=t.nk:=wf.2.1.symm;have hk1:=kC t a;have s:=TG B;have hN:t.mn=(t.mn.toNat:Int):=ω
 
 have go:∀c:List aV,c.length+aO t.af<=400->lf (⟨c,m.bx,m.cB,m.aS⟩,(fM t a 0:Nat))/\ig (⟨c,m.bx,m.cB,m.aS⟩,(fM t a 0:Nat))=c++bu t.af c.length:=λc r=>by
  rw[qG] at r;have⟨c1,c2,c3,c4,c5,c6⟩:=h.go B c r;grind
 have c2:∀c:List aV,c.length+aO t.af<=400->lk (ct (List.drop (fM t a 0) m.bx)).1=t.af.getD 0 bD:=λc r=>by
  rw[qG] at r;exact(h.go B c r).2.1
 simp only[bN,bh,I,aw,di,br,Zad,a8,ZaX,ZaY,ZaZ,L,U];generalize aO t.af=sz at*
 generalize hNn:t.mn.toNat=N at*
 refine⟨ω,ω,⟨ω,ω,λe=>⟨⟨0,rfl,by simp[ie],by simp[ie],Zaj _⟩,λx hx=>⟨λE=>?_,λE=>?_⟩⟩,λe=>?_⟩,λem=>?_,λem=>?_⟩
 ·have o:x+1<=N:=ω;have hle:x*sz+sz<=N*sz:=by rw[<-ZaV];exact Zbc _ o
  have H:m.ae.length+N*sz<=400:=by grind
  have C:(m.ae++ie (bu t.af) sz x m.ae.length).length=m.ae.length+x*sz:=by grind
  have⟨z,A⟩:=go (m.ae++ie (bu t.af) sz x m.ae.length) ω;have hs:m.ae++ie (bu t.af) sz x m.ae.length++bu t.af (m.ae++ie (bu t.af) sz x m.ae.length).length=m.ae++ie (bu t.af) sz (x+1) m.ae.length:=by
   grind [Ao]
  grind [bL]
 ·grind
 ·have hz:sz=0:=by unfold eO at e;omega
  grind
 ·rw[Zac em] at dd d;have C:(m.ae++ie (bu t.af) sz N m.ae.length).length=m.ae.length+N*sz:=by grind
  have F:m.ae++bT t m.ae.length=(m.ae++ie (bu t.af) sz N m.ae.length)++gY t.lz (m.ae.length+N*sz) (m.ae.length+N*sz+sz+2)::(bu t.af (m.ae.length+N*sz+1)++[⟨3,(m.ae.length+N*sz:Nat),0,[]⟩]):=by
   grind
  rw[F,<-C];generalize m.ae++ie (bu t.af) sz N m.ae.length=c0 at*
  have⟨z,A⟩:=go (c0++[aV.mk 2 0 0 []]) (by grind);have D:=c2 (c0++[aV.mk 2 0 0 []]) (by grind);have P:(c0++[aV.mk 2 0 0 []]).length=c0.length+1:=by simp
  rw[D,A,P];have Q:(c0++[aV.mk 2 0 0 []]++bu t.af (c0.length+1)++[aV.mk 3 c0.length 0 []]).length=c0.length+sz+2:=by grind
  have hs:fw ((c0++[aV.mk 2 0 0 []]++bu t.af (c0.length+1)++[aV.mk 3 c0.length 0 []]).length:Nat) t.lz (c0++[aV.mk 2 0 0 []]++bu t.af (c0.length+1)++[aV.mk 3 c0.length 0 []]) (c0.length:Nat)=c0++gY t.lz c0.length (c0.length+sz+2)::(bu t.af (c0.length+1)++[aV.mk 3 c0.length 0 []]):=by
   rw[Q];have E:∀(p:List aV) (u v:aV) (q:List aV),p++[u]++q++[v]=p++u::(q++[v]):=λp u v q=>by simp
   rw[E,sq rfl];unfold gY;cases t.lz<;>simp
  have n4:(c0++[aV.mk 2 0 0 []]++bu t.af (c0.length+1)).length=c0.length+sz+1:=by grind
  exact⟨ω,⟨z,s⟩,ω,⟨ω,ω,ω⟩,by rw[hs],hs⟩
 ·rw[Zaa em] at dd d;have C:(m.ae++ie (bu t.af) sz N m.ae.length).length=m.ae.length+N*sz:=by grind
  have F:m.ae++bT t m.ae.length=(m.ae++ie (bu t.af) sz N m.ae.length)++fo (λi=>gY t.lz i (m.ae.length+N*sz+la t.mn t.mx*(sz+1))) (bu t.af) sz (la t.mn t.mx) (m.ae.length+N*sz):=by
   grind
  have hM:cQ .i64 t.mx t.mn=((la t.mn t.mx:Nat):Int):=by
   grind [la]
  have G:t.mx.toNat-N=la t.mn t.mx:=by unfold la;omega
  have hMb:la t.mn t.mx<=30:=ω;rw[G] at dd;rw[F,hM,<-C];generalize la t.mn t.mx=M at*
  generalize m.ae++ie (bu t.af) sz N m.ae.length=c0 at*
  have O:∀(g:Nat->aV) (k:Nat),(fo g (bu t.af) sz k c0.length).length=k*(sz+1):=λg k=>pk f k _
  have J:∀k,(jP sz k c0.length).length=k:=λk=>Et k _
  refine⟨⟨0,by rfl,rfl,by simp[fo],by simp[fo],Zaj _⟩,λx hx=>⟨λe=>?_,λe=>⟨⟨0,?_,rfl,?_,?_,Zaj _⟩,λj hj=>⟨λe2=>?_,λe2=>?_⟩⟩⟩⟩
  ·have o:x+1<=M:=ω;have hle:x*(sz+1)+(sz+1)<=M*(sz+1):=by rw[<-ZaV];exact Zbc _ o
   have P:(c0++fo (λ_=>aV.mk 2 0 0 []) (bu t.af) sz x c0.length).length=c0.length+x*(sz+1):=by grind
   have Q:(c0++fo (λ_=>aV.mk 2 0 0 []) (bu t.af) sz x c0.length++[aV.mk 2 0 0 []]).length=c0.length+x*(sz+1)+1:=by grind
   have⟨z,A⟩:=go (c0++fo (λ_=>aV.mk 2 0 0 []) (bu t.af) sz x c0.length++[aV.mk 2 0 0 []]) ω;have D:=c2 (c0++fo (λ_=>aV.mk 2 0 0 []) (bu t.af) sz x c0.length++[aV.mk 2 0 0 []]) ω;have hs:c0++fo (λ_=>aV.mk 2 0 0 []) (bu t.af) sz x c0.length++[aV.mk 2 0 0 []]++bu t.af (c0++fo (λ_=>aV.mk 2 0 0 []) (bu t.af) sz x c0.length++[aV.mk 2 0 0 []]).length=c0++fo (λ_=>aV.mk 2 0 0 []) (bu t.af) sz (x+1) c0.length:=by
    rw[Ap,Q];simp
   rw[D,A];refine⟨ω,?_,⟨z,s⟩,x+1,?_,bL ω,by rw[hs],hs,ω,ω⟩
   ·grind
   ·rw[Aq,P]
  ·grind
  ·grind
  ·grind
  ·have w:x=M:=ω;subst w;rw[J] at e2;have e3:j<(jP sz x c0.length).length:=by grind
   have n0:(List.foldl (fw ((c0++fo (λi=>gY t.lz i (c0.length+x*(sz+1))) (bu t.af) sz x c0.length).length:Nat) t.lz) (c0++fo (λ_=>aV.mk 2 0 0 []) (bu t.af) sz x c0.length) ((jP sz x c0.length).take j)).length=c0.length+x*(sz+1):=by grind [Au]
   have n5:(c0++fo (λi=>gY t.lz i (c0.length+x*(sz+1))) (bu t.af) sz x c0.length).length=c0.length+x*(sz+1):=by grind
   have hp:∀(k b:Nat) (v:Int),v∈jP sz k b->0<=v/\v<(b+k*(sz+1):Nat):=λk=>by
    induction k with
    | zero=>intro b v hv;cases hv
    | succ k ih=>
     grind [jP]
   have⟨v1,v2⟩:=hp _ _ _ (show(jP sz x c0.length).getD j 0∈jP sz x c0.length by grind);have S:∀(l:List aV) (e:Int),List.foldl (fw e t.lz) l ((jP sz x c0.length).take (j+1))=fw e t.lz (List.foldl (fw e t.lz) l ((jP sz x c0.length).take j)) ((jP sz x c0.length).getD j 0):=λl e=>by grind [cm]
   rw[n0];rw[n5] at*
   refine⟨ω,ω,⟨ω,v1,v2⟩,j+1,bL ω,?_,?_,ω,ω⟩
   ·rw[S,ee]
   ·rw[S]
  ·have w:x=M:=ω;have hs:List.foldl (fw ((c0++fo (λi=>gY t.lz i (c0.length+j*(sz+1))) (bu t.af) sz j c0.length).length:Nat) t.lz) (c0++fo (λ_=>aV.mk 2 0 0 []) (bu t.af) sz j c0.length) ((jP sz j c0.length).take j)=c0++fo (λi=>gY t.lz i (c0.length+j*(sz+1))) (bu t.af) sz j c0.length:=by
    rw[ZaA (by grind),Zab,O];exact B3 f j c0 c0.length rfl
   grind
def q_ (l:List Nd):ai:=lk (ct l).1
def qm (t:ai) (r b:Nat):List aV:=⟨4,0,0,[]⟩::(bT t (b+1)++[⟨4,1,0,[]⟩,⟨7,r,0,[]⟩])
def nf:List (List Nd)->Nat->List aV->List Int->(List aV×List Int)×Int×Int
 | [],_,c,s=>((c,s),0,0)
 | l::ls,r,c,s=>if dL l=false then(([],[]),1,r) else if 400<c.length+bt (q_ l)+3 then(([],[]),12,r) else nf ls (r+1) (c++qm (q_ l) r c.length) (s++[(c.length:Int)])
def Hy (y:List (List Nd)):(List aV×List Int)×Int×Int:=if 8<y.length then(([],[]),13,8) else nf y 0 [] []
def b6 (y:List (List Nd)):(List aV×List Int)×Int×Int:=lk (Hy y)
def Qh4 (args:List (AV D.E)) (s:St D.E):C (List (List Nd)):=match args with
 | [a]=>aA (aW D s 9 a) λl=>.ret (l:List (List Nd))
 | _=>.fail
def po (y:List (List Nd)):Prop:=y.length<=1000000/\∀l∈y,∀x∈l,iN x
def Hz:bk D:=bP 76 (List (List Nd)) Qh4 po (λy=>[.list 9 y]) λy=>.tuple [.agg [.list 8 (b6 y).1.1,.list 5 (b6 y).1.2],QtJ (b6 y).2.1,QtJ (b6 y).2.2]
structure CmX where
 c:List aV
 s:List Int
 n:List Nd
 z:List Int
 e:List Int
 r:Nat
def Zd (y:List (List Nd)) (x:CmX):Prop:=x.r<=y.length/\y.length<=8/\x.c.length<=400/\x.s.length=x.r/\nf (y.drop x.r) x.r x.c x.s=b6 y
def Qp6 (y:Hz.Y):cU D:=⟨[],[],[(250,⟨CmX,[15,16],λx=>[(2,.ptr 0 0),(3,.num .i64 0),(4,.num .i64 0),(5,.ptr 1 0),(6,.grow 5 x.s 3),(17,QtJ x.r)],[],λx=>[(0,.cells [.cW,.cW] 88 false),(1,.cells [.own 2 4 (ah x.c),.list 7 x.n,.list 5 x.z,.list 5 x.e] 197 false),(2,.arr 8 x.c 203 false),(3,.tok 5 3)],4,Zd y,λx=>y.length-x.r⟩)],[],1,[]⟩
def TH (y:List (List Nd)):Prop:=let k:=(b6 y).2.2;let q1:=(b6 y).2.1;ak (az 8 (ah y)) ([]=(b6 y).1.1/\[]=(b6 y).1.2/\13=q1/\8=k/\True) ((∃z:CmX,aa [y] (aa [ah y] ([]=z.s/\0=((z.r:Nat):Int)/\0=ah z.c/\[]=z.n/\[]=z.z/\[]=z.e/\[]=z.c/\(Iv (Zd y z)))))/\(∀x:CmX,let f:=((x.r:Nat):Int);let d:=gt [] y f.toNat;let g:=ah d;let o:=bM x.s [(x.c.length:Int)];let i:=mf g 0;let b:=nr.mk d i 0;let t:=ah (x.c++[aV.mk 4 0 0 []]);let q:=gt 0 (Fa b) 0;let l:=az 400 (aD .i64 (aD .i64 (ah x.c) q) 3);let h:=(ep.mk (x.c++[aV.mk 4 0 0 []]) d (Fa b) (Hq b),(0:Int));let a:=ig h;let m:=ah (a++[aV.mk 4 1 0 []]);let j:=λp:Prop=>aa [d] (aa ([ah i,0]:List Int) (aa [i] p));(Iv (Zd y x))->ak (az f (ah y)) (aI 0 f/\az f (ah y)/\Iv (cA d)/\aa [d] (ak (!(dL d)) ([]=(b6 y).1.1/\[]=(b6 y).1.2/\1=q1/\f=k/\True) (aI 0 g/\aI g g/\bF g 8/\aI 0 g/\aI g g/\bF g 8/\Iv (M9 b)/\j (Iv (M9 b)/\j (Tt 1 (az 0 (ah i)/\aa [ah x.c,ah i,q] (ak l ([]=(b6 y).1.1/\[]=(b6 y).1.2/\12=q1/\f=k/\True) (Iv (x.c.length<=1000)/\aa ([4,0,0]:List Int) (aa ([[]]:List (List (Int×Int))) (aa [ah x.c] (aa [d] (aa [Fa b,Hq b] (aa [x.c] (bF (ah o) 8/\Iv (lf h)/\aa ([0,t]:List Int) (aa [d] (aa [Fa b,Hq b] (aa [x.c++[aV.mk 4 0 0 []]] (Iv (a.length<=1000)/\aa ([4,1,0]:List Int) (aa ([[]]:List (List (Int×Int))) (aa [ah a] (aa [d] (aa [Fa b,Hq b] (aa [a] (Iv ((a++[aV.mk 4 1 0 []]).length<=1000)/\aa ([7,f,0]:List Int) (aa ([[]]:List (List (Int×Int))) (aa [m] (aa [d] (aa [Fa b,Hq b] (aa [a++[aV.mk 4 1 0 []]] (∃z:CmX,aa [y] (aa [ah y] (o=z.s/\aD .i64 f 1=((z.r:Nat):Int)/\ah ((a++[aV.mk 4 1 0 []])++[aV.mk 7 f 0 []])=ah z.c/\d=z.n/\Fa b=z.z/\Hq b=z.e/\((a++[aV.mk 4 1 0 []])++[aV.mk 7 f 0 []])=z.c/\(Iv (Zd y z/\(y.length-z.r)<(y.length-x.r))))))))))))))))))))))))))))))))))) (x.c=(b6 y).1.1/\x.s=(b6 y).1.2/\0=q1/\0=k/\True)))
inductive Fk where
 | n | a | r
noncomputable section
def fkC:Fk->bk D
 | .n=>Hv | .a=>M_ | .r=>Na
def Qp8:∀i,(fkC i).Y->Nat
 | .n=>λy=>2*dg (ep.t y)+1 | .a=>λy=>2*dg (ep.t y) | .r=>λy=>2*dg (ep.t y)
def fkF:Fk->Func
 | .n=>f120 | .a=>f177 | .r=>f178
def Qh6:Fk->s6
 | .n=>[uK] | .a=>[uK,Em] | .r=>[uK,Em]
def fkO:∀i,(fkC i).Y->cU D
 | .n=>Qh1 | .a=>Qh2 | .r=>Qh3
def Qp9:∀i,Ok (fkC i):=
 w9 [.n,.a,.r] fkC Qp8 (fn:=fkF) (tab:=Qh6) (jb:=fkO)
  (λi=>match i with
   | .n=>Kw | .a=>⟨Kw,Qa4⟩ | .r=>⟨Kw,Qa4⟩)
  (λi=>match i with
   | .n=>by kernel_rfl | .a=>by kernel_rfl | .r=>by kernel_rfl)
  (λi=>match i with
   | .n=>by kernel_rfl | .a=>by kernel_rfl | .r=>by kernel_rfl)
  λi=>match i with
   | .n=>λy b=>Eq.mp (Y_ y) (Qp2 y b) | .a=>λy b=>Eq.mp (Za y) (Qp3 y b) | .r=>λy b=>Eq.mp (Zb y) (Qp5 y b)
end
theorem Qqa (y:List (List Nd)) (J:Hz.pre y):TH y:=by
 obtain⟨h1,v⟩:y.length<=1000000/\∀l∈y,∀x∈l,iN x:=J;have i:b6 y=Hy y:=by grind [b6,aJ]
 unfold TH;simp only[bN,bh,aw,di,br,Zad,a8,Zan,Zao,Zah,ZaQ,ZaF];unfold Hy at i;refine⟨λe=>?_,λe=>?_⟩
 ·grind
 ·rw[Zaa ω] at i;refine⟨⟨⟨[],[],[],[],[],0⟩,rfl,rfl,rfl,rfl,rfl,rfl,rfl,Zaj _,ω,Zaj _,rfl,i.symm⟩,λx I=>?_⟩;obtain⟨c,s,n,z,en,r⟩:=x;obtain⟨i1,i2,i3,i4,i5⟩:=I;simp only at i1 i3 i4 i5 ⊢;refine⟨λe2=>?_,λe2=>?_⟩
  ·have M:r<y.length:=ω;have D:y.drop r=y.getD r []::y.drop (r+1):=by simp_all
   have d:cA (y.getD r []):=v _ (by grind);rw[D,nf] at i5;generalize y.getD r []=l at*
   refine⟨e2,d,λq=>?_,λq=>?_⟩
   ·grind
   ·rw[Zaa (by grind)] at i5;obtain⟨t,h,L,u⟩:=jq q;have ht:q_ l=t:=by
     have:=kk (a:=0) (r:=[]) h (show l.drop 0=aE t++[] by grind);assumption
    have f:(mf (l.length:Int) (0:Int)).length=l.length:=by simp[mf]
    have g:M9 ⟨l,mf (l.length:Int) 0,0⟩:=⟨ZaQ _,f,u,t,[],h,by grind⟩;have K:nr.t ⟨l,mf (l.length:Int) 0,0⟩=t:=by assumption
    have H:∀s:List Int,s.length=l.length->kB (mf (l.length:Int) 0) 0 s=s:=λs hs=>by
     grind [kB]
    have F:(aE t).length=l.length:=by rw[L]
    have dd:Fa ⟨l,mf (l.length:Int) 0,0⟩=jO t:=by grind [Fa,aJ,Ej]
    have j:Hq ⟨l,mf (l.length:Int) 0,0⟩=ql t 0:=by grind [Hq,aJ,Ek]
    have p:0<l.length:=by grind [sj]
    have k:(jO t).getD 0 0=eO (bt t):=by rw[qZ];rfl
    rw[ht] at i5;rw[dd,j,k,f];have B:=Ht (bt t);rw[bG (a:=(c.length:Int)) (b:=eO (bt t)) ω ω,bG ω ω];have o:eO (bt t)=min (bt t:Int) 401:=rfl;refine⟨ω,ω,g,g,ω,λA=>?_,λA=>?_⟩
    ·grind
    ·rw[Zaa ω] at i5;have m:AtK ⟨c++[aV.mk 4 0 0 []],l,jO t,ql t 0⟩ 0 t:=⟨u,d,h,by grind,⟨[],by grind⟩,⟨[],by simp⟩,⟨[],by simp⟩⟩;have w:ig (⟨c++[aV.mk 4 0 0 []],l,jO t,ql t 0⟩,(0:Int))=c++[aV.mk 4 0 0 []]++bT t (c++[aV.mk 4 0 0 []]).length:=m.cod;have G:lf (⟨c++[aV.mk 4 0 0 []],l,jO t,ql t 0⟩,(0:Int)):=m.nda;have C:=iQ t (c++[aV.mk 4 0 0 []]).length h;rw[w];have hs:c++[aV.mk 4 0 0 []]++bT t (c++[aV.mk 4 0 0 []]).length++[aV.mk 4 1 0 []]++[aV.mk 7 r 0 []]=c++qm t r c.length:=by
      unfold qm;simp
     have E:(c++qm t r c.length).length=c.length+bt t+3:=by
      grind
     refine⟨ω,by grind,G,?_,?_,⟨c++qm t r c.length,s++[(c.length:Int)],l,jO t,ql t 0,r+1⟩,rfl,bL ω,by rw[hs],rfl,rfl,rfl,hs,⟨show r+1<=y.length by omega,i2,show(c++qm t r c.length).length<=400 by omega,by simp[i4],i5⟩,show y.length-(r+1)<y.length-r by omega⟩
     ·grind
     ·grind
  ·grind [nf]
def Qh7 (a:Ok cK):Ok Hz:=okZ [GR,szC,enC,uK,Hv] f76 Qp6 ⟨QaN a,QpO,QpP,Kw,Qp9 .n⟩ Qqa
def nmB (c:UInt8):Bool:=(97<=c.toNat&&c.toNat<=122)||(65<=c.toNat&&c.toNat<=90)||(48<=c.toNat&&c.toNat<=57)||c.toNat==45||c.toNat==95||c.toNat==46
def iZ (s:By):Bool:=decide (s≠[])&&decide (s.length<=32)&&s.all nmB
def HA:bk D:=bP 111 By (λa _=>XE a) (λ_=>True) (λy=>[.str y]) λy=>.bool (iZ y)
def uO (y:By) (i:Nat):Prop:=i<=y.length/\∀j,j<i->nmB (y.getD j 0)
def Qqb (y:HA.Y):cU D:=⟨[],[],[(58,⟨Nat,[0,14],λi=>[(15,QtJ i)],[],λ_=>[],0,uO y,λi=>y.length-i⟩)],[],1,[]⟩
def Ng:bk D:=bP 78 By (λa _=>XE a) (λ_=>True) (λy=>[.str y]) λy=>.bool (iZ y)
def Qqd (y:Ng.Y):cU D:=⟨[],[],[(58,⟨Nat,[0],λi=>[(3,QtJ i)],[],λ_=>[],0,uO y,λi=>y.length-i⟩)],[],1,[]⟩
def B5 (l:List Row):Prop:=l.Pairwise λa b=>a.k<b.k
def HB:Row:=⟨[],0⟩
def lH (l:List Row) (k:By):Nat:=l.findIdx λr=>!decide (r.k<k)
def jQ (l:List Row) (k:By):Bool:=l.any λr=>decide (r.k=k)
def rb (l:List Row) (k:By) (v:Int):List Row:=if jQ l k=true then l.set (lH l k) ⟨(l.getD (lH l k) HB).k,v⟩ else l.take (lH l k)++⟨k,v⟩::l.drop (lH l k)
structure Wc where
 l:List Row
 k:By
 v:Int
def tbO (n:Nat) (l:List Row):List (Nat×AO D.E):=[(0,.cells [.own n 2 (ah l)] 271 false),(n,.arr 16 l 275 false)]
def QdJ (v:AV D.E) (s:St D.E):C (List Row):=match v with
 | .ptr b _=>aA (cN (s.h.get b)) λo=>match o with
  | .cells cs _ _=>match cs with
   | [c]=>aA (aW D s 16 c) λc=>.ret (c:List Row)
   | _=>.fail
  | _=>.fail
 | _=>.fail
def TbP (y:Wc):Prop:=B5 y.l/\y.l.length<=1000
def Nh:bk D:=⟨171,Wc,λa s=>match a with
 | [p,k]=>aA (QdJ p s) λl=>aA (gR k) λk=>.ret ⟨l,k,0⟩
 | _=>.fail,TbP,λy=>[.ptr 0 0,.str y.k],λy=>tbO 1 y.l,λy=>.tuple [QtJ (lH y.l y.k),.bool (jQ y.l y.k)],λy=>tbO 1 y.l,2,2⟩
def TI (y:Wc) (x:Nat×Nat):Prop:=x.1<=x.2/\x.2<=y.l.length/\(∀j,j<x.1->(y.l.getD j HB).k<y.k)/\∀j,x.2<=j->j<y.l.length->¬(y.l.getD j HB).k<y.k
def Qqf (y:Nh.Y):cU D:=⟨[],[],[(28,⟨Nat×Nat,[0,1],λx=>[(6,QtJ x.1),(7,QtJ x.2)],[],λ_=>tbO 1 y.l,2,TI y,λx=>x.2-x.1⟩)],[],1,[]⟩
def HC:bk D:=⟨112,Wc,λa s=>match a with
 | [p,k,v]=>aA (QdJ p s) λl=>aA (gR k) λk=>aQ (da v) λ_ v=>.ret ⟨l,k,v⟩
 | _=>.fail,TbP,λy=>[.ptr 0 0,.str y.k,QtJ y.v],λy=>tbO 1 y.l,λy=>.bool (!jQ y.l y.k),λy=>tbO 2 (rb y.l y.k y.v),2,3⟩
def TJ:bk D:=⟨110,Unit,λ_ _=>.ret (),λ_=>True,λ_=>[],λ_=>[],λ_=>.ptr 0 0,λ_=>[(0,.cells [.own 1 2 0] 271 false),(1,.arr 16 [] 275 false)],0,2⟩
structure cF where
 r:List rW
 c:By
def Qa5 (a:List (AV D.E)) (s:St D.E):C cF:=match a with
 | [x]=>aA (asAgg x) λcs=>match cs with
  | [r,c]=>aA (aW D s 3 r) λr=>aA (gR c) λc=>.ret ⟨r,c⟩
  | _=>.fail
 | _=>.fail
def HD (y:cF):AV D.E:=.agg [.list 3 y.r,.str y.c]
def TK:bk D:=bP 74 cF Qa5 (λy=>y.r.length<=1000) (λy=>[HD y]) HD
def TL (y:List UInt8):Prop:=let c:=y.length;let h:=λp:Prop=>RAQ y (dS y) p;ak (seq y []) (false=iZ y/\True) (ak (az 32 (dS y)) (false=iZ y/\True) ((∃z:Nat,h (0=(z:Int)/\(Iv (uO y z))))/\(∀x:Nat,let a:=sat y (x:Int);let d:=az (x:Int) (dS y);let b:Prop:=(∃z:Nat,h (aD .i64 (x:Int) 1=(z:Int)/\(Iv (uO y z/\(c-z)<(c-x)))));let e:Prop:=(ak (aC a 45) (b) (ak (aC a 95) (b) (ak (!(aC a 46)) (false=iZ y/\True) (b))));let f:Prop:=(ak (aI 48 a) (ak (aI a 57) (b) (e)) (e));let g:Prop:=(ak (aI 65 a) (ak (aI a 90) (b) (f)) (f));(Iv (uO y x))->ak d (aI 0 (x:Int)/\d/\ak (aI 97 a) (ak (aI a 122) (b) (g)) (g)) (true=iZ y/\True))))
def TM (y:List UInt8):Prop:=let c:=y.length;let h:=λp:Prop=>RAP y p;ak (seq y []) (false=iZ y/\True) (ak (az 32 (dS y)) (false=iZ y/\True) ((∃z:Nat,h (0=(z:Int)/\(Iv (uO y z))))/\(∀x:Nat,let a:=sat y (x:Int);let d:=az (x:Int) (dS y);let b:Prop:=(∃z:Nat,h (aD .i64 (x:Int) 1=(z:Int)/\(Iv (uO y z/\(c-z)<(c-x)))));let e:Prop:=(ak (!(aC a 45)) (ak (!(aC a 95)) (ak (!(aC a 46)) (false=iZ y/\True) (b)) (b)) (b));let f:Prop:=(ak (az a 48) (e) (ak (az 57 a) (e) (b)));let g:Prop:=(ak (az a 65) (f) (ak (az 90 a) (f) (b)));(Iv (uO y x))->ak d (aI 0 (x:Int)/\d/\ak (az a 97) (g) (ak (az 122 a) (g) (b))) (true=iZ y/\True))))
def TN (y:Wc):Prop:=let b:=ah y.l;let d:=λp:Prop=>RAQ b y.l p;RAP b ((∃z:Nat×Nat,aa [y.k] (0=(z.1:Int)/\b=(z.2:Int)/\d ((Iv (TI y z)))))/\(∀x:Nat×Nat,let a:=(x.1:Int);let e:=(x.2:Int);let c:=Wm .i64 (aD .i64 a e) 2;let f:=slt (gt (Row.mk [] 0) y.l c.toNat).k y.k;(Iv (TI y x))->ak (az a e) (Tt 1 (aI 0 c/\az c b/\ak f (∃z:Nat×Nat,aa [y.k] (aD .i64 c 1=(z.1:Int)/\e=(z.2:Int)/\d ((Iv (TI y z/\(z.2-z.1)<(x.2-x.1)))))) (∃z:Nat×Nat,aa [y.k] (a=(z.1:Int)/\c=(z.2:Int)/\d ((Iv (TI y z/\(z.2-z.1)<(x.2-x.1)))))))) (ak (az a b) (aI 0 a/\az a b/\aa [b,b] (aa [(gt (Row.mk [] 0) y.l a.toNat).k] (a=((lH y.l y.k:Nat):Int)/\seq (gt (Row.mk [] 0) y.l a.toNat).k y.k=jQ y.l y.k/\d (True)))) (aa [b] (a=((lH y.l y.k:Nat):Int)/\false=jQ y.l y.k/\d (True))))))
def Qa6 (y:Unit):Prop:=(0:Int)=(0:Int)/\aa ([[]]:List (List Row)) (True)
def Qa7 (y:cF):Prop:=bF (ah y.r) 32/\aa [y.r] (aa [y.c] (True))
end
end sx
end Go.Proofs.YtiiiphndmbabcaaGreat
