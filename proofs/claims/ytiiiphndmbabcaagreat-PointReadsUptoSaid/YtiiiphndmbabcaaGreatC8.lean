/- PointReads: a part of the proof. -/
import Derived.Test.YtiiiphndmbabcaaGreatC7
set_option linter.all false
namespace Go.Proofs.YtiiiphndmbabcaaGreat
open Go.Proofs.Tryz
set_option maxRecDepth 100000
set_option maxHeartbeats 4000000
namespace sx
noncomputable section
open Go Go.RowKit cls syn
theorem bR (t:ah):ah.mk t.op t.r t.mn t.mx t.lz t.cap t.nk t.ae=t:=by cases t;rfl
theorem QqB (y:Int×List ah) (d:N5.pre y):UE y:=by
 obtain⟨op,c⟩:=y;unfold UE;simp only[bL,bC,au,dq,aC]
 match c with
 | []=>exact⟨λ_=>⟨rfl,rfl,rfl,rfl,rfl,rfl,rfl,rfl⟩,λh=>absurd rfl h⟩
 | [k]=>exact⟨λh=>by grind,λ_=>⟨λ_=>⟨by simp,rfl,rfl,rfl,rfl,rfl,rfl,rfl,rfl⟩,λh=>by grind⟩⟩
 | a::b::l=>exact⟨λh=>by grind,λ_=>⟨λh=>by grind,λ_=>⟨rfl,rfl,rfl,rfl,rfl,rfl,rfl,rfl⟩⟩⟩
def Qcv:Ok N5:=okZ [] f219 (λ_=>dY ()) trivial QqB
theorem QqC (y:Nd) (_:UD.pre y):UF y:=by
 grind [UF,eN]
def QjE:Ok UD:=okZ [] f223 (λ_=>dY ()) trivial QqC
theorem ID (op:Int) (a b:List ah):aF op (a++b)=aF op a++aF op b:=by grind [aF]
theorem la (op:Int) (l:List ah) (n:Nat):(aF op (l.take n)).length<=(aF op l).length:=by
 grind [List.take_append_drop,ID]
theorem cq {α:Type} {l:List α} {n:Nat} (d:α) (h:n<l.length):l.take (n+1)=l.take n++[l.getD n d]:=by
 simp_all
theorem QqD (y:Int×List ah) (c:N6.pre y):UG y:=by
 obtain⟨op,a⟩:=y;obtain⟨h1,d⟩:a.length<=1000000/\(aF op a).length<=1000000:=c;unfold UG;simp only[bL,bC,au,aT,br,dq,bR,Zad];refine⟨⟨0,by rfl,rfl,ω,by simp[aF]⟩,λx f=>⟨λe=>⟨ω,e,λb=>?_,λb=>?_⟩,λe=>?_⟩⟩
 ·have e:x<a.length:=ω;have ht:=cq bF e;have hs:aF op (a.take (x+1))=aF op (a.take x)++(a.getD x bF).ae:=by
   grind [aF]
  grind [la]
 ·have e:x<a.length:=ω;have ht:=cq bF e;have hs:aF op (a.take (x+1))=aF op (a.take x)++[a.getD x bF]:=by
   grind [aF]
  grind [la]
 ·grind
def QjF:Ok N6:=okZ [] f216 Qqv trivial QqD
theorem Bb {f:List Nd->Option (ah×List Nd)} (c:∀l t a,f l=some (t,a)->a.length<l.length):∀(k:Nat) (l:List Nd) (b:List ah) (a:List Nd),jI f k l=some (b,a)->a.length<=l.length
 | 0,l,b,a,h=>by cases h;exact Zah _
 | k+1,l,b,a,h=>by
  unfold jI at h;split at h
  ·cases h
  ·rename_i t g ht
   split at h
   ·cases h
   ·rename_i e i d
    cases h;have:=c _ _ _ ht;have:=Bb c k _ _ _ d;omega
theorem sI:∀(n:Nat) (l:List Nd) (t:ah) (a:List Nd),fN n l=some (t,a)->a.length<l.length
 | 0,_,_,_,h=>nomatch h
 | _+1,[],_,_,h=>nomatch h
 | n+1,x::l,t,a,h=>by
  unfold fN at h;split at h
  ·cases h
  ·rename_i d c b
   cases h;have:=Bb (sI n) _ _ _ _ b;simp;omega
theorem pB {f g:List Nd->Option (ah×List Nd)} (N:Nat) (b:∀l t a,f l=some (t,a)->a.length<l.length) (h:∀l,l.length<=N->f l=g l):∀(k:Nat) (l:List Nd),l.length<=N->jI f k l=jI g k l
 | 0,l,_=>rfl
 | k+1,l,hl=>by
  unfold jI;rw[<-h l hl];cases e:f l with
  | none=>rfl
  | some p=>
   obtain⟨t,a⟩:=p;have:=b _ _ _ e;simp only;rw[pB N b h k a ω]
theorem ET:∀(n m:Nat) (l:List Nd),l.length<=n->l.length<=m->fN n l=fN m l
 | 0,0,l,_,_=>rfl
 | 0,m+1,l,h,_=>by
  cases l with
  | nil=>rfl
  | cons a l=>simp at h
 | n+1,0,l,_,h=>by
  cases l with
  | nil=>rfl
  | cons a l=>simp at h
 | n+1,m+1,l,h1,b=>by
  cases l with
  | nil=>rfl
  | cons a l=>
   simp only[Zae] at h1 b;unfold fN;rw[pB l.length (sI n) (λc hl=>ET n m c ω ω) _ l (Zah _)]
theorem QqE (y:List Nd) (A:IB.pre y):UH y:=by
 obtain⟨h1,v⟩:y.length<=1000000/\(fN y.length y).isSome:=A;cases y with
 | nil=>cases v
 | cons X b=>
 have o:tM (X::b)=X:=rfl;obtain⟨a,c,q⟩:∃a c,jI (fN b.length) X.ae.toNat b=some (a,c):=by
  grind [fN]
 have n:cu (X::b)=(ah.mk X.op X.r X.mn X.mx X.lz X.cap X.ae a,c):=by
  grind [cu,aC,fN]
 unfold UH;rw[n,o];simp only[bL,bC,au,aT,br,dq,bR,Zad];have h:∀x,N7 (X::b) x↔(x.1.length=x.2.2/\x.2.2<=X.ae.toNat/\x.2.1.length<b.length+1/\x.1.length+x.2.1.length+1<=b.length+1/\∃j l,jI (fN x.2.1.length) (X.ae.toNat-x.2.2) x.2.1=some (j,l)/\x.1++j=a/\l=c):=λx=>by
  unfold N7;rw[n,o];exact ZbW
 have C:b.length+1<=1000000:=by assumption
 refine⟨by grind,by grind,⟨([],b,0),rfl,rfl,rfl,rfl,rfl,rfl,rfl,rfl,rfl,rfl,rfl,(h _).mpr ⟨rfl,Zaj _,Zbr _,by simp,a,c,q,rfl,rfl⟩⟩,λx z=>?_⟩;obtain⟨m,rest,i⟩:=x;obtain⟨c1,c2,c3,c4,j,l,c5,c6,c7⟩:=(h _).mp z;simp only at c1 c2 c3 c4 c5 c6 c7 ⊢;refine⟨λe=>?_,λe=>?_⟩
 ·rw[show X.ae.toNat-i=(X.ae.toNat-(i+1))+1 by omega] at c5;unfold jI at c5;cases f:fN rest.length rest with
  | none=>rw[f] at c5;cases c5
  | some p=>
   obtain⟨t,d⟩:=p;rw[f] at c5;simp only at c5;have u:cu rest=(t,d):=by grind [cu,aC]
   have w:=sI _ _ _ _ f;rw[pB (g:=fN d.length) d.length (sI _) (λB hl=>ET _ _ B ω hl) _ d (Zah _)] at c5;split at c5
   ·cases c5
   ·rename_i k D s
    cases c5;rw[u];refine⟨⟨⟨ω,rfl⟩,by assumption⟩,by grind,(m++[t],d,i+1),rfl,bK ω,rfl,(h _).mpr ⟨by grind,show i+1<=X.ae.toNat by omega,by grind,by grind,k,l,s,by grind,c7⟩,show X.ae.toNat-(i+1)<X.ae.toNat-i by omega⟩
 ·rw[show X.ae.toNat-i=0 by omega] at c5;cases c5;exact⟨rfl,rfl,rfl,rfl,rfl,rfl,rfl,show m=a by grind,c7⟩
def QjG:Ok IB:=RC (λy=>y.length) Z7 trivial QqE
theorem cG (a b:List ah):aA (a++b)=aA a++aA b:=by
 induction a with
 | nil=>simp[aA]
 | cons x a c=>simp[aA,c]
theorem bT (y:ah):aD y=⟨y.op,y.r,y.mn,y.mx,y.lz,y.cap,y.ae.length⟩::aA y.ae:=by
 cases y;rw[aD];rfl
theorem iP {y:ah} {n:Nat} (h:n<y.ae.length):dm (y.ae.getD n bF)<dm y:=by
 unfold dm;rw[aC,aC,eL h];have:=ZdR (Zas h);obtain⟨op,r,mn,mx,lz,cap,nk,a⟩:=y;grind [ah.ae]
theorem QqF (y:ah) (f:IC.pre y):UI y:=by
 obtain⟨h1,b⟩:(aD y).length<=1000000/\∀x∈aD y,iO x:=f;have i:y.r.length<=1000000:=by
  have:=b ⟨y.op,y.r,y.mn,y.mx,y.lz,y.cap,y.ae.length⟩ (by grind [bT]);exact this
 unfold UI;simp only[bL,bC,au,aT,br,dq,bR,Zad,pA,dg,aC];have key:∀l:List ah,l.length<=(aA l).length:=by
  intro l
  induction l with
  | nil=>simp
  | cons a l k=>simp only[aA,Zab,Zae];rw[bT];simp;omega
 have h0:=h1;rw[bT] at h1;simp only[Zae] at h1;have hk:=key y.ae;refine⟨ω,⟨0,rfl,rfl,Zaj _⟩,λx j=>⟨λe=>?_,λe=>?_⟩⟩
 ·have e:x<y.ae.length:=ω;have ht:=cq bF e;have g:y.ae=y.ae.take x++(y.ae.getD x bF::y.ae.drop (x+1)):=by
   simp_all
  have c:aA y.ae=aA (y.ae.take x)++(aD (y.ae.getD x bF)++aA (y.ae.drop (x+1))):=by
   grind [cG,aA]
  have hs:aA (y.ae.take (x+1))=aA (y.ae.take x)++aD (y.ae.getD x bF):=by
   grind [cG,aA]
  have hlen:=ZaR List.length c;simp only[Zab] at hlen;have d:y.ae.getD x (ah.mk 0 [] 0 0 false 0 0 [])=y.ae.getD x bF:=rfl;rw[d];refine⟨ω,e |> λh=>ω,⟨⟨ω,λz hz=>b z ?_⟩,iP e⟩,?_,x+1,?_,bK ω,ω,ω⟩
  ·grind [bT]
  ·grind
  ·grind
 ·grind [bT]
def QjH:Ok IC:=RC dm Z8 trivial QqF
mutual
def ql:ah->Bool
 | .mk op _ _ _ _ _ _ ks=>op==6||kg ks
def kg:List ah->Bool
 | []=>false
 | t::ts=>ql t||kg ts
end
mutual
def UJ:ah->ah->Bool
 | .mk op r mn mx lz cap _ ks,b=>op==b.op&&mn==b.mn&&mx==b.mx&&lz==b.lz&&cap==b.cap&&decide (r=b.r)&&decide (ks.length=b.ae.length)&&sJ ks b.ae
def sJ:List ah->List ah->Bool
 | [],_=>true
 | a::l,b::m=>UJ a b&&sJ l m
 | _::_,[]=>false
end
variable {l:List ah} {i:Nat} {p:ah->Bool}
def fo (t:ah):Bool:=lk (ql t)
def ow (a b:ah):Bool:=lk (UJ a b)
def dT (l:List ah):Prop:=(aA l).length<=1000000/\∀x∈aA l,iO x
def uM (l:List ah):Nat:=lk (SizeOf.sizeOf l)
def yy (p:ah->Bool) (l:List ah):Int:=if l.findIdx p<l.length then l.findIdx p else-1
def vp (a:List (AV D.E)):C ah:=match a with
 | [t]=>IA t
 | _=>.fail
def QjI (a:List (AV D.E)) (s:St D.E):C (List ah):=match a with
 | [l,_]=>az (aL D s 15 l) λl=>.ret (l:List ah)
 | _=>.fail
def N8:bh D:=bO 222 ah (λa _=>vp a) dO (λy=>[.agg (D.a_ 15 y)]) λy=>.bool (fo y)
def UK:bh D:=bO 251 (List ah) QjI dT (λy=>[.list 15 y,.func (.func 222) [] []]) λy=>.bool (y.any fo)
def N9:bh D:=bO 249 (List ah) QjI dT (λy=>[.list 15 y,.func (.func 222) [] []]) λy=>Qvo (yy fo y)
def QjJ (y:N9.Y):cH D:=⟨[],[],[(26,{ X:=Nat,aO:=[0,1,7],sl:=λi=>[(8,Qvo i)],kp:=[],pc:=λ_=>[],nx:=0,inv:=λi=>i<=y.length/\∀j,j<i->fo (y.getD j bF)=false,me:=λi=>y.length-i })],[],1,[]⟩
def fgT (n:Nat):s7:=[N8.under (λy=>3*dm y) n,UK.under (λy=>3*uM y+2) n,N9.under (λy=>3*uM y+1) n]
def QqH (y:N8.Y):Prop:=vc (fgT (3*dm y)++[]) f222 N8 (λ_=>dY ()) y
def QqI (y:UK.Y):Prop:=vc (fgT (3*uM y+2)++[]) f251 UK (λ_=>dY ()) y
def QqJ (y:N9.Y):Prop:=vc (fgT (3*uM y+1)++[]) f249 N9 QjJ y
def QjK (a:List (AV D.E)):C (ah×ah):=match a with
 | [t,u]=>az (IA t) λx=>az (IA u) λy=>.ret (x,y)
 | _=>.fail
def QqK (a:List (AV D.E)) (s:St D.E):C (List ah×List ah):=match a with
 | [l,m,_]=>az (aL D s 15 l) λl=>az (aL D s 15 m) λm=>.ret ((l:List ah),(m:List ah))
 | _=>.fail
def N':bh D:=bO 253 (ah×ah) (λa _=>QjK a) (λy=>dO y.1) (λy=>[.agg (D.a_ 15 y.1),.agg (D.a_ 15 y.2)]) λy=>.bool (ow y.1 y.2)
def smL (l m:List ah):Bool:=lk (decide (l.length=m.length)&&sJ l m)
def N_:bh D:=bO 276 (List ah×List ah) QqK (λy=>dT y.1) (λy=>[.list 15 y.1,.list 15 y.2,.func (.func 253) [] []]) λy=>.bool (smL y.1 y.2)
def Z9 (y:List ah×List ah) (i:Nat):Prop:=i<=y.1.length/\y.1.length=y.2.length/\sJ (y.1.drop i) (y.2.drop i)=sJ y.1 y.2
def QjL (y:N_.Y):cH D:=⟨[],[],[(58,⟨Nat,[0,1,2,15,16],λi=>[(17,Qvo i)],[],λ_=>[],0,Z9 y,λi=>y.1.length-i⟩)],[],1,[]⟩
def fsT (n:Nat):s7:=[N'.under (λy=>2*dm y.1) n,N_.under (λy=>2*uM y.1+1) n]
def QqL (y:N'.Y):Prop:=vc (fsT (2*dm y.1)++[Et]) f253 N' (λ_=>dY ()) y
def QqM (y:N_.Y):Prop:=vc (fsT (2*uM y.1+1)++[]) f276 N_ QjL y
def UL (y:ah):Prop:=aj (aB y.op 6) (true=fo y/\True) (Iv (dT y.ae/\((3*uM y.ae)+2)<(3*dm y))/\aa [y.ae] (List.any y.ae fo=fo y/\True))
def Z':∀y,UL y=QqH y:=λy=>by kernel_rfl
def UM (y:List ah):Prop:=Iv (dT y/\((3*uM y)+1)<((3*uM y)+2))/\aa [y] (aG 0 (yy fo y)=List.any y fo/\True)
def Z_:∀y,UM y=QqI y:=λy=>by kernel_rfl
def UN (y:List ah):Prop:=let u:=λz:Nat=>(∀j:Nat,(Nat.le (Nat.succ j) z)->fo (List.getD y j bF)=false);(∃z:Nat,RAH y (ag y) (0=(z:Int)/\(Iv (z<=y.length/\u z))))/\(∀x:Nat,let b:=y.length;let q1:=aw (x:Int) (ag y);let a:=gt (ah.mk 0 [] 0 0 false 0 0 []) y (x:Int).toNat;let c:=ah.mk a.op a.r a.mn a.mx a.lz a.cap a.nk a.ae;(Iv (x<=b/\(∀j:Nat,(Nat.le (Nat.succ j) x)->fo (List.getD y j bF)=false)))->aj q1 (aG 0 (x:Int)/\q1/\Iv (dO c/\(3*dm c)<((3*uM y)+1))/\RA0 a (RAG a.ae (aj (fo c) ((x:Int)=yy fo y/\True) (∃z:Nat,aa [y] (aa [ag y] (ay .i64 (x:Int) 1=(z:Int)/\(Iv ((z<=b/\u z)/\(b-z)<(b-x))))))))) ((-1)=yy fo y/\True))
def δ:∀y,UN y=QqJ y:=λy=>by kernel_rfl
def UO (y:ah×ah):Prop:=let a:=y.1.ae;let q1:=!(aB y.1.mx y.2.mx);let b:=!(aB y.1.cap y.2.cap);let c:=!(aB y.1.op y.2.op);let d:=!(oD y.1.lz y.2.lz);let e:=!(aB y.1.mn y.2.mn);let f:=!(decide (y.1.r=y.2.r));RA0 y.1 (RA0 y.2 (RA0 y.2 (aj c (false=ow y.1 y.2/\True) (aj e (false=ow y.1 y.2/\True) (aj q1 (false=ow y.1 y.2/\True) (aj d (false=ow y.1 y.2/\True) (aj b (false=ow y.1 y.2/\True) (Iv True/\aa [y.1.r,y.2.r] (aj f (false=ow y.1 y.2/\True) (Iv (dT a/\((2*uM a)+1)<(2*dm y.1))/\aa [a,y.2.ae] (smL a y.2.ae=ow y.1 y.2/\True)))))))))))
def ε:∀y,UO y=QqL y:=λy=>by kernel_rfl
def UP (y:(List ah)×(List ah)):Prop:=let c:=ag y.1;let q1:=!(aB c (ag y.2));aj q1 (false=smL y.1 y.2/\True) ((∃z:Nat,aa [y.1,y.2,y.1] (aa [c] (0=(z:Int)/\(Iv (Z9 y z)))))/\(∀x:Nat,let a:=gt (ah.mk 0 [] 0 0 false 0 0 []) y.2 (x:Int).toNat;let b:=gt (ah.mk 0 [] 0 0 false 0 0 []) y.1 (x:Int).toNat;let d:=ah.mk b.op b.r b.mn b.mx b.lz b.cap b.nk b.ae;let e:=!(ow d (ah.mk a.op a.r a.mn a.mx a.lz a.cap a.nk a.ae));(Iv (Z9 y x))->aj (aw (x:Int) c) (aG 0 (x:Int)/\aw (x:Int) c/\aG 0 (x:Int)/\aw (x:Int) (ag y.2)/\Iv (dO d/\(2*dm d)<((2*uM y.1)+1))/\aa [b.op] (aa [b.r] (aa [b.mn,b.mx] (aa [b.lz] (aa [b.cap,b.nk] (aa [b.ae] (aa [a.op] (aa [a.r] (aa [a.mn,a.mx] (aa [a.lz] (aa [a.cap,a.nk] (aa [a.ae] (aj e (false=smL y.1 y.2/\True) (∃z:Nat,aa [y.1,y.2,y.1] (aa [c] (ay .i64 (x:Int) 1=(z:Int)/\(Iv (Z9 y z/\(y.1.length-z)<(y.1.length-x))))))))))))))))))) (true=smL y.1 y.2/\True)))
def ζ:∀y,UP y=QqM y:=λy=>by kernel_rfl
theorem yz (y:ah):uM y.ae<dm y:=by
 unfold uM dm;rw[aC,aC];obtain⟨op,r,mn,mx,lz,cap,nk,a⟩:=y;grind [ah.ae]
def CC (h:i<l.length):dm (l.getD i bF)<uM l:=by
 unfold uM dm;rw[aC,aC,eL h];exact ZdR (Zas h)
theorem dO.ae {y:ah} (h:dO y):dT y.ae:=by
 obtain⟨h1,a⟩:=h;rw[bT] at h1;simp only[Zae] at h1;exact⟨ω,λx b=>a x (by grind [bT])⟩
theorem dT.get (h:dT l) {n:Nat} (d:n<l.length):dO (l.getD n bF):=by
 obtain⟨h1,a⟩:=h;have c:l=l.take n++(l.getD n bF::l.drop (n+1)):=by
  simp_all
 have b:aA l=aA (l.take n)++(aD (l.getD n bF)++aA (l.drop (n+1))):=by
  grind [cG,aA]
 have hlen:=ZaR List.length b;simp only[Zab] at hlen;exact⟨ω,λx e=>a x (by grind)⟩
theorem tN (l:List ah):l.length<=(aA l).length:=by
 induction l with
 | nil=>simp
 | cons a l b=>simp only[aA,Zab,Zae];rw[bT];simp;omega
def dT.len (h:dT l):l.length<=1000000:=Zav (tN l) h.1
theorem EU (l:List ah):kg l=l.any fo:=by
 induction l with
 | nil=>simp[kg]
 | cons a l b=>rw[kg,ZdX,b];congr 1;unfold fo;rw[aC]
def UQ (y:ah):fo y=(y.op==6||y.ae.any fo):=by
 rw[<-EU];unfold fo;rw[aC];cases y;rfl
theorem QqN (y:ah) (a:N8.pre y):UL y:=by
 have a:dO y:=a;unfold UL;simp only[bC,oo,oq];rw[UQ];have:=yz y;refine⟨λh=>by grind,λh=>⟨⟨a.ae,ω⟩,?_⟩⟩;grind
theorem UR (h:∀j,j<l.length->p (l.getD j bF)=false):yy p l= -1:=by
 grind [yy]
theorem US (hi:i<l.length) (h:p (l.getD i bF)) (a:∀j,j<i->p (l.getD j bF)=false):yy p l=(i:Int):=by
 grind [List.findIdx_eq,yy]
theorem UT (p:ah->Bool) (l:List ah):aG 0 (yy p l)=l.any p:=by
 grind [yy]
def QqO (y:List ah) (a:UK.pre y):UM y:=by
 unfold UM;simp only[dw,Zai,kU];exact⟨⟨a,ω⟩,UT _ _⟩
theorem QqP (y:List ah) (a:N9.pre y):UN y:=by
 have a:dT y:=a;have hl:=a.len;unfold UN;simp only[bL,bC,au,dq,bR,Zad];refine⟨⟨0,rfl,Zaj _,λj d=>absurd d (Zbo _)⟩,λx ⟨g,c⟩=>⟨λe=>?_,λe=>?_⟩⟩
 ·have b:x<y.length:=ω;have c:∀j,j<x->fo (y.getD j bF)=false:=c;have hk:=CC b;have f:y.getD x (ah.mk 0 [] 0 0 false 0 0 [])=y.getD x bF:=rfl;rw[f];refine⟨ω,e,⟨a.get b,ω⟩,λh=>(US b h c).symm,λh=>⟨x+1,bK ω,⟨ω,λj d=>?_⟩,ω⟩⟩;grind
 ·grind [UR]
inductive Fg where
 | g | c | i
noncomputable section
def fgC:Fg->bh D
 | .g=>N8 | .c=>UK | .i=>N9
def QqQ:∀i,(fgC i).Y->Nat
 | .g=>λy=>3*dm y | .c=>λy=>3*uM y+2 | .i=>λy=>3*uM y+1
def fgF:Fg->Func
 | .g=>f222 | .c=>f251 | .i=>f249
def fgO:∀i,(fgC i).Y->cH D
 | .g=>λ_=>dY () | .c=>λ_=>dY () | .i=>QjJ
def QqR:∀i,Ok (fgC i):=
 xH [.g,.c,.i] fgC QqQ (fn:=fgF) (tab:=λ_=>[]) (fI:=fgO) (λ_=>trivial)
  (λi=>match i with
   | .g=>by kernel_rfl | .c=>by kernel_rfl | .i=>by kernel_rfl)
  (λi=>match i with
   | .g=>by kernel_rfl | .c=>by kernel_rfl | .i=>by kernel_rfl)
  λi=>match i with
   | .g=>λy a=>Eq.mp (Z' y) (QqN y a) | .c=>λy a=>Eq.mp (Z_ y) (QqO y a) | .i=>λy a=>Eq.mp (δ y) (QqP y a)
end
def QjM (a b:ah):ow a b=(a.op==b.op&&a.mn==b.mn&&a.mx==b.mx&&a.lz==b.lz&&a.cap==b.cap&&decide (a.r=b.r)&&smL a.ae b.ae):=by
 unfold ow smL;rw[aC,aC];obtain⟨op,r,mn,mx,lz,cap,nk,c⟩:=a;rw[UJ];rw[Bool.and_assoc (_&&decide (r=b.r))];rfl
theorem QqS (y:ah×ah) (c:N'.pre y):UO y:=by
 obtain⟨a,b⟩:=y;have c:dO a:=c;have:=yz a;unfold UO;simp only[bC,oo,oq,Zan,Zao,ZaP,Zbi,oD];rw[QjM];refine⟨λh=>?_,λh1=>⟨λh=>?_,λd=>⟨λh=>?_,λe=>⟨λh=>?_,λf=>⟨λh=>?_,λg=>⟨λh=>?_,λi=>⟨⟨c.ae,ω⟩,?_⟩⟩⟩⟩⟩⟩⟩
 ·grind
 ·grind
 ·grind
 ·grind
 ·grind
 ·grind
 ·grind
theorem Oa {l m:List ah} {i:Nat} (h1:i<l.length) (a:i<m.length):sJ (l.drop i) (m.drop i)=(ow (l.getD i bF) (m.getD i bF)&&sJ (l.drop (i+1)) (m.drop (i+1))):=by
 grind [List.drop_eq_getElem_cons,sJ,ow,aC]
theorem QqT (y:List ah×List ah) (c:N_.pre y):UP y:=by
 obtain⟨a,b⟩:=y;have c:dT a:=c;have hl:=c.len;unfold UP;simp only[bL,bC,au,dq,bR,Zad,Zan,Zao,smL,aC];refine⟨λh=>by grind,λh=>?_⟩;have h:a.length=b.length:=ω;rw[ZaK h,ZbI];refine⟨⟨0,rfl,Zaj _,h,rfl⟩,λx g=>?_⟩;obtain⟨i1,i2,i3⟩:x<=a.length/\a.length=b.length/\sJ (a.drop x) (b.drop x)=sJ a b:=g;refine⟨λe=>?_,λe=>?_⟩
 ·have d:x<a.length:=ω;have hk:=CC d;have f:∀l:List ah,l.getD x (ah.mk 0 [] 0 0 false 0 0 [])=l.getD x bF:=λ_=>rfl
  rw[f,f];rw[Oa d ω] at i3;refine⟨ω,e,ω,ω,⟨c.get d,ω⟩,λq=>?_,λq=>⟨x+1,bK ω,⟨show x+1<=a.length by omega,h,?_⟩,ω⟩⟩
  ·grind
  ·grind
 ·grind [sJ]
inductive Fs where
 | s | e
noncomputable section
def fsC:Fs->bh D
 | .s=>N' | .e=>N_
def QqU:∀i,(fsC i).Y->Nat
 | .s=>λy=>2*dm y.1 | .e=>λy=>2*uM y.1+1
def fsF:Fs->Func
 | .s=>f253 | .e=>f276
def QjN:Fs->s7
 | .s=>[Et] | .e=>[]
def fsO:∀i,(fsC i).Y->cH D
 | .s=>λ_=>dY () | .e=>QjL
def QqV:∀i,Ok (fsC i):=
 xH [.s,.e] fsC QqU (fn:=fsF) (tab:=QjN) (fI:=fsO)
  (λi=>match i with
   | .s=>Qb6 | .e=>trivial)
  (λi=>match i with
   | .s=>by kernel_rfl | .e=>by kernel_rfl)
  (λi=>match i with
   | .s=>by kernel_rfl | .e=>by kernel_rfl)
  λi=>match i with
   | .s=>λy a=>Eq.mp (ε y) (QqS y a) | .e=>λy a=>Eq.mp (ζ y) (QqT y a)
end
abbrev uN (l:List ah):List (Nat×AO D.E):=[(0,.arr 15 l 209 false)]
def Ob:bh D:=⟨216,Int×List ah,Qfa,λy=>y.2.length<=1000000/\(aF y.1 y.2).length<=1000000,λy=>[Qvo y.1,.list 15 y.2],λ_=>[],λy=>.own 0 8 (ag (aF y.1 y.2)),λy=>uN (aF y.1 y.2),0,1⟩
def QqW (y:Ob.Y):cH D:=⟨[],[6,7],[(58,⟨Nat,[0,8,9],λx=>[(5,.own 0 8 (ag (aF y.1 (y.2.take x)))),(10,Qvo x)],[],λx=>uN (aF y.1 (y.2.take x)),1,λx=>x<=y.2.length/\(aF y.1 (y.2.take x)).length<=1000000,λx=>y.2.length-x⟩)],[],1,[]⟩
def wg (t:ah):Bool:=t.op==1
def UU:bh D:=bO 218 ah (λa _=>vp a) (λ_=>True) (λy=>[.agg (D.a_ 15 y)]) λy=>.bool (wg y)
def QjO (v:AV D.E) (s:St D.E):C (List ah):=match v with
 | .own b _ _=>az (kB s b) λa=>az (gQ 15 a.c a.xs) λl=>.ret (l:List ah)
 | _=>.fail
def QjP (a:List (AV D.E)) (s:St D.E):C (List ah):=match a with
 | [l,_]=>QjO l s
 | _=>.fail
abbrev QjQ (y:List ah):List (AV D.E):=[.own 0 8 (ag y),.func (.func 218) [] []]
def Oc:bh D:=⟨249,List ah,QjP,λy=>y.length<=1000000,QjQ,uN,λy=>Qvo (yy wg y),uN,1,1⟩
def QqZ (y:Oc.Y):cH D:=⟨[],[],[(26,{ X:=Nat,aO:=[1,7],sl:=λi=>[(0,.own 0 8 (ag y)),(8,Qvo i)],kp:=[],pc:=λ_=>uN y,nx:=1,inv:=λi=>i<=y.length/\∀j,j<i->wg (y.getD j bF)=false,me:=λi=>y.length-i })],[],1,[]⟩
def hV (y:List ah):List ah:=y.filter λt=>!wg t
def Od:bh D:=⟨217,List ah,QjP,λy=>y.length<=1000000,QjQ,uN,λy=>.list 15 (lk (hV y)),λ_=>[],1,1⟩
def UW (y:List ah) (x:List ah×Nat×Nat):Prop:=x.1.length=y.length/\x.2.1<=x.2.2/\x.2.2<=y.length/\x.1.take x.2.1=hV (y.take x.2.2)/\x.1.drop x.2.2=y.drop x.2.2
def Qq1 (y:Od.Y):cH D:=⟨[],[],[(122,⟨List ah×Nat×Nat,[1],λx=>[(0,.own 0 8 (ag y)),(5,Qvo x.2.1),(6,Qvo x.2.2)],[],λx=>uN x.1,1,UW y,λx=>y.length-x.2.2⟩)],[],1,[]⟩
def EV (t:ah):ah:=im 3 (hV (aF 3 t.ae))
def ctC:bh D:=bO 179 ah (λa _=>vp a) (λy=>y.ae.length<=1000000/\(aF 3 y.ae).length<=1000000) (λy=>[.agg (D.a_ 15 y)]) λy=>.agg (D.a_ 15 (lk (EV y)))
abbrev rA (k:ah):List (Nat×AO D.E):=[(0,.cells (D.a_ 15 k) 209 false)]
def UX (v:AV D.E) (s:St D.E):C ah:=match v with
 | .ptr b _=>az (cR (s.h.get b)) λo=>match o with
  | .cells cs _ _=>uW D 15 cs
  | _=>.fail
 | _=>.fail
def UY:bh D:=⟨252,ah×ah,λa s=>match a with
 | [x,p]=>az (IA x) λx=>az (UX p s) λk=>.ret (x,k)
 | _=>.fail,λy=>dO y.1,λy=>[.agg (D.a_ 15 y.1),.ptr 0 0],λy=>rA y.2,λy=>.bool (ow y.1 y.2),λy=>rA y.2,1,1⟩
def QjS (a:List (AV D.E)) (s:St D.E):C (List ah×ah):=match a with
 | [l,f]=>match f with
  | .func _ _ c=>match c with
   | [p]=>az (aL D s 15 l) λl=>az (UX p s) λk=>.ret ((l:List ah),k)
   | _=>.fail
  | _=>.fail
 | _=>.fail
abbrev QjT (y:List ah×ah):List (AV D.E):=[.list 15 y.1,.func (.func 252) [] [.ptr 0 0]]
variable {l:List ah} {a:Nat} {k:ah}
def Oe:bh D:=⟨249,List ah×ah,QjS,λy=>dT y.1,QjT,λy=>rA y.2,λy=>Qvo (yy (λx=>ow x y.2) y.1),λy=>rA y.2,1,1⟩
def Qq4 (y:Oe.Y):cH D:=⟨[],[],[(26,{ X:=Nat,aO:=[0,7],sl:=λi=>[(1,.func (.func 252) [] [.ptr 0 0]),(8,Qvo i)],kp:=[],pc:=λ_=>rA y.2,nx:=1,inv:=λi=>i<=y.1.length/\∀j,j<i->ow (y.1.getD j bF) y.2=false,me:=λi=>y.1.length-i })],[],1,[]⟩
def UZ:bh D:=⟨251,List ah×ah,QjS,λy=>dT y.1,QjT,λy=>rA y.2,λy=>.bool (y.1.any λx=>ow x y.2),λy=>rA y.2,1,1⟩
def eo (out:List ah):List ah->List ah
 | []=>out
 | k::l=>eo (if out.any (λx=>ow x k) then out else out++[k]) l
def Of:bh D:=bO 221 (List ah) (λa s=>match a with
 | [l]=>az (aL D s 15 l) λl=>.ret (l:List ah)
 | _=>.fail) dT (λy=>[.list 15 y]) λy=>.list 15 (eo [] y)
def U0 (y:List ah) (x:List ah×Nat):Prop:=x.2<=y.length/\eo x.1 (y.drop x.2)=eo [] y/\(aA x.1).length<=(aA (y.take x.2)).length/\∀n∈aA x.1,iO n
def Qq7 (y:Of.Y):cH D:=⟨[],[],[(58,⟨List ah×Nat,[6,7],λx=>[(3,.grow 15 x.1 0),(8,Qvo x.2)],[],λ_=>[(0,.tok 15 209)],1,U0 y,λx=>y.length-x.2⟩)],[],1,[]⟩
def U1 (y:Int×(List ah)):Prop:=let b:=y.2.length;let q1:=ag y.2;let h:=λp:Prop=>aa [y.1] (aa [y.2] (aa [q1] p));(∃z:Nat,let d:=aF y.1 (List.take z y.2);h (0=ag d/\0=(z:Int)/\[]=d/\(Iv (z<=b/\d.length<=1000000))))/\(∀x:Nat,let c:=aF y.1 (List.take x y.2);let a:=gt (ah.mk 0 [] 0 0 false 0 0 []) y.2 (x:Int).toNat;let i:=ag (bM c a.ae);let e:=bM c [ah.mk a.op a.r a.mn a.mx a.lz a.cap a.nk a.ae];(Iv (x<=b/\c.length<=1000000))->aj (aw (x:Int) q1) (aG 0 (x:Int)/\aw (x:Int) q1/\aj (aB a.op y.1) (bJ i 96/\∃z:Nat,let f:=aF y.1 (List.take z y.2);h (i=ag f/\ay .i64 (x:Int) 1=(z:Int)/\bM c a.ae=f/\(Iv ((z<=b/\f.length<=1000000)/\(b-z)<(b-x))))) (bJ (ag e) 96/\∃z:Nat,let g:=aF y.1 (List.take z y.2);h (ag e=ag g/\ay .i64 (x:Int) 1=(z:Int)/\e=g/\(Iv ((z<=b/\g.length<=1000000)/\(b-z)<(b-x)))))) (ag c=ag (aF y.1 y.2)/\c=aF y.1 y.2/\True))
def QjU (y:ah):Prop:=
 aB y.op 1=wg y/\
 True
def U2 (y:List ah):Prop:=let u:=λz:Nat=>(∀j:Nat,(Nat.le (Nat.succ j) z)->wg (List.getD y j bF)=false);(∃z:Nat,aa [ag y,ag y] (0=(z:Int)/\aa [y] ((Iv (z<=y.length/\u z)))))/\(∀x:Nat,let b:=y.length;let q1:=aw (x:Int) (ag y);let a:=gt (ah.mk 0 [] 0 0 false 0 0 []) y (x:Int).toNat;let c:=wg (ah.mk a.op a.r a.mn a.mx a.lz a.cap a.nk a.ae);(Iv (x<=b/\(∀j:Nat,(Nat.le (Nat.succ j) x)->wg (List.getD y j bF)=false)))->aj q1 (aG 0 (x:Int)/\q1/\Iv True/\RA0 a (RAG a.ae (aj c ((x:Int)=yy wg y/\aa [y] (True)) (∃z:Nat,aa [ag y,ag y] (ay .i64 (x:Int) 1=(z:Int)/\aa [y] ((Iv ((z<=b/\u z)/\(b-z)<(b-x))))))))) ((-1)=yy wg y/\RAG y (True)))
def U3 (y:List ah):Prop:=let c:=ag y;let q1:=aB (yy wg y) (-1);let u:=ah.mk 0 [] 0 0 false 0 0 [];Iv (y.length<=1000000)/\RAH c y (aj q1 (y=lk (hV y)/\True) ((∃z:(List ah)×Nat×Nat,aa [c] (yy wg y=(z.2.1:Int)/\ay .i64 (yy wg y) 1=(z.2.2:Int)/\y=z.1/\(Iv (UW y z))))/\(∀x:(List ah)×Nat×Nat,let b:=(x.2.1:Int);let d:=(x.2.2:Int);let a:=gt u x.1 d.toNat;let e:=ah.mk a.op a.r a.mn a.mx a.lz a.cap a.nk a.ae;(Iv (UW y x))->aj (aw d c) (aG 0 d/\aw d c/\Iv True/\aa [a.op] (aa [a.r] (aa [a.mn,a.mx] (aa [a.lz] (aa [a.cap,a.nk] (aa [a.ae] (aj (!(wg e)) (aG 0 b/\aw b c/\∃z:(List ah)×Nat×Nat,aa [c] (ay .i64 b 1=(z.2.1:Int)/\ay .i64 d 1=(z.2.2:Int)/\cS x.1 b.toNat e=z.1/\(Iv (UW y z/\(y.length-z.2.2)<(y.length-x.2.2))))) (∃z:(List ah)×Nat×Nat,aa [c] (b=(z.2.1:Int)/\ay .i64 d 1=(z.2.2:Int)/\x.1=z.1/\(Iv (UW y z/\(y.length-z.2.2)<(y.length-x.2.2)))))))))))) (aG 0 b/\aG b c/\aG 0 b/\aG b c/\dE (Dm x.1 b (c-b) (oF (c-b) u)) b=lk (hV y)/\True))))
def Qfb (y:ah):Prop:=let a:=lk (EV y);let q1:=aF 3 y.ae;let c:=lk (hV q1);let b:=lk (im 3 c);Iv (y.ae.length<=1000000/\q1.length<=1000000)/\RAH (3:Int) y.ae (Iv (q1.length<=1000000)/\aa [ag q1] (aa [q1] (Iv (c.length<=1000000)/\aa ([3]:List Int) (aa [c] (b.op=a.op/\b.r=a.r/\b.mn=a.mn/\b.mx=a.mx/\b.lz=a.lz/\b.cap=a.cap/\b.nk=a.nk/\b.ae=a.ae/\True)))))
def U4 (y:ah×ah):Prop:=let a:=ah.mk y.1.op y.1.r y.1.mn y.1.mx y.1.lz y.1.cap y.1.nk y.1.ae;Iv (dO a)/\RA0 y.1 (RAG y.1.ae (RA0 y.2 (RAG y.2.ae (ow a (ah.mk y.2.op y.2.r y.2.mn y.2.mx y.2.lz y.2.cap y.2.nk y.2.ae)=ow y.1 y.2/\aa [y.2.op] (aa [y.2.r] (aa [y.2.mn,y.2.mx] (aa [y.2.lz] (aa [y.2.cap,y.2.nk] (aa [y.2.ae] (True))))))))))
def U5 (y:(List ah)×ah):Prop:=let b:=ag y.1;let q1:=y.1.length;let d:=yy (λ(x:ah)=>ow x y.2) y.1;let c:=λp:Prop=>aa [y.2.op] (aa [y.2.r] (aa [y.2.mn,y.2.mx] (aa [y.2.lz] (aa [y.2.cap,y.2.nk] (aa [y.2.ae] p)))));(∃z:Nat,aa [y.1] (aa [b] (0=(z:Int)/\c ((Iv (z<=q1/\(∀j:Nat,(Nat.le (Nat.succ j) z)->ow (List.getD y.1 j bF) y.2=false)))))))/\(∀x:Nat,let a:=gt (ah.mk 0 [] 0 0 false 0 0 []) y.1 (x:Int).toNat;let e:=ah.mk a.op a.r a.mn a.mx a.lz a.cap a.nk a.ae;let f:=ow e (ah.mk y.2.op y.2.r y.2.mn y.2.mx y.2.lz y.2.cap y.2.nk y.2.ae);(Iv (x<=q1/\(∀j:Nat,(Nat.le (Nat.succ j) x)->ow (List.getD y.1 j bF) y.2=false)))->aj (aw (x:Int) b) (aG 0 (x:Int)/\aw (x:Int) b/\Iv (dO e)/\aa [a.op] (aa [a.r] (aa [a.mn,a.mx] (aa [a.lz] (aa [a.cap,a.nk] (aa [a.ae] (aa [y.2.op] (aa [y.2.r] (aa [y.2.mn,y.2.mx] (aa [y.2.lz] (aa [y.2.cap,y.2.nk] (aa [y.2.ae] (aj f ((x:Int)=d/\c (True)) (∃z:Nat,aa [y.1] (aa [b] (ay .i64 (x:Int) 1=(z:Int)/\c ((Iv ((z<=q1/\(∀j:Nat,(Nat.le (Nat.succ j) z)->ow (List.getD y.1 j bF) y.2=false))/\(q1-z)<(q1-x)))))))))))))))))))) ((-1)=d/\c (True)))
def U6 (y:(List ah)×ah):Prop:=Iv (dT y.1)/\aa [y.1] (aa [y.2.op] (aa [y.2.r] (aa [y.2.mn,y.2.mx] (aa [y.2.lz] (aa [y.2.cap,y.2.nk] (aa [y.2.ae] (aG 0 (yy (λ(x:ah)=>ow x (ah.mk y.2.op y.2.r y.2.mn y.2.mx y.2.lz y.2.cap y.2.nk y.2.ae)) y.1)=List.any y.1 (λ(x:ah)=>ow x y.2)/\aa [y.2.op] (aa [y.2.r] (aa [y.2.mn,y.2.mx] (aa [y.2.lz] (aa [y.2.cap,y.2.nk] (aa [y.2.ae] (True)))))))))))))
def U7 (y:List ah):Prop:=let c:=λp:Prop=>RAH y (ag y) p;(∃z:(List ah)×Nat,c ([]=z.1/\0=(z.2:Int)/\(Iv (U0 y z))))/\(∀x:(List ah)×Nat,let q1:=(x.2:Int);let a:=gt (ah.mk 0 [] 0 0 false 0 0 []) y q1.toNat;let b:=ah.mk a.op a.r a.mn a.mx a.lz a.cap a.nk a.ae;let d:=!(List.any x.1 (λ(e:ah)=>ow e b));(Iv (U0 y x))->aj (aw q1 (ag y)) (aG 0 q1/\aw q1 (ag y)/\Iv (dT x.1)/\RAG x.1 (RA0 a (RAG a.ae (aj d (bJ (ag (bM x.1 [b])) 96/\∃z:(List ah)×Nat,c (bM x.1 [b]=z.1/\ay .i64 q1 1=(z.2:Int)/\(Iv (U0 y z/\(y.length-z.2)<(y.length-x.2))))) (∃z:(List ah)×Nat,c (x.1=z.1/\ay .i64 q1 1=(z.2:Int)/\(Iv (U0 y z/\(y.length-z.2)<(y.length-x.2))))))))) (x.1=eo [] y/\True))
theorem Qq9 (y:Int×List ah) (c:Ob.pre y):U1 y:=by
 obtain⟨op,a⟩:=y;obtain⟨h1,d⟩:a.length<=1000000/\(aF op a).length<=1000000:=c;unfold U1;simp only[bL,bC,au,aT,br,dq,bR,Zad];refine⟨⟨0,by rfl,rfl,by rfl,ω,by simp[aF]⟩,λx f=>⟨λe=>⟨ω,e,λb=>?_,λb=>?_⟩,λe=>?_⟩⟩
 ·have e:x<a.length:=ω;have ht:=cq bF e;have hs:aF op (a.take (x+1))=aF op (a.take x)++(a.getD x bF).ae:=by
   grind [aF]
  grind [la]
 ·have e:x<a.length:=ω;have ht:=cq bF e;have hs:aF op (a.take (x+1))=aF op (a.take x)++[a.getD x bF]:=by
   grind [aF]
  grind [la]
 ·grind
def QjV:Ok Ob:=okZ [] f216 QqW trivial Qq9
def Qcx:Ok UU:=okZ (V:=QjU) [] f218 (λ_=>dY ()) trivial λy _=>⟨rfl,trivial⟩
theorem Qra (y:List ah) (f:Oc.pre y):U2 y:=by
 have hl:y.length<=1000000:=f;unfold U2;simp only[bL,bC,au,dq,bR,Zad];refine⟨⟨0,rfl,Zaj _,λj b=>absurd b (Zbo _)⟩,λx ⟨g,a⟩=>⟨λe=>?_,λe=>?_⟩⟩
 ·have c:x<y.length:=ω;have a:∀j,j<x->wg (y.getD j bF)=false:=a;have d:y.getD x (ah.mk 0 [] 0 0 false 0 0 [])=y.getD x bF:=rfl;rw[d];refine⟨ω,e,λh=>(US c h a).symm,λh=>⟨x+1,bK ω,⟨ω,λj b=>?_⟩,ω⟩⟩;grind
 ·grind [UR]
def QjW:Ok Oc:=okZ [UU] f249 QqZ Qcx Qra
theorem EW (p:ah->Bool) (l:List ah):(yy p l= -1/\∀j,j<l.length->p (l.getD j bF)=false)\/∃i:Nat,i<l.length/\yy p l=(i:Int)/\p (l.getD i bF)/\∀j,j<i->p (l.getD j bF)=false:=by
 grind [yy]
theorem EX (h:∀j,j<l.length->wg (l.getD j bF)=false):hV l=l:=by
 unfold hV;refine List.filter_eq_self.mpr λa b=>?_
 grind [List.getElem_of_mem]
theorem yB (h:a<l.length):hV (l.take (a+1))=hV (l.take a)++(if wg (l.getD a bF) then[] else[l.getD a bF]):=by
 grind [hV,cq]
theorem U8 (h:a<l.length):(l.set a k).take (a+1)=l.take a++[k]:=by
 rw[cq bF (by grind),List.take_set_of_le (Zah _),eL (by grind),List.getElem_set_self]
theorem Qrb (y:List ah) (f:Od.pre y):U3 y:=by
 have hl:y.length<=1000000:=f;unfold U3;simp only[bL,bC,au,dq,bR,Zad,aC,Zan,Zao];refine⟨hl,λh=>?_,λh=>?_⟩
 ·grind [EW,EX]
 ·obtain⟨i,i1,i2,i3,i4⟩:∃i:Nat,i<y.length/\yy wg y=(i:Int)/\wg (y.getD i bF)/\∀j,j<i->wg (y.getD j bF)=false:=by
   grind [EW]
  rw[i2];refine⟨⟨(y,i,i+1),rfl,bK ω,rfl,rfl,ZcR _,i1,?_,rfl⟩,λx d=>?_⟩
  ·show y.take i=hV (y.take (i+1))
   grind [yB,EX]
  ·obtain⟨a,i,j⟩:=x;obtain⟨c1,c2,c3,c4,c5⟩:a.length=y.length/\i<=j/\j<=y.length/\a.take i=hV (y.take j)/\a.drop j=y.drop j:=d;refine⟨λe=>⟨ω,e,?_⟩,λe=>⟨ω,by grind,ω,by grind,?_⟩⟩
   ·have e:j<y.length:=by grind
    have c:a.getD j (ah.mk 0 [] 0 0 false 0 0 [])=y.getD j bF:=by
     grind [List.drop_eq_getElem_cons]
    have b:a.drop (j+1)=y.drop (j+1):=by
     grind [List.drop_eq_getElem_cons]
    rw[c];refine⟨λq=>⟨ω,by grind,(a.set i (y.getD j bF),i+1,j+1),bK (show i<=1000000 by omega),bK (show j<=1000000 by omega),rfl,⟨by grind,show i+1<=j+1 by omega,show j+1<=y.length by omega,?_,?_⟩,show y.length-(j+1)<y.length-j by omega⟩,λq=>⟨(a,i,j+1),rfl,bK (show j<=1000000 by omega),rfl,⟨c1,show i<=j+1 by omega,show j+1<=y.length by omega,?_,b⟩,show y.length-(j+1)<y.length-j by omega⟩⟩
    ·grind [U8,yB]
    ·grind [List.drop_set_of_lt]
    ·grind [yB]
   ·grind [dE,Dm,Int.toNat_natCast]
def QjX:Ok Od:=okZ [UU,Oc] f217 Qq1 ⟨Qcx,QjW⟩ Qrb
def U9 (l:List ah):(hV l).length<=l.length:=List.length_filter_le _ _
def ctH (y:ah) (b:ctC.pre y):Qfb y:=by
 obtain⟨h1,a⟩:y.ae.length<=1000000/\(aF 3 y.ae).length<=1000000:=b;have:=U9 (aF 3 y.ae);unfold Qfb;simp only[dw,Zai,kU,aC];exact⟨⟨h1,a⟩,a,ω,rfl,rfl,rfl,rfl,rfl,rfl,rfl,rfl⟩
def Qrc:Ok ctC:=okZ [Ob,Od,N5] f179 (λ_=>dY ()) ⟨QjV,QjX,Qcv⟩ ctH
theorem Qrd (y:ah×ah) (a:UY.pre y):U4 y:=by
 have a:dO y.1:=a;grind [U4,bR]
def QjY:Ok UY:=okZ [N'] f252 (λ_=>dY ()) (QqV .s) Qrd
theorem Qre (y:List ah×ah) (a:Oe.pre y):U5 y:=by
 obtain⟨y,k⟩:=y;have a:dT y:=a;have hl:=a.len;unfold U5;simp only[bL,bC,au,dq,bR,Zad];refine⟨⟨0,rfl,Zaj _,λj d=>absurd d (Zbo _)⟩,λx ⟨g,b⟩=>⟨λe=>?_,λe=>?_⟩⟩
 ·have c:x<y.length:=ω;have b:∀j,j<x->ow (y.getD j bF) k=false:=b;have f:y.getD x (ah.mk 0 [] 0 0 false 0 0 [])=y.getD x bF:=rfl;rw[f];refine⟨ω,e,a.get c,λh=>(US (p:=λx=>ow x k) c h b).symm,λh=>⟨x+1,bK ω,⟨ω,λj d=>?_⟩,ω⟩⟩;grind
 ·grind [UR]
def QjZ:Ok Oe:=okZ [UY] f249 Qq4 QjY Qre
def Qrf (y:List ah×ah) (a:UZ.pre y):U6 y:=by
 unfold U6;simp only[dw,Zai,kU,bR];exact⟨a,UT _ _⟩
def Qj0:Ok UZ:=okZ [Oe] f251 (λ_=>dY ()) QjZ Qrf
theorem Qrg (y:List ah) (c:Of.pre y):U7 y:=by
 have c:dT y:=c;have hl:=c.len;unfold U7;simp only[bL,bC,au,aT,br,dq,bR,Zad,Zan,Zao];refine⟨⟨([],0),rfl,rfl,Zaj _,rfl,Zaj _,λn a=>by grind [aA]⟩,λx j=>?_⟩;obtain⟨o,i⟩:=x;obtain⟨c1,c2,c3,c4⟩:i<=y.length/\eo o (y.drop i)=eo [] y/\(aA o).length<=(aA (y.take i)).length/\∀n∈aA o,iO n:=j;have b:∀n,(aA (y.take n)).length<=(aA y).length:=λn=>by
  grind [List.take_append_drop,cG]
 have hO:dT o:=⟨by have:=b i;have:=c.1;omega,c4⟩;have h:=hO.len;refine⟨λe=>?_,λe=>?_⟩
 ·have d:i<y.length:=ω;have g:y.getD i (ah.mk 0 [] 0 0 false 0 0 [])=y.getD i bF:=rfl;have f:y.drop i=y.getD i bF::y.drop (i+1):=by simp_all
  have k:(aA (y.take (i+1))).length=(aA (y.take i)).length+(aD (y.getD i bF)).length:=by
   grind [cG,aA]
  rw[f,eo] at c2;rw[g];refine⟨ω,e,hO,λq=>?_,λq=>?_⟩
  ·rw[q] at c2;refine⟨by grind,(o++[y.getD i bF],i+1),rfl,bK ω,⟨show i+1<=y.length by omega,by assumption,?_,λn a=>?_⟩,show y.length-(i+1)<y.length-i by omega⟩
   ·grind [cG]
   ·rw[cG,aA,aA,Zaw] at a;rcases List.mem_append.mp a with a | a
    ·grind
    ·exact(c.get d).2 n a
  ·rw[q] at c2;exact⟨(o,i+1),rfl,bK ω,⟨show i+1<=y.length by omega,by assumption,show(aA o).length<=(aA (y.take (i+1))).length by omega,c4⟩,show y.length-(i+1)<y.length-i by omega⟩
 ·grind [eo]
def Qj1:Ok Of:=okZ [UZ] f221 Qq7 Qj0 Qrg
def tP (l:List ah):Prop:=∀t∈l,t.r.length<=1000000
def ox (l:List ah):ah:=l.getD (l.length-1) bF
def pC (r:List Rg):ah:=.mk 2 (aU r) 0 0 false 0 0 []
def dL (out:List ah) (k:ah):List ah:=if out.length≠0/\k.op=2/\(ox out).op=2 then out.set (out.length-1) (pC ((ox out).r++k.r)) else out++[k]
def bI (out:List ah):List ah->List ah
 | []=>out
 | k::l=>bI (dL out k) l
def Og:bh D:=bO 220 (List ah) (λa s=>match a with
 | [l]=>az (aL D s 15 l) λl=>.ret (l:List ah)
 | _=>.fail) (λy=>y.length<=1000000/\tP y) (λy=>[.list 15 y]) λy=>.list 15 (bI [] y)
def sK (y:List ah) (x:List ah×Nat):Prop:=x.2<=y.length/\bI x.1 (y.drop x.2)=bI [] y/\x.1.length<=x.2/\tP x.1
def Qrh (y:Og.Y):cH D:=⟨[],[9],[(58,⟨List ah×Nat,[8,9],λx=>[(3,.own 0 8 (ag x.1)),(10,Qvo x.2)],[],λx=>uN x.1,1,sK y,λx=>y.length-x.2⟩)],[],1,[]⟩
def Lk (t:ah):Nd:=⟨t.op,t.r,t.mn,t.mx,t.lz,t.cap,t.nk⟩
def bG (t:ah):ah:=t.ae.getD 0 bF
def vq (t:ah):ah:=.mk t.op t.r t.mn t.mx (t.lz&&decide (t.mn≠t.mx)) t.cap t.nk t.ae
def EY (k:ah) (n:Int):ah:=.mk k.op k.r (k.mn*n) k.mx k.lz k.cap k.nk k.ae
def cV (t:ah):ah:=
 if (bG t).op=1 then bG t
 else if t.mn=1/\t.mx=1 then bG t
 else if t.mx=0/\fo (bG t)=false then .mk 1 [] 0 0 false 0 0 []
 else if eN (Lk (vq t))/\eN (Lk (bG t))/\(bG (bG t)).op=2 then EY (bG t) t.mn
 else vq t
def π (y:ah):Prop:=1<=y.ae.length/\dO (bG y)/\0<=y.mn/\((bG y).op=5->0<=(bG y).mn/\1<=(bG y).ae.length)
def U':bh D:=bO 181 ah (λa _=>vp a) π (λy=>[.agg (D.a_ 15 y)]) λy=>.agg (D.a_ 15 (lk (cV y)))
def U_ (y:List ah):Prop:=let d:=y.length;let i:=λp:Prop=>RAH y (ag y) p;let u:=ah.mk 0 [] 0 0 false 0 0 [];(∃z:(List ah)×Nat,i (0=ag z.1/\0=(z.2:Int)/\[]=z.1/\(Iv (sK y z))))/\(∀x:(List ah)×Nat,let c:=(x.2:Int);let b:=cx .i64 (ag x.1) 1;let a:=gt u y c.toNat;let e:=gt u x.1 b.toNat;let f:=bM e.r a.r;let g:=bM x.1 [ah.mk a.op a.r a.mn a.mx a.lz a.cap a.nk a.ae];let h:Prop:=(bJ (ag g) 96/\∃z:(List ah)×Nat,i (ag g=ag z.1/\ay .i64 c 1=(z.2:Int)/\g=z.1/\(Iv (sK y z/\(d-z.2)<(d-x.2)))));(Iv (sK y x))->aj (aw c (ag y)) (aG 0 c/\aw c (ag y)/\aj (aG 0 b) (aj (aB a.op 2) (aG 0 b/\aw b (ag x.1)/\aj (aB e.op 2) (aG 0 b/\aw b (ag x.1)/\bJ (ag e.r) 8/\bJ (ag f) 8/\RAI e.r a.r a.r (Iv (f.length<=100000000)/\aa [f] (aG 0 b/\aw b (ag x.1)/\∃z:(List ah)×Nat,i (ag x.1=ag z.1/\ay .i64 c 1=(z.2:Int)/\cS x.1 b.toNat (ah.mk 2 (aU f) 0 0 false 0 0 [])=z.1/\(Iv (sK y z/\(d-z.2)<(d-x.2))))))) (h)) (h)) (h)) (x.1=bI [] y/\True))
def Va (y:ah):Prop:=let b:=lk (cV y);let q1:=!(aB y.mn y.mx);let F:=ah.mk 0 [] 0 0 false 0 0 [];let a:=gt F y.ae 0;let g:=a.ae;let o:=aB (gt F g 0).op 2;let t:=eN (Nd.mk y.op y.r y.mn y.mx false y.cap y.nk);let u:=eN (Nd.mk y.op y.r y.mn y.mx q1 y.cap y.nk);let q:=eN (Nd.mk a.op a.r a.mn a.mx a.lz a.cap a.nk);let n:=ah.mk a.op a.r a.mn a.mx a.lz a.cap a.nk g;let s:=λp:Prop=>RA0 a (RAG g p);let m:=λp:Prop=>RA0 a p;let h:Prop:=(y.cap=b.cap/\y.nk=b.nk/\y.ae=b.ae/\True);let d:Prop:=(y.op=b.op/\y.r=b.r/\y.mn=b.mn/\y.mx=b.mx/\false=b.lz/\h);let e:Prop:=(y.op=b.op/\y.r=b.r/\y.mn=b.mn/\y.mx=b.mx/\q1=b.lz/\h);let f:Prop:=(a.mx=b.mx/\a.lz=b.lz/\a.cap=b.cap/\a.nk=b.nk/\g=b.ae/\True);let c:Prop:=(a.op=b.op/\a.r=b.r/\a.mn=b.mn/\f);let B:=a.op=b.op/\a.r=b.r/\gG .i64 a.mn y.mn=b.mn/\f;let i:Prop:=(Iv True/\RAJ y.op y.r y.mn y.mx (false=false/\aa [y.cap,y.nk] (aj t (Iv True/\m (aj q (Tt 1 (aw 0 (ag g)/\aj o B (d))) (d))) (d))));let j:Prop:=(Iv True/\RAM y.op y.r y.mn y.mx q1 y.cap y.nk (aj u (Iv True/\m (aj q (Tt 1 (aw 0 (ag g)/\aj o B (e))) (e))) (e)));let A:=1=b.op/\[]=b.r/\0=b.mn/\0=b.mx/\false=b.lz/\0=b.cap/\0=b.nk/\[]=b.ae/\True;let k:Prop:=(aj (aB y.mx 0) (Iv (dO n)/\s (aj (!(fo n)) A (i))) (i));let l:Prop:=(aj (aB y.mx 0) (Iv (dO n)/\s (aj (!(fo n)) A (j))) (j));aj y.lz (Tt 1 (aw 0 (ag y.ae)/\aj (aB a.op 1) (c) (aj (aB y.mn 1) (aj (aB y.mx 1) (c) (l)) (l)))) (Tt 1 (aw 0 (ag y.ae)/\aj (aB a.op 1) (c) (aj (aB y.mn 1) (aj (aB y.mx 1) (c) (k)) (k))))
theorem EZ:∀(m:List Rg) (b:Int),0<=b->b<=1114112->(∀p∈m,uy p/\b<=p.1)->m.Pairwise (λp q=>p.2+1<q.1)->2*(m.length:Int)<=1114113-b
 | [],b,_,h,_,_=>by grind
 | p::m,b,h0,h,h1,h2=>by
  obtain⟨⟨c1,c2,c3,c4⟩,c5⟩:=h1 p Za8;obtain⟨a,c⟩:=List.pairwise_cons.mp h2;cases m with
  | nil=>simp;omega
  | cons q m=>
   have f:=a q Za8;obtain⟨⟨_,e2,e,_⟩,_⟩:=h1 q (ZaU _ Za8);have:=EZ (q::m) (p.2+2) ω ω (λx d=>⟨(h1 x (ZaU _ d)).1,by grind⟩) c;grind
def lb (l:List Rg):(aU l).length<=1000000:=by
 obtain⟨⟨h1,b⟩,_⟩:=dW l;have:=EZ (aU l) 0 ω ω (λp a=>⟨h1 p a,(h1 p a).1⟩) b;omega
theorem jk (o:List ah) (k:ah):(dL o k).length<=o.length+1:=by
 grind [dL]
theorem E0 (h:tP l) (hk:k.r.length<=1000000):tP (dL l k):=by
 unfold dL;split
 ·intro t ht;rcases Zb1 ht with h1 | h1
  ·exact h t h1
  ·rw[h1];exact lb _
 ·intro t ht;rcases List.mem_append.mp ht with h1 | h1
  ·exact h t h1
  ·grind
theorem Qrk (y:List ah) (m:Og.pre y):U_ y:=by
 obtain⟨hl,j⟩:y.length<=1000000/\tP y:=m;unfold U_;simp only[bL,bC,au,aT,br,dq,bR,Zad];refine⟨⟨([],0),rfl,rfl,rfl,Zaj _,rfl,Zah _,λt ht=>nomatch ht⟩,λx l=>?_⟩;obtain⟨o,i⟩:=x;obtain⟨c1,c2,c3,c4⟩:i<=y.length/\bI o (y.drop i)=bI [] y/\o.length<=i/\tP o:=l;refine⟨λe=>?_,λe=>?_⟩
 ·have p:i<y.length:=ω;have f:y.getD i (ah.mk 0 [] 0 0 false 0 0 [])=y.getD i bF:=rfl;have d:y.drop i=y.getD i bF::y.drop (i+1):=by simp_all
  have hk:(y.getD i bF).r.length<=1000000:=j _ (by grind);rw[d,bI] at c2;have q:=jk o (y.getD i bF);have n:=E0 c4 hk;have step:∀z,z=dL o (y.getD i bF)->sK y (z,i+1)/\y.length-(i+1)<y.length-i:=λz hz=>by
   subst hz;exact⟨⟨show i+1<=y.length by omega,c2,show(dL o (y.getD i bF)).length<=i+1 by omega,n⟩,ω⟩
  rw[f];simp only;generalize y.getD i bF=k at*
  have b:¬(o.length≠0/\k.op=2/\(ox o).op=2)->(((o++[k]).length:Nat):Int)*(96:Nat)<=140737488355328/\∃z:List ah×Nat,(((o++[k]).length:Nat):Int)=((z.1.length:Nat):Int)/\ay .i64 (i:Int) 1=(z.2:Int)/\o++[k]=z.1/\sK y z/\y.length-z.2<y.length-i:=λh=>by
   grind [dL]
  by_cases h0:o.length=0
  ·rw[h0,show cx .i64 ((0:Nat):Int) 1= -1 from jQ ω ω];grind
  ·rw[A0 ω ω];have c:o.getD (((o.length-1:Nat):Int).toNat) (ah.mk 0 [] 0 0 false 0 0 [])=ox o:=rfl;have g:(ox o).r.length<=1000000:=c4 _ (by grind);simp only[c];refine⟨ω,e,λ_=>⟨λh1=>⟨ω,ω,λa=>⟨ω,ω,ω,by grind,by grind,ω,ω,(dL o k,i+1),?_,bK ω,?_,step _ rfl⟩,λa=>b λh=>a h.2.2⟩,λh1=>b λh=>h1 h.2.1⟩,λh=>absurd h ω⟩
   ·grind [dL]
   ·show cS o (((o.length-1:Nat):Int).toNat) _=dL o k
    unfold dL;rw[Zac ⟨h0,h1,a⟩];rfl
 ·grind [bI]
def Qj2 (a:Ok dB):Ok Og:=okZ [dB] f220 Qrh a Qrk
theorem Qrl (y:ah) (A:U'.pre y):Va y:=by
 obtain⟨h1,o,C,D⟩:1<=y.ae.length/\dO (bG y)/\0<=y.mn/\((bG y).op=5->0<=(bG y).mn/\1<=(bG y).ae.length):=A;have hk:y.ae.getD 0 (ah.mk 0 [] 0 0 false 0 0 [])=bG y:=rfl;have t:(bG y).ae.getD 0 (ah.mk 0 [] 0 0 false 0 0 [])=bG (bG y):=rfl;unfold Va;simp only[bL,bC,au,dq,bR,aC,hk,t,Zan,Zao];have m:∀x:Nd,eN x->x.op=5/\x.mn<=1:=λx h=>by
  grind [eN]
 have E:∀X,cV y=X->X.op=(cV y).op/\X.r=(cV y).r/\X.mn=(cV y).mn/\X.mx=(cV y).mx/\X.lz=(cV y).lz/\X.cap=(cV y).cap/\X.nk=(cV y).nk/\X.ae=(cV y).ae:=λX h=>by
  grind
 have V:∀b,vq y=ah.mk y.op y.r y.mn y.mx b y.cap y.nk y.ae->¬(bG y).op=1->¬(y.mn=1/\y.mx=1)->¬(y.mx=0/\fo (bG y)=false)->
   (eN ⟨y.op,y.r,y.mn,y.mx,b,y.cap,y.nk⟩->(eN ⟨(bG y).op,(bG y).r,(bG y).mn,(bG y).mx,(bG y).lz,(bG y).cap,(bG y).nk⟩->(0:Int)<((bG y).ae.length:Int)/\((bG (bG y)).op=2->gG .i64 (bG y).mn y.mn=(bG y).mn*y.mn/\cV y=EY (bG y) y.mn)/\((bG (bG y)).op≠2->cV y=vq y))/\(eN ⟨(bG y).op,(bG y).r,(bG y).mn,(bG y).mx,(bG y).lz,(bG y).cap,(bG y).nk⟩=false->cV y=vq y))/\(eN ⟨y.op,y.r,y.mn,y.mx,b,y.cap,y.nk⟩=false->cV y=vq y):=λb k p q s=>by
  have e:cV y=if eN (Lk (vq y))/\eN (Lk (bG y))/\(bG (bG y)).op=2 then EY (bG y) y.mn else vq y:=by
   grind [cV]
  have B:eN (Lk (vq y))=eN ⟨y.op,y.r,y.mn,y.mx,b,y.cap,y.nk⟩:=by rw[k];rfl
  grind [Lk]
 have u:(bG y).op=1->cV y=bG y:=λh=>by grind [cV]
 have v:¬(bG y).op=1->y.mn=1->y.mx=1->cV y=bG y:=λh a b=>by grind [cV]
 have n:¬(bG y).op=1->¬(y.mn=1/\y.mx=1)->y.mx=0->fo (bG y)=false->cV y=.mk 1 [] 0 0 false 0 0 []:=λh a b c=>by grind [cV]
 have F:∀b,vq y=ah.mk y.op y.r y.mn y.mx b y.cap y.nk y.ae->cV y=vq y->y.op=(cV y).op/\y.r=(cV y).r/\y.mn=(cV y).mn/\y.mx=(cV y).mx/\b=(cV y).lz/\y.cap=(cV y).cap/\y.nk=(cV y).nk/\y.ae=(cV y).ae:=λb k h=>by
  rw[h,k];exact⟨rfl,rfl,rfl,rfl,rfl,rfl,rfl,rfl⟩
 have M:gG .i64 (bG y).mn y.mn=(bG y).mn*y.mn/\cV y=EY (bG y) y.mn->(bG y).op=(cV y).op/\(bG y).r=(cV y).r/\gG .i64 (bG y).mn y.mn=(cV y).mn/\(bG y).mx=(cV y).mx/\(bG y).lz=(cV y).lz/\(bG y).cap=(cV y).cap/\(bG y).nk=(cV y).nk/\(bG y).ae=(cV y).ae:=λ⟨a,h⟩=>by
  rw[a,h];exact⟨rfl,rfl,rfl,rfl,rfl,rfl,rfl,rfl⟩
 have z:y.lz->vq y=ah.mk y.op y.r y.mn y.mx (!aB y.mn y.mx) y.cap y.nk y.ae:=λh=>by
  grind [vq]
 have w:y.lz=false->vq y=ah.mk y.op y.r y.mn y.mx false y.cap y.nk y.ae:=λh=>by
  grind [vq]
 refine⟨λl=>?_,λl=>?_⟩
 ·have k:=z l;have W:=λp q s=>V _ k p q s
  have G:=F _ k;refine⟨ω,λk1=>E _ (u k1),λk1=>⟨λk2=>⟨λk3=>E _ (v k1 k2 k3),λk3=>⟨λk4=>⟨o,λk5=>E _ (n k1 (λh=>k3 h.2) k4 k5),λk5=>?_⟩,λk4=>?_⟩⟩,λk2=>⟨λk4=>⟨o,λk5=>E _ (n k1 (λh=>k2 h.1) k4 k5),λk5=>?_⟩,λk4=>?_⟩⟩⟩
  ·obtain⟨g,j⟩:=W k1 (λh=>k3 h.2) (λh=>by grind);exact⟨λd=>⟨λf=>⟨((g d).1 f).1,λi=>M (((g d).1 f).2.1 i),λi=>G (((g d).1 f).2.2 i)⟩,λf=>G ((g d).2 f)⟩,λd=>G (j d)⟩
  ·obtain⟨g,j⟩:=W k1 (λh=>k3 h.2) (λh=>k4 h.1);exact⟨λd=>⟨λf=>⟨((g d).1 f).1,λi=>M (((g d).1 f).2.1 i),λi=>G (((g d).1 f).2.2 i)⟩,λf=>G ((g d).2 f)⟩,λd=>G (j d)⟩
  ·obtain⟨g,j⟩:=W k1 (λh=>k2 h.1) (λh=>by grind);exact⟨λd=>⟨λf=>⟨((g d).1 f).1,λi=>M (((g d).1 f).2.1 i),λi=>G (((g d).1 f).2.2 i)⟩,λf=>G ((g d).2 f)⟩,λd=>G (j d)⟩
  ·obtain⟨g,j⟩:=W k1 (λh=>k2 h.1) (λh=>k4 h.1);exact⟨λd=>⟨λf=>⟨((g d).1 f).1,λi=>M (((g d).1 f).2.1 i),λi=>G (((g d).1 f).2.2 i)⟩,λf=>G ((g d).2 f)⟩,λd=>G (j d)⟩
 ·have k:=w l;have W:=λp q s=>V _ k p q s
  have G:=F _ k;refine⟨ω,λk1=>E _ (u k1),λk1=>⟨λk2=>⟨λk3=>E _ (v k1 k2 k3),λk3=>⟨λk4=>⟨o,λk5=>E _ (n k1 (λh=>k3 h.2) k4 k5),λk5=>?_⟩,λk4=>?_⟩⟩,λk2=>⟨λk4=>⟨o,λk5=>E _ (n k1 (λh=>k2 h.1) k4 k5),λk5=>?_⟩,λk4=>?_⟩⟩⟩
  ·obtain⟨g,j⟩:=W k1 (λh=>k3 h.2) (λh=>by grind);exact⟨λd=>⟨λf=>⟨((g d).1 f).1,λi=>M (((g d).1 f).2.1 i),λi=>G (((g d).1 f).2.2 i)⟩,λf=>G ((g d).2 f)⟩,λd=>G (j d)⟩
  ·obtain⟨g,j⟩:=W k1 (λh=>k3 h.2) (λh=>k4 h.1);exact⟨λd=>⟨λf=>⟨((g d).1 f).1,λi=>M (((g d).1 f).2.1 i),λi=>G (((g d).1 f).2.2 i)⟩,λf=>G ((g d).2 f)⟩,λd=>G (j d)⟩
  ·obtain⟨g,j⟩:=W k1 (λh=>k2 h.1) (λh=>by grind);exact⟨λd=>⟨λf=>⟨((g d).1 f).1,λi=>M (((g d).1 f).2.1 i),λi=>G (((g d).1 f).2.2 i)⟩,λf=>G ((g d).2 f)⟩,λd=>G (j d)⟩
  ·obtain⟨g,j⟩:=W k1 (λh=>k2 h.1) (λh=>k4 h.1);exact⟨λd=>⟨λf=>⟨((g d).1 f).1,λi=>M (((g d).1 f).2.1 i),λi=>G (((g d).1 f).2.2 i)⟩,λf=>G ((g d).2 f)⟩,λd=>G (j d)⟩
def Qj3:Ok U':=okZ [N8,UD] f181 (λ_=>dY ()) ⟨QqR .g,QjE⟩ Qrl
def j6 (l:List ah):List ah:=bI [] (eo [] l)
def jJ:Nat->List ah->List ah
 | 0,l=>l
 | n+1,l=>if (j6 l).length=l.length then l else jJ n (j6 l)
def CD (t:ah):ah:=im 4 (jJ (aF 4 t.ae).length (aF 4 t.ae))
def atC:bh D:=bO 180 ah (λa _=>vp a) (λy=>y.ae.length<=1000000/\dT (aF 4 y.ae)) (λy=>[.agg (D.a_ 15 y)]) λy=>.agg (D.a_ 15 (lk (CD y)))
def atI (y:ah) (x:List ah):Prop:=dT x/\∃n,x.length<=n/\jJ n x=jJ (aF 4 y.ae).length (aF 4 y.ae)
def atO (y:atC.Y):cH D:=⟨[],[],[(14,⟨List ah,[],λx=>[(2,.ptr 0 0),(3,.list 15 x)],[],λ_=>[(0,.cells (D.a_ 15 bF) 209 false)],1,atI y,λx=>x.length⟩)],[],1,[]⟩
def Qfd (y:ah):Prop:=let a:=lk (CD y);let d:=λp:Prop=>RAC (RAB (RAA p));let e:=λp:Prop=>RAA (RAF p);Iv (y.ae.length<=1000000/\(aF 4 y.ae).length<=1000000)/\RAH (4:Int) y.ae ((∃z:List ah,aF 4 y.ae=z/\d (false=false/\e ((Iv (atI y z)))))/\(∀x:List ah,let c:=eo [] x;let b:=lk (im 4 x);let f:=aB (ag (bI [] c)) (ag x);(Iv (atI y x))->Iv (dT x)/\aa [x] (Iv (c.length<=1000000/\tP c)/\aa [c] (aj f (Iv (x.length<=1000000)/\aa ([4]:List Int) (aa [x] (b.op=a.op/\b.r=a.r/\b.mn=a.mn/\b.mx=a.mx/\b.lz=a.lz/\b.cap=a.cap/\b.nk=a.nk/\b.ae=a.ae/\True))) (∃z:List ah,bI [] c=z/\d (false=false/\e ((Iv (atI y z/\z.length<x.length)))))))))
def NL (n:Nat) (l:List Nd):Prop:=l.length<=n/\∀x∈l,iO x
def NL.app {b:Nat} {l m:List Nd} (h:NL a l) (c:NL b m):NL (a+b) (l++m):=
 ⟨by rw[Zab];have:=h.1;have:=c.1;omega,λx d=>(List.mem_append.mp d).elim (h.2 x) (c.2 x)⟩
theorem eH (t:ah) (l:List ah):aA (t::l)=aD t++aA l:=by rfl
def IE (r:List Rg):NL 1 (aD (pC (r))):=by
 rw[bT];refine⟨by simp[pC,ah.ae,aA],λx a=>?_⟩;have a:x=⟨2,aU r,0,0,false,0,0⟩:=by simpa [pC,ah.ae,aA,ah.op,ah.r,ah.mn,ah.mx,ah.lz,ah.cap] using a
 rw[a];exact lb r
theorem Vb (ht:NL 1 (aD k)):∀(l:List ah) (i n:Nat),NL n (aA l)->NL n (aA (l.set i k))
 | [],_,_,h=>h
 | a::l,0,n,h=>by
  rw[Zdb,eH];rw[eH] at h;have h1:=h.1;rw[Zab] at h1;have d:1<=(aD a).length:=by rw[bT];simp
  have:=ht.1;exact⟨by grind,λx b=>(List.mem_append.mp b).elim (ht.2 x) λb=>h.2 x (ZaC _ b)⟩
 | a::l,i+1,n,h=>by
  rw[Zdd,eH];rw[eH] at h;have h1:=h.1;rw[Zab] at h1;have:=Vb ht l i (aA l).length ⟨Zah _,λx b=>h.2 x (ZaC _ b)⟩;have c:=this.1;exact⟨by grind,λx b=>(List.mem_append.mp b).elim (λb=>h.2 x (Zay _ b)) (this.2 x)⟩
theorem yC (o:List ah) (k:ah):aA (o++[k])=aA o++aD k:=by grind [cG,aA]
def Vc {b:Nat} (h:NL a (aA l)) (hk:NL b (aD k)):NL (a+b) (aA (dL l k)):=by
 unfold dL;split
 ·have:=Vb (IE ((ox l).r++k.r)) l (l.length-1) a h;exact⟨by have:=this.1;omega,this.2⟩
 ·rw[yC];exact h.app hk
def nW (h:NL a (aA (k::l))):NL (aD k).length (aD k)/\NL (aA l).length (aA l)/\(aD k).length+(aA l).length<=a:=by
 rw[eH] at h;have h1:=h.1;rw[Zab] at h1;exact⟨⟨Zah _,λx n=>h.2 x (Zay _ n)⟩,⟨Zah _,λx n=>h.2 x (ZaC _ n)⟩,h1⟩
theorem tQ:∀(l o:List ah) (a b:Nat),NL a (aA o)->NL b (aA l)->NL (a+b) (aA (bI o l))/\(bI o l).length<=o.length+l.length
 | [],o,a,b,h,_=>⟨⟨by have:=h.1;unfold bI;omega,h.2⟩,Zah _⟩
 | k::l,o,a,b,h,h2=>by
  obtain⟨p1,p2,p3⟩:=nW h2;obtain⟨c,d⟩:=tQ l _ _ _ (Vc h p1) p2;have:=jk o k;have:=c.1;rw[bI];exact⟨⟨ω,c.2⟩,by grind⟩
theorem qm:∀(l o:List ah) (a b:Nat),NL a (aA o)->NL b (aA l)->NL (a+b) (aA (eo o l))/\(eo o l).length<=o.length+l.length
 | [],o,a,b,h,_=>⟨⟨by have:=h.1;unfold eo;omega,h.2⟩,Zah _⟩
 | k::l,o,a,b,h,h2=>by
  obtain⟨p1,p2,p3⟩:=nW h2;rw[eo];split
  ·obtain⟨c,d⟩:=qm l o _ _ h p2;have:=c.1;exact⟨⟨ω,c.2⟩,by grind⟩
  ·obtain⟨c,d⟩:=qm l (o++[k]) _ _ (by rw[yC];exact h.app p1) p2;have:=c.1;simp only[Zab,Zae,Zak] at d;exact⟨⟨ω,c.2⟩,by grind⟩
theorem CE:NL 0 (aA []):=⟨by simp[aA],λx a=>by grind [aA]⟩
theorem τ (h:dT l):dT (eo [] l)/\(eo [] l).length<=l.length:=by
 obtain⟨a,b⟩:=qm l [] 0 1000000 CE h;exact⟨⟨by have:=a.1;omega,a.2⟩,by grind⟩
theorem Ll (h:dT l):dT (bI [] l)/\(bI [] l).length<=l.length:=by
 obtain⟨a,b⟩:=tQ l [] 0 1000000 CE h;exact⟨⟨by have:=a.1;omega,a.2⟩,by grind⟩
theorem dT.rt (h:dT l):tP l:=λt ht=>by
 obtain⟨i,hi,rfl⟩:=Za3 ht;have:=h.get hi;rw[eL hi] at this;have a:=this.2 ⟨l[i].op,l[i].r,l[i].mn,l[i].mx,l[i].lz,l[i].cap,l[i].ae.length⟩ (by grind [bT]);exact a
theorem atH (y:ah) (d:atC.pre y):Qfd y:=by
 obtain⟨h1,b⟩:y.ae.length<=1000000/\dT (aF 4 y.ae):=d;unfold Qfd;simp only[bC,oo,oq,au,aC];refine⟨⟨h1,b.len⟩,⟨_,rfl,b,_,Zah _,rfl⟩,λx c=>?_⟩;obtain⟨i1,n,i2,i3⟩:=c;obtain⟨a,h⟩:=τ i1;obtain⟨f,g⟩:=Ll a;refine⟨i1,⟨a.len,a.rt⟩,λe=>⟨i1.len,?_⟩,λe=>⟨_,rfl,?_,ω⟩⟩
 ·have e:(j6 x).length=x.length:=by grind [j6]
  have:CD y=im 4 x:=by
   unfold CD;rw[<-i3];cases n with
   | zero=>rfl
   | succ n=>rw[jJ,Zac e]
  grind
 ·have e:¬(j6 x).length=x.length:=by grind [j6]
  cases n with
  | zero=>exact absurd (show(j6 x).length=x.length by omega) e
  | succ n=>
   rw[jJ,Zaa e] at i3;exact⟨f,n,ω,i3⟩
def Qrm (a:Ok dB):Ok atC:=okZ [N6,Of,Og,N5] f180 atO ⟨QjF,Qj1,Qj2 a,Qcv⟩ atH
def yD (t:ah):ah:=if t.op=3 then EV t else if t.op=4 then CD t else if t.op=5 then cV t else t
mutual
def j7:ah->ah
 | .mk op r mn mx lz cap nk ks=>yD (.mk op r mn mx lz cap nk (dC ks))
def dC:List ah->List ah
 | []=>[]
 | t::l=>j7 t::dC l
end
mutual
def sL:ah->Prop
 | .mk op _ mn _ _ _ _ ks=>(op=5->1<=ks.length/\0<=mn)/\pD ks
def pD:List ah->Prop
 | []=>True
 | t::l=>sL t/\pD l
end
variable {l:List ah} {k:ah}
def Oh (t:ah):ah:=lk (j7 t)
def E1 (t:ah) (n:Nat):List ah:=lk ((dC t.ae).take n)
def IF:bh D:=bO 122 ah (λa _=>vp a) (λy=>dO y/\sL y) (λy=>[.agg (D.a_ 15 y)]) λy=>.agg (D.a_ 15 (Oh y))
def Qrn (y:IF.Y):cH D:=⟨[],[],[(58,⟨Nat,[11,12],λx=>[(1,.ptr 0 0),(2,.ptr 1 0),(3,.grow 15 (E1 y x) 2),(13,Qvo x)],[],λ_=>[(0,.cells (D.a_ 15 y) 209 false),(1,.cells (D.a_ 15 bF) 209 false),(2,.tok 15 209)],3,λx=>x<=y.ae.length,λx=>y.ae.length-x⟩)],[],1,[]⟩
def Qro (y:IF.Y):Prop:=vc [IF.under dm (dm y),ctC,atC,U'] f122 IF Qrn y
def Vd (y:ah):Prop:=let a:=Oh y;let q1:=y.ae;let j:=ag q1;let n:=λp:Prop=>RAC (RAB (RAA p));let o:=λp:Prop=>RAA (RAF (RA0 y (RAG q1 p)));Tt 1 (aG 0 j/\bJ j 96/\(∃z:Nat,RAH q1 j ([]=E1 y z/\0=(z:Int)/\n (false=false/\o ((Iv (z<=q1.length))))))/\(∀x:Nat,let g:=E1 y x;let l:=q1.length;let e:=gt (ah.mk 0 [] 0 0 false 0 0 []) q1 (x:Int).toNat;let m:=ah.mk y.op y.r y.mn y.mx y.lz y.cap y.nk g;let h:=lk (EV m);let b:=lk (CD m);let c:=lk (cV m);let f:=ah.mk e.op e.r e.mn e.mx e.lz e.cap e.nk e.ae;let d:=Oh f;let k:=bM g [ah.mk d.op d.r d.mn d.mx d.lz d.cap d.nk d.ae];let i:=λp:Prop=>RA0 y (RAG g p);(Iv (x<=l))->aj (aw (x:Int) j) (aG 0 (x:Int)/\aw (x:Int) j/\Iv ((dO f/\sL f)/\dm f<dm y)/\RA0 e (RAG e.ae (bJ (ag k) 96/\∃z:Nat,aa [q1] (aa [j] (k=E1 y z/\ay .i64 (x:Int) 1=(z:Int)/\n (false=false/\o ((Iv (z<=l/\(l-z)<(l-x)))))))))) (aj (aB y.op 3) (Iv (g.length<=1000000/\(aF 3 g).length<=1000000)/\i (h.op=a.op/\h.r=a.r/\h.mn=a.mn/\h.mx=a.mx/\h.lz=a.lz/\h.cap=a.cap/\h.nk=a.nk/\h.ae=a.ae/\True)) (aj (aB y.op 4) (Iv (g.length<=1000000/\dT (aF 4 g))/\i (b.op=a.op/\b.r=a.r/\b.mn=a.mn/\b.mx=a.mx/\b.lz=a.lz/\b.cap=a.cap/\b.nk=a.nk/\b.ae=a.ae/\True)) (aj (aB y.op 5) (Iv (π m)/\i (c.op=a.op/\c.r=a.r/\c.mn=a.mn/\c.mx=a.mx/\c.lz=a.lz/\c.cap=a.cap/\c.nk=a.nk/\c.ae=a.ae/\True)) (y.op=a.op/\y.r=a.r/\y.mn=a.mn/\y.mx=a.mx/\y.lz=a.lz/\y.cap=a.cap/\y.nk=a.nk/\g=a.ae/\True))))))
def υ:∀y,Vd y=Qro y:=λy=>by kernel_rfl
theorem jx (t:ah):sL t↔(t.op=5->1<=t.ae.length/\0<=t.mn)/\pD t.ae:=by cases t;rw[sL];exact ZbW
theorem kh (l:List ah):pD l↔∀t∈l,sL t:=by
 induction l with
 | nil=>simp[pD]
 | cons a l b=>rw[pD,b];simp
theorem qo (l:List ah):(dC l).length=l.length:=by
 induction l with
 | nil=>simp[dC]
 | cons a l b=>simp[dC,b]
theorem Oi (l:List ah):dC l=l.map j7:=by
 induction l with
 | nil=>simp[dC]
 | cons a l b=>simp[dC,b]
def χ (t:ah):j7 t=yD (.mk t.op t.r t.mn t.mx t.lz t.cap t.nk (dC t.ae)):=by cases t;rw[j7];rfl
theorem E3 {op:Int} (h:op≠5) (hl:pD l):sL (im op l):=by
 match l,hl with
 | [],_=>rw[im,sL];exact⟨λh=>ω,by assumption⟩
 | [k],hl=>exact(kh _).mp hl k (by simp)
 | a::b::l,hl=>
  grind [im,sL]
theorem Bc {op:Int} (hl:pD l):pD (aF op l):=by
 grind [kh,aF,jx]
def ψ (hl:pD l):pD (hV l):=by
 rw[kh] at*
 exact λt ht=>hl t (List.mem_filter.mp ht).1
theorem CF:∀(l o:List ah),pD o->pD l->pD (eo o l)
 | [],o,h,_=>by assumption
 | k::l,o,h,h2=>by
  rw[eo];rw[pD] at h2;split
  ·exact CF l o h h2.2
  ·refine CF l _ ?_ h2.2;grind [kh]
theorem Ve (r:List Rg):sL (pC r):=by grind [pC,sL,pD]
theorem Vf (h:pD l) (hk:sL k):pD (dL l k):=by
 grind [kh,dL,Ve]
theorem Bd:∀(l o:List ah),pD o->pD l->pD (bI o l)
 | [],o,h,_=>by assumption
 | k::l,o,h,h2=>by
  rw[bI];rw[pD] at h2;exact Bd l _ (Vf h h2.1) h2.2
theorem E4:∀(n:Nat) (l:List ah),pD l->pD (jJ n l)
 | 0,l,h=>h
 | n+1,l,h=>by
  rw[jJ];split
  ·exact h
  ·exact E4 n _ (Bd _ _ (by grind [pD]) (CF _ _ (by grind [pD]) h))
def NL.to {a b:Nat} {l:List Nd} (h:NL a l) (c:a<=b):NL b l:=⟨Zav h.1 c,h.2⟩
theorem nc (op:Int):∀(l:List ah) (n:Nat),NL n (aA l)->NL n (aA (aF op l))
 | [],n,h=>h
 | k::l,n,h=>by
  obtain⟨p1,p2,p3⟩:=nW h;have e:aF op (k::l)=(if k.op=op then k.ae else[k])++aF op l:=rfl;have r:=nc op l _ p2;rw[e,cG];split
  ·rw[bT] at p1 p3;simp only[Zae] at p3;have q:NL (aA k.ae).length (aA k.ae):=⟨Zah _,λx a=>p1.2 x (ZaU _ a)⟩;exact(q.app r).to ω
  ·rw[show aA [k]=aD k by grind [aA]];exact(p1.app r).to ω
theorem Lm:∀(l:List ah) (n:Nat),NL n (aA l)->NL n (aA (hV l))
 | [],n,h=>h
 | k::l,n,h=>by
  obtain⟨p1,p2,p3⟩:=nW h;have r:=Lm l _ p2;unfold hV at r ⊢;rw[List.filter_cons];split
  ·rw[eH];exact(p1.app r).to ω
  ·exact r.to ω
theorem Ln (op:Int):NL 1 (aD (.mk op [] 0 0 false 0 0 [])):=by
 rw[aD];refine⟨by simp[aA],λx a=>?_⟩;have a:x=⟨op,[],0,0,false,0,0⟩:=by grind [aA]
 rw[a];exact Zaj _
theorem E5 (op:Int) {n:Nat} (h:NL n (aA l)):NL (n+1) (aD (im op l)):=by
 match l,h with
 | [],_=>exact(Ln 1).to ω
 | [k],h=>
  rw[show aA [k]=aD k by grind [aA]] at h;exact h.to ω
 | a::b::l,h=>
  rw[show im op (a::b::l)=.mk op [] 0 0 false 0 0 (a::b::l) from rfl,aD];refine⟨by have:=h.1;simp only[Zae];omega,λx c=>?_⟩;rcases List.mem_cons.mp c with c | c
  ·rw[c];exact Zaj _
  ·exact h.2 x c
theorem E6:∀(n:Nat) (l:List ah) (m:Nat),NL m (aA l)->NL m (aA (jJ n l))
 | 0,l,m,h=>h
 | n+1,l,m,h=>by
  rw[jJ];split
  ·exact h
  ·have h1:=(qm l [] 0 m CE h).1;have a:=(tQ _ [] 0 _ CE h1).1;exact E6 n _ m (a.to ω)
def Qcy (l:List ah):Prop:=∀x∈aA l,iO x
theorem Qff (h:0<l.length) (hl:Qcy l) {a:Nd}:NL (a::aA l).length (aD (l.getD 0 bF)):=by
 cases l with
 | nil=>cases h
 | cons k l=>
  have e:(k::l).getD 0 bF=k:=rfl;rw[e,eH];refine⟨by grind,λx b=>hl x (by grind [eH])⟩
def Kept (t u:ah):Prop:=sL u/\NL (aD t).length (aD u)
def Γ (h:sL k) (b:NL (aD k).length (aD k)):Kept k (vq k):=by
 unfold vq;refine⟨?_,?_⟩
 ·rw[jx] at*;exact h
 ·rw[bT] at b;rw[bT k];rw[aD];refine⟨Zah _,λx a=>?_⟩;rcases List.mem_cons.mp a with a | a
  ·rw[a];exact b.2 ⟨k.op,k.r,k.mn,k.mx,k.lz,k.cap,k.ae.length⟩ Za8
  ·exact b.2 x (ZaU _ a)
theorem Vg (hk:1<=k.ae.length) (h:sL k) (a:NL (aD k).length (aD k)):Kept k (bG k):=by
 have c:=(kh _).mp ((jx k).mp h).2;unfold bG;refine⟨by grind,?_⟩;rw[bT] at a ⊢;have hl:Qcy k.ae:=λx b=>a.2 x (ZaU _ b)
 exact Qff hk hl
theorem sM (t:ah):1<=(aD t).length:=by rw[bT];simp
theorem Vh (hk:1<=k.ae.length) (h0:0<=k.mn) (h:sL k) (b:NL (aD k).length (aD k)):Kept k (cV k):=by
 have K:=Vg hk h b;unfold cV;split
 ·exact K
 ·split
  ·exact K
  ·split
   ·exact⟨by grind [sL,pD],(Ln 1).to (sM k)⟩
   ·split
    ·obtain⟨k1,k2⟩:=K;generalize bG k=t at*
     rw[jx] at k1;refine⟨?_,?_⟩
     ·grind [EY,sL,Int.mul_nonneg]
     ·rw[bT t] at k2;unfold EY;rw[aD];refine⟨by have:=k2.1;simpa using this,λx a=>?_⟩;rcases List.mem_cons.mp a with a | a
      ·rw[a];exact k2.2 ⟨t.op,t.r,t.mn,t.mx,t.lz,t.cap,t.ae.length⟩ Za8
      ·exact k2.2 x (ZaU _ a)
    ·exact Γ h b
theorem Oj {t:ah} (h:sL t) (a:NL (aD t).length (aD t)):Kept t (yD t):=by
 have hi:=(jx t).mp h;have hl:NL (aA t.ae).length (aA t.ae):=by
  rw[bT] at a;exact⟨Zah _,λx b=>a.2 x (ZaU _ b)⟩
 have e:(aD t).length=(aA t.ae).length+1:=by rw[bT];simp
 unfold yD;split
 ·refine⟨E3 ω (ψ (Bc hi.2)),?_⟩;grind [EV,E5,Lm,nc]
 ·split
  ·refine⟨E3 ω (E4 _ _ (Bc hi.2)),?_⟩;grind [CD,E5,E6,nc]
  ·split
   ·grind [Vh]
   ·exact⟨h,a⟩
mutual
theorem qp:∀t:ah,sL t->NL (aD t).length (aD t)->Kept t (j7 t)
 | .mk op r mn mx lz cap nk ks,h,hn=>by
  rw[sL] at h
  rw[aD] at hn
  obtain⟨r1,r2⟩:=nX ks h.2 ⟨Zah _,λx hx=>hn.2 x (ZaU _ hx)⟩
  have hN:NL (aD (.mk op r mn mx lz cap nk ks)).length (aD (.mk op r mn mx lz cap nk (dC ks))):=by
   rw[aD,aD]
   refine⟨by have:=r2.1;simp only[Zae];omega,λx hx=>?_⟩
   rcases List.mem_cons.mp hx with hx | hx
   ·rw[hx];exact hn.2 ⟨op,r,mn,mx,lz,cap,ks.length⟩ Za8
   ·exact r2.2 x hx
  have B:=Oj (t:=.mk op r mn mx lz cap nk (dC ks)) (by rw[sL,qo];exact⟨h.1,r1⟩) ⟨Zah _,hN.2⟩
  rw[j7]
  exact⟨B.1,B.2.to hN.1⟩
theorem nX:∀l:List ah,pD l->NL (aA l).length (aA l)->pD (dC l)/\NL (aA l).length (aA (dC l))
 | [],_,h=>⟨by rw[dC,pD];trivial,by rw[dC];exact h⟩
 | t::l,h,hn=>by
  rw[pD] at h
  obtain⟨p1,p2,p3⟩:=nW hn
  have a:=qp t h.1 p1
  have b:=nX l h.2 p2
  rw[dC,pD,eH (j7 t)]
  exact⟨⟨a.1,b.1⟩,(a.2.app b.2).to p3⟩
end
theorem Qrp (y:ah) (u:IF.pre y):Vd y:=by
 obtain⟨h1,n⟩:dO y/\sL y:=u;have hi:=(jx y).mp n;have hk:=h1.ae;have hl:=hk.len;have t:=qo y.ae;obtain⟨z,h⟩:=nX y.ae hi.2 ⟨Zah _,hk.2⟩;unfold Vd;simp only[bL,bC,au,aT,br,dq,bR,Zad,Oh,E1,aC];refine⟨ω,ω,⟨0,rfl,rfl,Zaj _⟩,λx k=>⟨λe=>?_,λe=>?_⟩⟩
 ·have c:x<y.ae.length:=ω;have q:y.ae.getD x (ah.mk 0 [] 0 0 false 0 0 [])=y.ae.getD x bF:=rfl;rw[q];have ht:(dC y.ae).take (x+1)=(dC y.ae).take x++[j7 (y.ae.getD x bF)]:=by
   rw[cq bF ω,eL (show x<(dC y.ae).length by omega),eL c];grind [Oi]
  have f:sL (y.ae.getD x bF):=by grind [kh]
  exact⟨ω,e,⟨⟨hk.get c,f⟩,iP c⟩,by grind,x+1,ht.symm,bK ω,ω,ω⟩
 ·have k:(dC y.ae).take x=dC y.ae:=ZaA ω;rw[k,χ y];generalize s:dC y.ae=a at*
  have w:∀op,(aF op a).length<=1000000/\dT (aF op a):=λop=>by
   have:=nc op a _ h;have j:dT (aF op a):=⟨Zav this.1 hk.1,this.2⟩;exact⟨j.len,j⟩
  refine⟨λo=>?_,λg=>⟨λo=>?_,λl=>⟨λo=>?_,λv=>?_⟩⟩⟩
  ·rw[show yD (.mk y.op y.r y.mn y.mx y.lz y.cap y.nk a)=EV (.mk y.op y.r y.mn y.mx y.lz y.cap y.nk a) from Zac o];grind
  ·rw[show yD (.mk y.op y.r y.mn y.mx y.lz y.cap y.nk a)=CD (.mk y.op y.r y.mn y.mx y.lz y.cap y.nk a) from(Zaa g).trans (Zac o)];grind
  ·rw[show yD (.mk y.op y.r y.mn y.mx y.lz y.cap y.nk a)=cV (.mk y.op y.r y.mn y.mx y.lz y.cap y.nk a) from((Zaa g).trans (Zaa l)).trans (Zac o)];obtain⟨b1,m⟩:=hi.1 o;have d:0<a.length:=ω;have p:dT a:=⟨Zav h.1 hk.1,h.2⟩;have b:sL (a.getD 0 bF):=by grind [kh]
   exact⟨⟨show 1<=a.length by omega,p.get d,m,λi=>⟨(((jx _).mp b).1 i).2,(((jx _).mp b).1 i).1⟩⟩,rfl,rfl,rfl,rfl,rfl,rfl,rfl,rfl⟩
  ·rw[show yD (.mk y.op y.r y.mn y.mx y.lz y.cap y.nk a)=(.mk y.op y.r y.mn y.mx y.lz y.cap y.nk a) from((Zaa g).trans (Zaa l)).trans (Zaa v)];exact⟨rfl,rfl,rfl,rfl,rfl,rfl,rfl,rfl⟩
def Qj4 (a:Ok dB):Ok IF:=RC dm υ ⟨Qrc,Qrm a,Qj3⟩ Qrp
def cP (y:List Nd):List Nd:=if dS y=true then aD (j7 (cu y).1) else[]
def oy (y:List Nd):Prop:=∀x∈y,iO x
def E7:bh D:=bO 77 (List Nd) ZE oy (λy=>[.list 7 y]) λy=>.list 7 (lk (cP y))
def Vi (y:List Nd):Prop:=let a:=(cu y).1;let q1:=ah.mk a.op a.r a.mn a.mx a.lz a.cap a.nk a.ae;let b:=Oh q1;let c:=ah.mk b.op b.r b.mn b.mx b.lz b.cap b.nk b.ae;Iv (cE y)/\RAG y (aj (!(dS y)) ([]=lk (cP y)/\True) (Iv (y.length<=1000000/\Option.isSome (fN y.length y))/\aa [y] (Iv (dO q1/\sL q1)/\aa [a.op] (aa [a.r] (aa [a.mn,a.mx] (aa [a.lz] (aa [a.cap,a.nk] (aa [a.ae] (Iv (dO c)/\aa [b.op] (aa [b.r] (aa [b.mn,b.mx] (aa [b.lz] (aa [b.cap,b.nk] (aa [b.ae] (dg c=lk (cP y)/\True)))))))))))))))
def Ol (x:Nd):Prop:=∃g:Nat,(ck x g).2
mutual
def ku:ah->Prop
 | .mk op r mn mx lz cap nk ks=>Ol ⟨op,r,mn,mx,lz,cap,ks.length⟩/\nk=ks.length/\nf ks
def nf:List ah->Prop
 | []=>True
 | t::l=>ku t/\nf l
end
def iQ (t:ah):ku t↔Ol ⟨t.op,t.r,t.mn,t.mx,t.lz,t.cap,t.ae.length⟩/\t.nk=t.ae.length/\nf t.ae:=by cases t;rw[ku];exact ZbW
theorem qq (l:List ah):nf l↔∀t∈l,ku t:=by
 induction l with
 | nil=>simp[nf]
 | cons a l b=>rw[nf,b];simp
mutual
theorem tR:∀(t:ah) (m:Nat) (rest:List Nd),ku t->(aD t++rest).length<=m->fN m (aD t++rest)=some (t,rest)
 | .mk op r mn mx lz cap nk ks,m,rest,h,hm=>by
  rw[ku] at h
  rw[aD] at hm ⊢
  simp only[Za1,Zae] at hm ⊢
  obtain⟨k,rfl⟩:∃k,m=k+1:=⟨m-1,ω⟩
  rw[fN]
  simp only[Zad]
  rw[yE ks k rest h.2.2 ω,h.2.1]
theorem yE:∀(l:List ah) (m:Nat) (rest:List Nd),nf l->(aA l++rest).length<=m->jI (fN m) l.length (aA l++rest)=some (l,rest)
 | [],m,rest,_,_=>by simp[jI,aA]
 | t::l,m,rest,h,hm=>by
  rw[nf] at h
  rw[aA,ZaD] at hm ⊢
  rw[Zae,jI,tR t m _ h.1 hm]
  simp only
  rw[yE l m rest h.2 (by simp only[Zab] at hm ⊢;omega)]
end
variable {L:List Nd}
theorem E9 {x:Nd} {g:Int} (h:(ck x g).2):(ck x g).1=x.ae/\0<=x.ae:=by
 revert h
 grind [ck]
def Gr (L:List Nd) (f:Nat->Nat->Bool×Nat×Nat):Prop:=∀a g b c,f a g=(true,b,c)->∃t,ku t/\L.drop a=aD t++L.drop b
theorem Be {f:Nat->Nat->Bool×Nat×Nat} (e:Gr L f):∀(k a g b d:Nat),fF f k a g=(true,b,d)->∃c,nf c/\c.length=k/\L.drop a=aA c++L.drop b
 | 0,a,g,b,d,h=>by cases h;exact⟨[],by grind [nf],rfl,by rfl⟩
 | k+1,a,g,b,d,h=>by
  rw[fF] at h;split at h
  ·grind
  ·rename_i h1
   obtain⟨t,i,j⟩:=e a g (f a g).2.1 (f a g).2.2 (by
    have:(f a g).1:=by grind
    rw[<-this])
   obtain⟨c,l,m,n⟩:=Be e k _ _ _ _ h;exact⟨t::c,by grind [nf],by grind,by grind [aA]⟩
theorem E' (L:List Nd):∀n,Gr L (fG L n)
 | 0=>λa g b j h=>by cases h
 | n+1=>λa g b j h=>by
  rw[fG] at h;split at h
  ·cases h
  ·rename_i hl
   have e:L.drop a=L.getD a (nd 0)::L.drop (a+1):=by simp_all
   generalize L.getD a (nd 0)=x at h e;split at h
   ·cases h
   ·rename_i hs
    have c:(ck x g).2:=by grind
    obtain⟨i,e2⟩:=E9 c;obtain⟨f,h1,k,l⟩:=Be (E' L n) _ _ _ _ _ h;rw[i] at k;have d:(f.length:Int)=x.ae:=ω;refine⟨.mk x.op x.r x.mn x.mx x.lz x.cap x.ae f,by rw[ku,d];exact⟨⟨g,c⟩,rfl,h1⟩,?_⟩;rw[e,l,aD,d];rfl
theorem jl (h:dS L):∃t,ku t/\L=aD t/\L.length<=480:=by
 unfold dS at h;simp only[ZaW,ZaP,Zb7] at h;obtain⟨⟨⟨h1,a⟩,b⟩,c⟩:=h;obtain⟨t,d,e⟩:=E' L 241 0 0 (fG L 241 0 0).2.1 (fG L 241 0 0).2.2 (by grind);grind
theorem yF {t:ah} (h:ku t):fN (aD t).length (aD t)=some (t,[]):=by
 have:=tR t (aD t).length [] h (by simp);grind
theorem pE {t:ah} (h:ku t):cu (aD t)=(t,[]):=by
 grind [cu,aC,yF]
theorem Ol.rep {x:Nd} (h:Ol x) (a:x.op=5):x.ae=1/\0<=x.mn/\x.mn<=30/\(x.mx= -1\/(x.mn<=x.mx/\x.mx<=30)):=by
 obtain⟨g,h⟩:=h;grind [ck]
mutual
theorem E_:∀t:ah,ku t->sL t
 | .mk op r mn mx lz cap nk ks,h=>by
  rw[ku] at h
  rw[sL]
  refine⟨λh5=>?_,Vj ks h.2.2⟩
  obtain⟨h1,h2,_⟩:=h.1.rep h5
  have h1:(ks.length:Int)=1:=h1
  exact⟨ω,h2⟩
theorem Vj:∀l:List ah,nf l->pD l
 | [],_=>by rw[pD];trivial
 | t::l,h=>by rw[nf] at h;rw[pD];exact⟨E_ t h.1,Vj l h.2⟩
end
theorem Qrr (y:List Nd) (j:E7.pre y):Vi y:=by
 have a:cE y:=j;unfold Vi;simp only[bC,bR,Oh,dg,aC,Zan,Zao];refine⟨a,λh=>?_,λh=>?_⟩
 ·grind [cP]
 ·obtain⟨t,h1,f,g⟩:=jl h;have d:=E_ t h1;have e:cu y=(t,[]):=by grind [pE]
  have hs:cP y=aD (j7 t):=by
   grind [cP]
  have b:NL (aD t).length (aD t):=by rw[<-f];exact⟨Zah _,a⟩
  have i:(aD t).length<=480:=by grind
  obtain⟨_,k2⟩:=qp t d b;rw[e,hs];have k1:(aD (j7 t)).length<=(aD t).length:=k2.1;have c:(aD t).length<=1000000:=Zav i (by decide);refine⟨⟨Zav g (by decide),?_⟩,⟨⟨c,b.2⟩,d⟩,⟨Zav k1 c,k2.2⟩,rfl⟩;grind [yF]
def Qcz (a:Ok dB):Ok E7:=okZ [Ie,IB,IF,IC] f77 (λ_=>dY ()) ⟨Qck a,QjG,Qj4 a,QjH⟩ Qrr
def pF (op mn mx:Int) (k s:Nat):Nat:=
 if op=2\/op=7\/op=8 then 1 else if op=4 then s+2*(k-1) else if op=6 then s+2
 else if op=5 then(if mx= -1 then mn.toNat*s+s+2 else mn.toNat*s+(mx.toNat-mn.toNat)*(s+1)) else s
mutual
def bt:ah->Nat
 | .mk op _ mn mx _ _ _ ks=>pF op mn mx ks.length (aQ ks)
def aQ:List ah->Nat
 | []=>0
 | t::l=>bt t+aQ l
end
def eP (n:Nat):Int:=min (n:Int) 401
mutual
def jK:ah->List Int
 | .mk op _ mn mx _ _ _ ks=>eP (pF op mn mx ks.length (aQ ks))::fW ks
def fW:List ah->List Int
 | []=>[]
 | t::l=>jK t++fW l
end
mutual
def qE:ah->Nat->List Int
 | .mk _ _ _ _ _ _ _ ks,a=>((a+1+(aA ks).length:Nat):Int)::lf ks (a+1)
def lf:List ah->Nat->List Int
 | [],_=>[]
 | t::l,a=>qE t a++lf l (a+(aD t).length)
end
def kx (o:List Int) (a:Nat) (s:List Int):List Int:=o.take a++s++o.drop (a+s.length)
structure nw where
 l:List Nd
 o:List Int
 a:Int
def nw.t (y:nw):ah:=lk (cu (y.l.drop y.a.toNat)).1
def nw.n (y:nw):Nat:=lk (aD y.t).length
def Qj5 (args:List (AV D.E)) (s:St D.E):C nw:=match args with
 | [l,o,a]=>az (aL D s 7 l) λl=>az (aL D s 5 o) λo=>aP (cT a) λ_ a=>.ret ⟨l,o,a⟩
 | _=>.fail
def Om (y:nw):Prop:=0<=y.a/\y.o.length=y.l.length/\y.l.length<=480/\∃t r,ku t/\y.l.drop y.a.toNat=aD t++r
abbrev Bf (l:List Int):List (Nat×AO D.E):=[(0,.arr 5 l 3 false)]
variable {a:Nat} {o s:List Int}
def F7 (y:nw):List Int:=lk (kx y.o y.a.toNat (jK y.t))
def szC:bh D:=⟨117,nw,Qj5,Om,λy=>[.list 7 y.l,.own 0 1 (ag y.o),Qvo y.a],λy=>Bf y.o,λy=>Qvo (y.a+y.n),λy=>Bf (F7 y),1,1⟩
def Θ (y:nw) (k:Nat):List Int:=lk (kx y.o (y.a.toNat+1) (fW (y.t.ae.take k)))
def Pj (y:nw) (k:Nat):Int:=lk (y.a+1+(aA (y.t.ae.take k)).length)
def szM (y:nw) (k:Nat):Int:=lk (eP (aQ (y.t.ae.take k)))
def szO (y:szC.Y):cH D:=⟨[],[],[(250,⟨Nat,[0,2,18],λx=>[(1,.own 0 1 (ag (Θ y x))),(7,.ptr 1 0),(8,Qvo (Pj y x)),(9,Qvo (szM y x)),(19,Qvo x)],[1],λx=>Bf (Θ y x),2,λx=>x<=y.t.ae.length,λx=>y.t.ae.length-x⟩)],[],1,[]⟩
def szV (y:szC.Y):Prop:=vc [szC.under (λy=>dm y.t) (dm y.t)] f117 szC szO y
def IG (y:nw):List Int:=lk (kx y.o y.a.toNat (qE y.t y.a.toNat))
def enC:bh D:=⟨118,nw,Qj5,Om,λy=>[.list 7 y.l,.own 0 1 (ag y.o),Qvo y.a],λy=>Bf y.o,λy=>Qvo (y.a+y.n),λy=>Bf (IG y),1,1⟩
def Λ (y:nw) (k:Nat):List Int:=lk (kx y.o (y.a.toNat+1) (lf (y.t.ae.take k) (y.a.toNat+1)))
def enO (y:enC.Y):cH D:=⟨[],[],[(58,⟨Nat,[0,2,14],λx=>[(1,.own 0 1 (ag (Λ y x))),(7,Qvo (Pj y x)),(15,Qvo x)],[],λx=>Bf (Λ y x),1,λx=>x<=y.t.ae.length,λx=>y.t.ae.length-x⟩)],[],1,[]⟩
def enV (y:enC.Y):Prop:=vc [enC.under (λy=>dm y.t) (dm y.t)] f118 enC enO y
def Qfi (y:nw):Prop:=let j:=F7 y;let q1:=y.a.toNat;let g:=lk (cu (List.drop q1 y.l)).1;let b:=gt (Nd.mk 0 [] 0 0 false 0 0) y.l q1;let q:=g.ae.length;let u:=gG .i64 2 (cx .i64 b.ae 1);let v:=cx .i64 b.mx b.mn;let t:=λp:Prop=>RA6 b p;let A:=y.a+((lk (aD g).length:Nat):Int);aG 0 y.a/\aw y.a (ag y.l)/\(∃z:Nat,RAI y.l y.a b.ae (ag y.o=ag (Θ y z)/\ay .i64 y.a 1=Pj y z/\0=szM y z/\0=(z:Int)/\t (y.o=Θ y z/\(Iv (z<=q)))))/\(∀x:Nat,let f:=Θ y x;let e:=Pj y x;let d:=szM y x;let c:=ag f;let k:=F7 (nw.mk y.l f e);let m:=lk (cu (List.drop e.toNat y.l)).1;let n:=gG .i64 b.mn d;let s:=aw (x:Int) b.ae;let h:Prop:=(aG 0 y.a/\aw y.a c/\e=A/\cS f q1 (cM 1 401)=j/\True);let i:Prop:=(aj (aB b.op 4) (aG 0 y.a/\aw y.a c/\e=A/\cS f q1 (cM (ay .i64 d u) 401)=j/\True) (aj (aB b.op 6) (aG 0 y.a/\aw y.a c/\e=A/\cS f q1 (cM (ay .i64 d 2) 401)=j/\True) (aj (aB b.op 5) (aj (aB b.mx (-1)) (aG 0 y.a/\aw y.a c/\e=A/\cS f q1 (cM (ay .i64 (ay .i64 n d) 2) 401)=j/\True) (aG 0 y.a/\aw y.a c/\e=A/\cS f q1 (cM (ay .i64 n (gG .i64 v (ay .i64 d 1))) 401)=j/\True)) (aG 0 y.a/\aw y.a c/\e=A/\cS f q1 (cM d 401)=j/\True))));(Iv (x<=q))->aj s (Iv (Om (nw.mk y.l f e)/\dm m<dm g)/\RAJ y.l c e f (aG 0 e/\aw e c/\∃z:Nat,aa [y.l] (aa [y.a,b.ae] (c=ag (Θ y z)/\(e+((lk (aD m).length:Nat):Int))=Pj y z/\cM (ay .i64 d (gt 0 k e.toNat)) 401=szM y z/\ay .i64 (x:Int) 1=(z:Int)/\t (k=Θ y z/\(Iv (z<=q/\(q-z)<(q-x)))))))) (aj (aB b.op 2) (aj (aB b.op 2) (h) (i)) (aj (aB b.op 7) (aj (aB b.op 7) (h) (i)) (aj (aB b.op 8) (h) (i)))))
def Qfj:∀y,Qfi y=szV y:=λy=>by kernel_rfl
def Qfk (y:nw):Prop:=let d:=lk (cu (List.drop y.a.toNat y.l)).1;let q1:=d.ae.length;let u:=gt (Nd.mk 0 [] 0 0 false 0 0) y.l y.a.toNat;let f:=λp:Prop=>RAI y.l y.a u.ae p;aG 0 y.a/\aw y.a (ag y.l)/\(∃z:Nat,f (ag y.o=ag (Λ y z)/\ay .i64 y.a 1=Pj y z/\0=(z:Int)/\y.o=Λ y z/\(Iv (z<=q1))))/\(∀x:Nat,let b:=Pj y x;let c:=Λ y x;let e:=lk (cu (List.drop b.toNat y.l)).1;let g:=aw (x:Int) u.ae;(Iv (x<=q1))->aj g (Iv (Om (nw.mk y.l c b)/\dm e<dm d)/\RAJ y.l (ag c) b c (∃z:Nat,f (ag c=ag (Λ y z)/\(b+((lk (aD e).length:Nat):Int))=Pj y z/\ay .i64 (x:Int) 1=(z:Int)/\IG (nw.mk y.l c b)=Λ y z/\(Iv (z<=q1/\(q1-z)<(q1-x)))))) (aG 0 y.a/\aw y.a (ag c)/\b=(y.a+((lk (aD d).length:Nat):Int))/\cS c y.a.toNat b=IG y/\True))
def Qfl:∀y,Qfk y=enV y:=λy=>by kernel_rfl
theorem IH {α:Type} {i b:List α} {d:α} (h:i.length<=a):(i++b).getD a d=b.getD (a-i.length) d:=by
 grind
def Lo (o:List Int) (a:Nat):kx o a []=o:=by simp[kx]
theorem Lp (h:a+s.length<=o.length):(kx o a s).length=o.length:=by
 grind [kx]
theorem Lq {b:Nat} {t:List Int} (h:a+s.length<=o.length) (d:b=a+s.length):kx (kx o a s) b t=kx o a (s++t):=by
 subst d;unfold kx;have c:(o.take a++s++o.drop (a+s.length)).take (a+s.length)=o.take a++s:=ZdF (by grind);have e2:(o.take a++s++o.drop (a+s.length)).drop (a+s.length+t.length)=o.drop (a+s.length+t.length):=by
  rw[<-ZbZ,List.drop_left' (by simp;omega),ZbZ]
 rw[c,e2,Zab,<-Za4];simp
theorem Lr (v:Int) (h:a<o.length):(kx o (a+1) s).set a v=kx o a (v::s):=by
 unfold kx;have b:o.take (a+1)=o.take a++[o[a]]:=by simp_all
 have e2:(o.take a).length=a:=by grind
 rw[b,ZaD,ZaD,ZbY _ _ ω,e2,Zb3];grind
theorem Qfm {i:Nat} (h:a<=o.length) (hi:i<s.length):(kx o a s).getD (a+i) 0=s.getD i 0:=by
 grind [kx]
theorem rB (t:ah):jK t=eP (bt t)::fW t.ae:=by cases t;rw[jK,bt];rfl
def size_eq (t:ah):bt t=pF t.op t.mn t.mx t.ae.length (aQ t.ae):=by cases t;rw[bt];rfl
theorem II (t:ah) (a:Nat):qE t a=((a+(aD t).length:Nat):Int)::lf t.ae (a+1):=by
 rw[bT];cases t with
 | mk op r mn mx lz cap nk b=>rw[qE];simp[ah.ae];omega
mutual
theorem Fa:∀t:ah,(jK t).length=(aD t).length
 | .mk op r mn mx lz cap nk ks=>by rw[jK,aD,Zae,Zae,lg ks]
theorem lg:∀l:List ah,(fW l).length=(aA l).length
 | []=>by simp[fW,aA]
 | t::l=>by rw[fW,aA,Zab,Zab,Fa t,lg l]
end
mutual
theorem Fb:∀(t:ah) (a:Nat),(qE t a).length=(aD t).length
 | .mk op r mn mx lz cap nk ks,a=>by rw[qE,aD,Zae,Zae,pG ks]
theorem pG:∀(l:List ah) (a:Nat),(lf l a).length=(aA l).length
 | [],a=>by simp[lf,aA]
 | t::l,a=>by rw[lf,aA,Zab,Zab,Fb t,pG l]
end
variable {Z:ah} {l Y:List Nd} {a:Nat}
theorem Ky (a b:List ah):fW (a++b)=fW a++fW b:=by
 induction a with
 | nil=>simp[fW]
 | cons x a c=>simp[fW,c]
theorem tS (a b:List ah):aQ (a++b)=aQ a+aQ b:=by
 induction a with
 | nil=>simp[aQ]
 | cons x a c=>simp[aQ,c];omega
theorem yG:∀(l m:List ah) (a:Nat),lf (l++m) a=lf l a++lf m (a+(aA l).length)
 | [],m,a=>by rfl
 | t::l,m,a=>by
  rw[Za1,lf,yG l m,lf,aA,Zab,ZaD,Za4]
theorem Vk (h:ku Z) (r:List Nd):cu (aD Z++r)=(Z,r):=by
 grind [cu,aC,tR]
theorem ki {r:List Nd} (h:ku Z) (e:l.drop a=aD Z++r):lk (cu (l.drop a)).1=Z:=by
 rw[aC,e,Vk h]
theorem wi {x:Nat} (e:l.drop a=aD Z++Y) (d:x<Z.ae.length):l.drop (a+1+(aA (Z.ae.take x)).length)=aD (Z.ae.getD x bF)++(aA (Z.ae.drop (x+1))++Y):=by
 have c:Z.ae=Z.ae.take x++(Z.ae.getD x bF::Z.ae.drop (x+1)):=by
  simp_all
 have b:aA Z.ae=aA (Z.ae.take x)++(aD (Z.ae.getD x bF)++aA (Z.ae.drop (x+1))):=by
  grind [cG,aA]
 rw[show a+1+(aA (Z.ae.take x)).length=a+(1+(aA (Z.ae.take x)).length) by omega,<-ZbZ,e,bT,b,Za1,ZaD];grind
theorem qt (e:l.drop a=aD Z++Y):a<l.length/\l.getD a (nd 0)=⟨Z.op,Z.r,Z.mn,Z.mx,Z.lz,Z.cap,Z.ae.length⟩/\a+(aD Z).length<=l.length:=by
 grind [bT,List.length_append,List.drop_eq_getElem_cons]
theorem IJ (n:Nat):0<=eP n/\eP n<=401:=by grind [eP]
theorem lh (a b:Int):cM a b=min a b:=by grind [cM]
theorem Ξ (s u:Nat):cM (ay .i64 (eP s) (eP u)) 401=eP (s+u):=by
 grind [lh,eP]
theorem Ls (s k:Nat) (hk:k<=1000):cM (ay .i64 (eP s) (k:Int)) 401=eP (s+k):=by
 grind [lh,eP]
theorem Vl {mn:Int} (s:Nat) (h0:0<=mn) (h1:mn<=30):cM (ay .i64 (ay .i64 (gG .i64 mn (eP s)) (eP s)) 2) 401=eP (mn.toNat*s+s+2):=by
 obtain⟨m,rfl⟩:=Zau h0;by_cases hs:s<=401
 ·have a:m*s<=30*401:=Zci ω hs;grind [lh,eP]
 ·grind [eP,lh]
theorem Φ {mn mx:Int} (s:Nat) (h0:0<=mn) (h1:mn<=mx) (f:mx<=30):cM (ay .i64 (gG .i64 mn (eP s)) (gG .i64 (cx .i64 mx mn) (ay .i64 (eP s) 1))) 401=eP (mn.toNat*s+(mx.toNat-mn.toNat)*(s+1)):=by
 obtain⟨m,rfl⟩:=Zau h0;have⟨d,i⟩:=Zau (show 0<=mx-m by omega);have c:mx=((m+d:Nat):Int):=ω;subst c;have e:=IJ s;rw[jQ ω ω,show((m+d:Nat):Int) -(m:Int)=(d:Int) by omega,Zad,Zad,ZcN,ba (a:=eP s) (b:=1) ω ω];by_cases hs:s<=401
 ·have g:m*s<=30*401:=Zci ω hs;have h:d*(s+1)<=30*402:=Zci ω ω;grind [lh,eP]
 ·have g1:m*402<=m*s:=Zci ω ω;have g2:d*403<=d*(s+1):=Zci ω ω;grind [lh,eP]
theorem Om.out {y:nw} (h:Om y):∃(a:Nat) (r:List Nd),y.a=a/\ku y.t/\y.l.drop a=aD y.t++r/\y.o.length=y.l.length/\y.l.length<=480/\y.n=(aD y.t).length:=by
 have⟨h0,h1,b,t,r,c,d⟩:=h;grind [nw.t,ki,nw.n,aC]
theorem szH (y:nw) (P:szC.pre y):Qfi y:=by
 have⟨a,r,B,hw,n,O,hl,W⟩:=Om.out P;have⟨l,o,U⟩:=y;simp only at B n O hl;subst B;have⟨Z,Q,n3⟩:=qt n;have s:=(iQ _).mp hw;have J:lk (cu (List.drop a l)).1=nw.t ⟨l,o,a⟩:=rfl;have E:∀k,Pj ⟨l,o,a⟩ k=((a+1+(aA ((nw.t ⟨l,o,a⟩).ae.take k)).length:Nat):Int):=λk=>by grind [Pj,aC]
 have G:∀k,Θ ⟨l,o,a⟩ k=kx o (a+1) (fW ((nw.t ⟨l,o,a⟩).ae.take k)):=λk=>by grind [Θ,aC]
 have H:∀k,szM ⟨l,o,a⟩ k=eP (aQ ((nw.t ⟨l,o,a⟩).ae.take k)):=λk=>by unfold szM;rw[aC]
 have I:F7 ⟨l,o,a⟩=kx o a (jK (nw.t ⟨l,o,a⟩)):=by grind [F7,aC]
 unfold Qfi;simp only[Zad,J];rw[I];generalize nw.t ⟨l,o,a⟩=t at*
 have K:=bT t;have L:(aD t).length=(aA t.ae).length+1:=by grind
 have p:gt (Nd.mk 0 [] 0 0 false 0 0) l a=⟨t.op,t.r,t.mn,t.mx,t.lz,t.cap,t.ae.length⟩:=Q;have C:∀k,(aA (t.ae.take k)).length<=(aA t.ae).length:=λk=>by
  grind [List.take_append_drop,cG]
 have N:t.ae.length<=(aA t.ae).length:=by
  have key:∀l:List ah,l.length<=(aA l).length:=λl=>by
   induction l with
   | nil=>simp
   | cons x l Y=>simp only[aA,Zab,Zae];rw[bT];simp;omega
  exact key _
 have hlen:∀k,(kx o (a+1) (fW (t.ae.take k))).length=o.length:=λk=>Lp (by grind [lg])
 rw[p];simp only[E,G,H];simp only[bL,bC,au,dq,Zad,hlen,aC];refine⟨ω,ω,⟨0,by grind [aA],by rfl,rfl,by simp[fW,Lo],Zaj _⟩,λx X=>⟨λe=>?_,λe=>?_⟩⟩
 ·have b:x<t.ae.length:=ω;have hk:=wi n b;have u:ku (t.ae.getD x bF):=by grind [qq]
  have ht:=cq bF b;have⟨m1,_,m3⟩:=qt hk;have w:Om ⟨l,kx o (a+1) (fW (t.ae.take x)),((a+1+(aA (t.ae.take x)).length:Nat):Int)⟩:=⟨by grind,by grind,hl,_,_,u,by assumption⟩;have q:(cu (List.drop (a+1+(aA (t.ae.take x)).length) l)).1=t.ae.getD x bF:=by grind [aC,ki]
  have i:F7 ⟨l,kx o (a+1) (fW (t.ae.take x)),((a+1+(aA (t.ae.take x)).length:Nat):Int)⟩=kx o (a+1) (fW (t.ae.take (x+1))):=by
   unfold F7 nw.t;grind [aC,Lq,lg,Ky,fW]
  have F:(kx o (a+1) (fW (t.ae.take (x+1)))).getD (a+1+(aA (t.ae.take x)).length) 0=eP (bt (t.ae.getD x bF)):=by
   rw[ht,Ky,fW,fW,Zaw,<-lg,Qfm ω (by rw[rB];simp),IH ω,Zb3,rB];rfl
  rw[i,F,q];refine⟨⟨w,iP b⟩,ω,ω,x+1,?_,?_,bK ω,rfl,ω,ω⟩
  ·grind [cG,aA]
  ·grind [tS,aQ,Ξ]
 ·have b:x=t.ae.length:=ω;subst b;rw[ZaM];have c:((a+1+(aA t.ae).length:Nat):Int)=(a:Int)+(((aD t).length:Nat):Int):=ω;have fin:∀v,v=eP (bt t)->cS (kx o (a+1) (fW t.ae)) a v=kx o a (jK t):=λv D=>by
   show(kx o (a+1) (fW t.ae)).set a v=_
   grind [Lr,rB]
  have di:=size_eq t;unfold pF at di;have all:∀v,v=eP (bt t)->(0:Int)<=a/\(a:Int)<(o.length:Int)/\((a+1+(aA t.ae).length:Nat):Int)=(a:Int)+(((aD t).length:Nat):Int)/\cS (kx o (a+1) (fW t.ae)) a v=kx o a (jK t):=λv D=>⟨ω,ω,c,fin v D⟩
  have one:t.op=2\/t.op=7\/t.op=8->cM 1 401=eP (bt t):=λh=>by rw[di,Zac h];decide
  have wf:=s.1;have rest:¬(t.op=2\/t.op=7\/t.op=8)->((t.op=4->(0:Int)<=a/\(a:Int)<(o.length:Int)/\((a+1+(aA t.ae).length:Nat):Int)=(a:Int)+(((aD t).length:Nat):Int)/\cS (kx o (a+1) (fW t.ae)) a (cM (ay .i64 (eP (aQ t.ae)) (gG .i64 2 (cx .i64 (t.ae.length:Int) 1))) 401)=kx o a (jK t))/\
    (t.op≠4->(t.op=6->(0:Int)<=a/\(a:Int)<(o.length:Int)/\((a+1+(aA t.ae).length:Nat):Int)=(a:Int)+(((aD t).length:Nat):Int)/\cS (kx o (a+1) (fW t.ae)) a (cM (ay .i64 (eP (aQ t.ae)) 2) 401)=kx o a (jK t))/\
    (t.op≠6->(t.op=5->(t.mx= -1->(0:Int)<=a/\(a:Int)<(o.length:Int)/\((a+1+(aA t.ae).length:Nat):Int)=(a:Int)+(((aD t).length:Nat):Int)/\cS (kx o (a+1) (fW t.ae)) a (cM (ay .i64 (ay .i64 (gG .i64 t.mn (eP (aQ t.ae))) (eP (aQ t.ae))) 2) 401)=kx o a (jK t))/\
     (t.mx≠-1->(0:Int)<=a/\(a:Int)<(o.length:Int)/\((a+1+(aA t.ae).length:Nat):Int)=(a:Int)+(((aD t).length:Nat):Int)/\cS (kx o (a+1) (fW t.ae)) a (cM (ay .i64 (gG .i64 t.mn (eP (aQ t.ae))) (gG .i64 (cx .i64 t.mx t.mn) (ay .i64 (eP (aQ t.ae)) 1))) 401)=kx o a (jK t)))/\
    (t.op≠5->(0:Int)<=a/\(a:Int)<(o.length:Int)/\((a+1+(aA t.ae).length:Nat):Int)=(a:Int)+(((aD t).length:Nat):Int)/\cS (kx o (a+1) (fW t.ae)) a (cM (eP (aQ t.ae)) 401)=kx o a (jK t))))):=λh=>by
   rw[Zaa h] at di;refine⟨λd=>all _ ?_,λd=>⟨λz=>all _ ?_,λz=>⟨λf=>⟨λR=>all _ ?_,λR=>all _ ?_⟩,λf=>all _ ?_⟩⟩⟩
   ·rw[Zac d] at di;have M:1<=t.ae.length:=by
     have⟨g,V⟩:=wf;grind [ck]
    rw[di,A0 ω ω,xK ω ω];have:=Ls (aQ t.ae) (2*(t.ae.length-1)) ω;assumption
   ·rw[Zaa d,Zac z] at di;rw[di];exact Ls _ 2 ω
   ·have⟨_,S,T,_⟩:=wf.rep f;grind [Vl]
   ·have⟨_,S,T,w4⟩:=wf.rep f;grind [Φ]
   ·rw[Zaa d,Zaa z,Zaa f] at di;rw[di,lh];have:=IJ (aQ t.ae);omega
  refine⟨λj=>⟨λ_=>all _ (one (.inl j)),λh=>absurd j h⟩,λj=>⟨λm=>⟨λ_=>all _ (one (.inr (.inl m))),λh=>absurd m h⟩,λm=>⟨λA=>all _ (one (.inr (.inr A))),λA=>rest ω⟩⟩⟩
def Qrs:Ok szC:=RC (λy=>dm y.t) Qfj trivial szH
theorem enH (y:nw) (A:enC.pre y):Qfk y:=by
 have⟨a,r,j,hw,d,w,hl,E⟩:=Om.out A;have⟨l,o,C⟩:=y;simp only at j d w hl;subst j;have⟨H,B,I⟩:=qt d;have z:=(iQ _).mp hw;have q:lk (cu (List.drop a l)).1=nw.t ⟨l,o,a⟩:=rfl;have n:∀k,Pj ⟨l,o,a⟩ k=((a+1+(aA ((nw.t ⟨l,o,a⟩).ae.take k)).length:Nat):Int):=λk=>by grind [Pj,aC]
 have p:∀k,Λ ⟨l,o,a⟩ k=kx o (a+1) (lf ((nw.t ⟨l,o,a⟩).ae.take k) (a+1)):=λk=>by grind [Λ,aC]
 have D:IG ⟨l,o,a⟩=kx o a (qE (nw.t ⟨l,o,a⟩) a):=by grind [IG,aC]
 unfold Qfk;simp only[Zad,q];generalize nw.t ⟨l,o,a⟩=t at*
 have s:=bT t;have u:(aD t).length=(aA t.ae).length+1:=by grind
 have f:gt (Nd.mk 0 [] 0 0 false 0 0) l a=⟨t.op,t.r,t.mn,t.mx,t.lz,t.cap,t.ae.length⟩:=B;have m:∀k,(aA (t.ae.take k)).length<=(aA t.ae).length:=λk=>by
  grind [List.take_append_drop,cG]
 have v:t.ae.length<=(aA t.ae).length:=by
  have key:∀l:List ah,l.length<=(aA l).length:=λl=>by
   induction l with
   | nil=>simp
   | cons x l G=>simp only[aA,Zab,Zae];rw[bT];simp;omega
  exact key _
 have hlen:∀k,(kx o (a+1) (lf (t.ae.take k) (a+1))).length=o.length:=λk=>Lp (by grind [pG])
 rw[f];simp only[n,p];simp only[bL,bC,au,dq,Zad,hlen,aC];refine⟨ω,ω,⟨0,by grind [aA],rfl,by simp[lf,Lo],Zaj _⟩,λx F=>⟨λe=>?_,λe=>?_⟩⟩
 ·have b:x<t.ae.length:=ω;have hk:=wi d b;have h:ku (t.ae.getD x bF):=by grind [qq]
  have ht:=cq bF b;have i:Om ⟨l,kx o (a+1) (lf (t.ae.take x) (a+1)),((a+1+(aA (t.ae.take x)).length:Nat):Int)⟩:=⟨by grind,by grind,hl,_,_,h,by assumption⟩;have g:(cu (List.drop (a+1+(aA (t.ae.take x)).length) l)).1=t.ae.getD x bF:=by grind [aC,ki]
  have c:IG ⟨l,kx o (a+1) (lf (t.ae.take x) (a+1)),((a+1+(aA (t.ae.take x)).length:Nat):Int)⟩=kx o (a+1) (lf (t.ae.take (x+1)) (a+1)):=by
   unfold IG nw.t;grind [aC,Lq,pG,yG,lf]
  rw[c,g];refine⟨⟨i,iP b⟩,x+1,?_,bK ω,rfl,ω,ω⟩;grind [cG,aA]
 ·have b:x=t.ae.length:=ω;subst b;rw[ZaM];refine⟨ω,ω,ω,?_⟩;show(kx o (a+1) _).set a _=_
  grind [Lr,II]
def Qrt:Ok enC:=RC (λy=>dm y.t) Qfl trivial enH
def in0:aW:=⟨0,0,0,[]⟩
def iq (f:Nat->List aW) (sz:Nat):Nat->Nat->List aW
 | 0,_=>[]
 | n+1,b=>f b++iq f sz n (b+sz)
def fp (g:Nat->aW) (f:Nat->List aW) (sz:Nat):Nat->Nat->List aW
 | 0,_=>[]
 | n+1,b=>g b::(f (b+1)++fp g f sz n (b+1+sz))
def hZ (lz:Bool) (b out:Nat):aW:=if lz=true then⟨2,out,(b+1:Nat),[]⟩ else⟨2,(b+1:Nat),out,[]⟩
def lj (mn mx:Int):Nat:=mx.toNat-mn.toNat
def IK (f:Nat->List aW) (sz:Nat) (mn mx:Int) (lz:Bool) (b:Nat):List aW:=
 iq f sz mn.toNat b++(if mx= -1 then hZ lz (b+mn.toNat*sz) (b+mn.toNat*sz+sz+2)::(f (b+mn.toNat*sz+1)++[⟨3,(b+mn.toNat*sz:Nat),0,[]⟩])
  else fp (λi=>hZ lz i (b+mn.toNat*sz+lj mn mx*(sz+1))) f sz (lj mn mx) (b+mn.toNat*sz))
mutual
def bS:ah->Nat->List aW
 | .mk op r mn mx lz cap _ ks,b=>
  if op=2 then[⟨1,0,0,r⟩] else if op=7 then[⟨5,0,0,[]⟩] else if op=8 then[⟨6,0,0,[]⟩]
  else if op=3 then bu ks b
  else if op=4 then kj ks b (b+aQ ks+2*(ks.length-1))
  else if op=5 then IK (λb=>bu ks b) (aQ ks) mn mx lz b
  else if op=6 then⟨4,2*cap,0,[]⟩::(bu ks (b+1)++[⟨4,2*cap+1,0,[]⟩])
  else[]
def bu:List ah->Nat->List aW
 | [],_=>[]
 | t::l,b=>bS t b++bu l (b+bt t)
def kj:List ah->Nat->Nat->List aW
 | [],_,_=>[]
 | t::l,b,e=>if l.isEmpty=true then bS t b else⟨2,(b+1:Nat),(b+2+bt t:Nat),[]⟩::(bS t (b+1)++⟨3,e,0,[]⟩::kj l (b+2+bt t) e)
end
def fH:List ah->Nat->Nat->List aW
 | [],_,_=>[]
 | t::l,b,e=>⟨2,(b+1:Nat),(b+2+bt t:Nat),[]⟩::(bS t (b+1)++⟨3,e,0,[]⟩::fH l (b+2+bt t) e)
def jR:List ah->Nat->List Int
 | [],_=>[]
 | t::l,b=>(b+1+bt t:Nat)::jR l (b+2+bt t)
def jL (sz:Nat):Nat->Nat->List Int
 | 0,_=>[]
 | n+1,b=>(b:Int)::jL sz n (b+1+sz)
def ll (e:Int) (l:List aW) (j:Int):List aW:=l.set j.toNat ⟨(l.getD j.toNat in0).op,e,(l.getD j.toNat in0).y,(l.getD j.toNat in0).bm⟩
def fx (e:Int) (lz:Bool) (l:List aW) (j:Int):List aW:=l.set j.toNat ⟨(l.getD j.toNat in0).op,if lz=true then e else j+1,if lz=true then j+1 else e,(l.getD j.toNat in0).bm⟩
structure eD where
 af:List aW
 bz:List Nd
 cF:List Int
 aS:List Int
abbrev vt:=eD×Int
def Lt (n:Nat) (y:eD) (af:List aW):List (Nat×AO D.E):=[(0,.cells [.own n 4 (ag af),.list 7 y.bz,.list 5 y.cF,.list 5 y.aS] 197 false),(n,.arr 8 af 203 false)]
def Qfo (v:AV D.E) (s:St D.E):C eD:=match v with
 | .ptr b _=>az (cR (s.h.get b)) λo=>match o with
  | .cells cs _ _=>match cs with
   | [c,l,x,e]=>az (aL D s 8 c) λc=>az (aL D s 7 l) λl=>az (aL D s 5 x) λx=>az (aL D s 5 e) λe=>.ret ⟨c,l,x,e⟩
   | _=>.fail
  | _=>.fail
 | _=>.fail
def QcA (v:AV D.E):C aW:=az (asAgg v) λcs=>uW D 8 cs
def vu:bh D:=⟨119,eD×aW,λa s=>match a with
 | [p,i]=>az (Qfo p s) λy=>az (QcA i) λi=>.ret (y,i)
 | _=>.fail,λy=>y.1.af.length<=1000,λy=>[.ptr 0 0,.agg (D.a_ 8 y.2)],λy=>Lt 1 y.1 y.1.af,λy=>Qvo y.1.af.length,λy=>Lt 2 y.1 (y.1.af++[y.2]),2,3⟩
def Qru (_:vu.Y):cH D:=⟨[],[],[],[],1,[]⟩
def Fc:bh D:=⟨215,eD×Int×Int×Bool,λa s=>match a with
 | [p,i,o,b]=>az (Qfo p s) λy=>aP (cT i) λ_ i=>aP (cT o) λ_ o=>aP (zh b) λb _=>.ret (y,i,o,b)
 | _=>.fail,λy=>y.1.af.length<=1000/\0<=y.2.1/\y.2.1<y.1.af.length,λy=>[.ptr 0 0,Qvo y.2.1,Qvo y.2.2.1,.bool y.2.2.2],λy=>Lt 1 y.1 y.1.af,λ_=>.tuple [],λy=>Lt 1 y.1 (fx y.2.2.1 y.2.2.2 y.1.af y.2.1),2,2⟩
def eD.t (y:vt):ah:=lk (cu (y.1.bz.drop y.2.toNat)).1
def ln (y:vt):Prop:=0<=y.2/\y.1.bz.length<=480/\(∀x∈y.1.bz,iO x)/\∃t,ku t/\y.1.af.length+bt t<=400/\(∃r,y.1.bz.drop y.2.toNat=aD t++r)/\(∃r,y.1.cF.drop y.2.toNat=jK t++r)/\∃r,y.1.aS.drop y.2.toNat=qE t y.2.toNat++r
def Qrx (a:List (AV D.E)) (s:St D.E):C vt:=match a with
 | [p,i]=>az (Qfo p s) λy=>aP (cT i) λ_ i=>.ret (y,i)
 | _=>.fail
def ir (y:vt):List aW:=lk (y.1.af++bS (eD.t y) y.1.af.length)
def Qfp (f:FuncId) (pre:vt->Prop):bh D:=⟨f,vt,Qrx,pre,λy=>[.ptr 0 0,Qvo y.2],λy=>Lt 1 y.1 y.1.af,λ_=>.tuple [],λy=>Lt 2 y.1 (ir y),2,3⟩
def IL:bh D:=Qfp 120 ln
def Qfq (y:vt):Prop:=ln y/\(eD.t y).op=4
def Qfr (y:vt):Prop:=ln y/\(eD.t y).op=5
def On:bh D:=Qfp 177 Qfq
def Oo:bh D:=Qfp 178 Qfr
def fnM (y:vt) (n:Nat):s7:=[IL.under (λy=>2*dm (eD.t y)+1) n,On.under (λy=>2*dm (eD.t y)) n,Oo.under (λy=>2*dm (eD.t y)) n]
def vv (y:vt) (k:Nat):Int:=lk (y.2+1+(aA ((eD.t y).ae.take k)).length)
def Fe (y:vt) (k:Nat):List aW:=lk (y.1.af++bu ((eD.t y).ae.take k) y.1.af.length)
def Qj6 (y:IL.Y):cH D:=⟨[],[],[(30710,⟨Nat,[0,38],λk=>[(4,.ptr 2 0),(5,Qvo (vv y k)),(39,Qvo k)],[2],λk=>Lt 3 y.1 (Fe y k),4,λk=>k<=(eD.t y).ae.length,λk=>(eD.t y).ae.length-k⟩)],[],1,[]⟩
def Qrz (y:IL.Y):Prop:=vc (fnM y (2*dm (eD.t y)+1)++[vu]) f120 IL Qj6 y
def Ff (y:vt) (k:Nat):List aW:=lk (y.1.af++fH ((eD.t y).ae.take k) y.1.af.length 0)
def Fh (y:vt) (k:Nat):List Int:=lk (jR ((eD.t y).ae.take k) y.1.af.length)
def CG (y:vt):List aW:=lk (y.1.af++kj (eD.t y).ae y.1.af.length 0)
def CH (y:vt):List Int:=lk (jR (eD.t y).ae.dropLast y.1.af.length)
def Fi (y:vt) (j:Nat):List aW:=lk (((CH y).take j).foldl (ll (ir y).length) (CG y))
def vw (n:Nat):Nat×AO D.E:=(n,.tok 5 3)
def Qj7 (y:On.Y):cH D:=⟨[],[],[
 (58,⟨Nat,[0,1,19],λk=>[(4,.grow 5 (Fh y k) 3),(5,Qvo (vv y k)),(20,Qvo k)],[],λk=>Lt 2 y.1 (Ff y k)++[vw 3],4,λk=>k+1<=(eD.t y).ae.length,λk=>(eD.t y).ae.length-k⟩),
 (62,⟨Nat,[0,66],λj=>[(65,.grow 5 (CH y) 3),(67,Qvo j)],[],λj=>Lt 2 y.1 (Fi y j)++[vw 3],4,λj=>j<=(CH y).length,λj=>(CH y).length-j⟩)],
 [(7,⟨Unit,[0],λ_=>[(4,.grow 5 (CH y) 3)],[],λ_=>Lt 2 y.1 (CG y)++[vw 3],4,λ_=>True,λ_=>0⟩)],1,[]⟩
def QrA (y:On.Y):Prop:=vc (fnM y (2*dm (eD.t y))++[vu,Fc]) f177 On Qj7 y
def ndO (n:Nat) (x:ah):Nat×AO D.E:=(n,.cells [.int .i64 x.op,.list 6 x.r,.int .i64 x.mn,.int .i64 x.mx,.bool x.lz,.int .i64 x.cap,.int .i64 x.nk] 206 false)
def sO (y:vt) (k:Nat):List aW:=lk (y.1.af++iq (bu (eD.t y).ae) (aQ (eD.t y).ae) k y.1.af.length)
def Oq (y:vt):Nat:=lk (sO y (eD.t y).mn.toNat).length
def zL (y:vt) (k:Nat):List aW:=lk (sO y (eD.t y).mn.toNat++fp (λ_=>⟨2,0,0,[]⟩) (bu (eD.t y).ae) (aQ (eD.t y).ae) k (Oq y))
def vz (y:vt) (k:Nat):List Int:=lk (jL (aQ (eD.t y).ae) k (Oq y))
def lK (y:vt):Nat:=lk (lj (eD.t y).mn (eD.t y).mx)
def Fj (y:vt) (j:Nat):List aW:=lk (((vz y (lK y)).take j).foldl (fx (ir y).length (eD.t y).lz) (zL y (lK y)))
def Qj8 (y:Oo.Y):cH D:=⟨[],[],[
 (106,⟨Nat,[0,5,28],λk=>[(4,.ptr 2 0),(29,Qvo k)],[],λk=>Lt 3 y.1 (sO y k)++[ndO 2 (eD.t y)],4,λk=>k<=(eD.t y).mn.toNat,λk=>(eD.t y).mn.toNat-k⟩),
 (250,⟨Nat,[0,5,62],λk=>[(4,.ptr 2 0),(7,.grow 5 (vz y k) 4),(63,Qvo k)],[],λk=>Lt 3 y.1 (zL y k)++[ndO 2 (eD.t y),vw 4],5,λk=>k<=lK y,λk=>lK y-k⟩),
 (254,⟨Nat,[0,76],λj=>[(4,.ptr 2 0),(75,.grow 5 (vz y (lK y)) 4),(77,Qvo j)],[],λj=>Lt 3 y.1 (Fj y j)++[ndO 2 (eD.t y),vw 4],5,λj=>j<=lK y,λj=>lK y-j⟩)],
 [(3,⟨Unit,[0,5],λ_=>[(4,.ptr 2 0)],[],λ_=>Lt 3 y.1 (sO y (eD.t y).mn.toNat)++[ndO 2 (eD.t y)],4,λ_=>True,λ_=>0⟩)],1,[]⟩
def QrB (y:Oo.Y):Prop:=vc (fnM y (2*dm (eD.t y))++[vu,Fc]) f178 Oo Qj8 y
abbrev RAK {T0 T1 T2 T3 T4:Type} (a:T0) (b:T1) (c:T2) (d:T3) (e:T4) (p:Prop):Prop:=aa [a] (aa [b] (aa [c] (aa [d] (aa [e] p))))
def Vm (y:eD×aW):Prop:=let a:=([y.2]:List aW);let q1:=ag (bM y.1.af a);bJ q1 48=true/\RAK (ag y.1.af) y.2.op y.2.x y.2.y y.2.bm (cx .i64 q1 1=(y.1.af.length:Int)/\q1=ag (y.1.af++a)/\aa [y.1.bz] (aa [y.1.cF,y.1.aS] (bM y.1.af a=(y.1.af++a)/\True)))
abbrev RA5 (v:eD) (p:Prop):Prop:=aa [v.bz] (aa [v.cF] (aa [v.aS] p))
def Vn (y:eD×Int×Int×Bool):Prop:=let a:=ag y.1.af;let q1:=y.2.1.toNat;let i:=ay .i64 y.2.1 1;let e:=gt (aW.mk 0 0 0 []) y.1.af q1;let d:=fx y.2.2.1 y.2.2.2 y.1.af y.2.1;let j:=cS y.1.af q1 (aW.mk e.op i e.y e.bm);let f:=gt (aW.mk 0 0 0 []) j q1;let g:=cS j q1 (aW.mk f.op f.x y.2.2.1 f.bm);let h:=gt (aW.mk 0 0 0 []) g q1;let k:=cS g q1 (aW.mk h.op y.2.2.1 h.y h.bm);let b:=gt (aW.mk 0 0 0 []) k q1;let c:=λp:Prop=>RA5 y.1 p;aG 0 y.2.1=true/\aw y.2.1 a=true/\aG 0 y.2.1=true/\aw y.2.1 a=true/\RAH a a (aj y.2.2.2 (aG 0 y.2.1=true/\aw y.2.1 a=true/\aG 0 y.2.1=true/\aw y.2.1 a=true/\aa [a,a] (a=ag d/\c (cS k q1 (aW.mk b.op b.x i b.bm)=d/\True))) (a=ag d/\c (g=d/\True)))
def Vo (y:eD×Int):Prop:=let f:=ir y;let q1:=ag f;let h:=ag y.1.af;let o:=ay .i64 y.2 1;let q:=(y.1,y.2);let i:=lk (cu (List.drop y.2.toNat y.1.bz)).1;let a:=gt (Nd.mk 0 [] 0 0 false 0 0) y.1.bz y.2.toNat;let l:=i.ae.length;let m:=gG .i64 2 a.cap;let u:=ay .i64 m 1;let B:=y.1.af++[aW.mk 4 m 0 []];let s:=ag B;let j:=(eD.mk B y.1.bz y.1.cF y.1.aS,o);let d:=ir j;let b:=λp:Prop=>RA5 y.1 p;let n:=λp:Prop=>RA6 a p;let k:Prop:=(RAH y.2 h (RA5 y.1 (RAG y.1.af (ag (ir q)=q1/\b (ir q=f/\True)))));let A:=y.1.af++[aW.mk 1 0 0 a.r];let F:=y.1.af++[aW.mk 5 0 0 []];let G:=y.1.af++[aW.mk 6 0 0 []];aG 0 y.2/\aw y.2 (ag y.1.bz)/\aj (aB a.op 2) (bJ (ag a.r) 8/\Iv (y.1.af.length<=1000)/\aa ([1,0,0]:List Int) (RAH a.r h (RA5 y.1 (RAG y.1.af (ag A=q1/\b (A=f/\True)))))) (aj (aB a.op 7) (Iv (y.1.af.length<=1000)/\aa ([5,0,0]:List Int) (RAB (RAG h (RA5 y.1 (RAG y.1.af (ag F=q1/\b (F=f/\True))))))) (aj (aB a.op 8) (Iv (y.1.af.length<=1000)/\aa ([6,0,0]:List Int) (RAB (RAG h (RA5 y.1 (RAG y.1.af (ag G=q1/\b (G=f/\True))))))) (aj (aB a.op 3) ((∃z:Nat,RAG a.ae (o=vv y z/\0=(z:Int)/\n (h=ag (Fe y z)/\b (y.1.af=Fe y z/\(Iv (z<=l))))))/\(∀x:Nat,let c:=vv y x;let e:=Fe y x;let g:=(eD.mk e y.1.bz y.1.cF y.1.aS,c);let t:=aw (x:Int) a.ae;(Iv (x<=l))->aj t (Iv (ln g/\((2*dm (lk (cu (List.drop c.toNat y.1.bz)).1))+1)<((2*dm i)+1))/\aa [c,ag e] (RA5 y.1 (RAG e (aG 0 c/\aw c (ag y.1.aS)/\∃z:Nat,aa [a.ae] (gt 0 y.1.aS c.toNat=vv y z/\ay .i64 (x:Int) 1=(z:Int)/\n (ag (ir g)=ag (Fe y z)/\b (ir g=Fe y z/\(Iv (z<=l/\(l-z)<(l-x)))))))))) (ag e=q1/\b (e=f/\True)))) (aj (aB a.op 4) (Iv (Qfq q/\(2*dm i)<((2*dm i)+1))/\k) (aj (aB a.op 5) (Iv (Qfr q/\(2*dm i)<((2*dm i)+1))/\k) (aj (aB a.op 6) (Iv (y.1.af.length<=1000)/\aa ([4,m,0]:List Int) (RAB (RAG h (RA5 y.1 (RAG y.1.af (Iv (ln j/\((2*dm (lk (cu (List.drop o.toNat y.1.bz)).1))+1)<((2*dm i)+1))/\aa [o,s] (aa [y.1.bz] (aa [y.1.cF,y.1.aS] (aa [y.1.af++[aW.mk 4 m 0 []]] (Iv (d.length<=1000)/\aa ([4,u,0]:List Int) (aa ([[]]:List (List (Int×Int))) (aa [ag d] (aa [y.1.bz] (aa [y.1.cF,y.1.aS] (aa [d] (ag (d++[aW.mk 4 u 0 []])=q1/\b ((d++[aW.mk 4 u 0 []])=f/\True))))))))))))))))) (h=q1/\b (y.1.af=f/\True))))))))
def Α:∀y,Vo y=Qrz y:=λy=>by kernel_rfl
def Vp (y:eD×Int):Prop:=let d:=CH y;let q1:=ag (CG y);let A:=lk (cu (List.drop y.2.toNat y.1.bz)).1;let s:=A.ae.length;let F:=gt (Nd.mk 0 [] 0 0 false 0 0) y.1.bz y.2.toNat;let C:=λp:Prop=>RAH y.2 F.ae p;let k:=λp:Prop=>RA5 y.1 p;(aG 0 y.2/\aw y.2 (ag y.1.bz)/\(∃z:Nat,C ([]=Fh y z/\ay .i64 y.2 1=vv y z/\0=(z:Int)/\ag y.1.af=ag (Ff y z)/\k (y.1.af=Ff y z/\(Iv ((z+1)<=s)))))/\(∀x:Nat,let h:=vv y x;let c:=Ff y x;let t:=(c.length:Int);let B:=(eD.mk c y.1.bz y.1.cF y.1.aS,h);let u:=ag (c++[aW.mk 2 0 0 []]);let v:=aw (x:Int) F.ae;let w:=aB (x:Int) (cx .i64 F.ae 1);let m:=(eD.mk (c++[aW.mk 2 0 0 []]) y.1.bz y.1.cF y.1.aS,h);let a:=ir m;let n:=bM (Fh y x) [(a.length:Int)];let i:=ag (a++[aW.mk 3 0 0 []]);let o:=(a++[aW.mk 3 0 0 []]).length;let q:=fx i false (a++[aW.mk 3 0 0 []]) t;(Iv ((x+1)<=s))->aj v (aG 0 y.2/\aw y.2 (ag y.1.bz)/\aj w (Iv (ln B/\((2*dm (lk (cu (List.drop h.toNat y.1.bz)).1))+1)<(2*dm A))/\aa [h,ag c] (RA5 y.1 (RAG c (∃z:Unit,Fh y x=d/\ag (ir B)=q1/\k (ir B=CG y/\(Iv True)))))) (Iv (c.length<=1000)/\aa ([2,0,0]:List Int) (RAB (aa [ag c] (RA5 y.1 (RAG c (Iv (ln m/\((2*dm (lk (cu (List.drop h.toNat y.1.bz)).1))+1)<(2*dm A))/\aa [h,u] (aa [y.1.bz] (aa [y.1.cF,y.1.aS] (aa [c++[aW.mk 2 0 0 []]] (Iv (a.length<=1000)/\aa ([3,0,0]:List Int) (aa ([[]]:List (List (Int×Int))) (aa [ag a] (aa [y.1.bz] (aa [y.1.cF,y.1.aS] (aa [a] (bJ (ag n) 8/\Iv (o<=1000/\0<=t/\t<(o:Int))/\aa [t,i] (false=false/\aa [i] (aa [y.1.bz] (aa [y.1.cF,y.1.aS] (aa [a++[aW.mk 3 0 0 []]] (aG 0 h/\aw h (ag y.1.aS)/\∃z:Nat,C (n=Fh y z/\gt 0 y.1.aS h.toNat=vv y z/\ay .i64 (x:Int) 1=(z:Int)/\ag q=ag (Ff y z)/\k (q=Ff y z/\(Iv ((z+1)<=s/\(s-z)<(s-x))))))))))))))))))))))))))) (∃z:Unit,Fh y x=d/\ag c=q1/\k (c=CG y/\(Iv True)))))/\(∀x:Unit,(Iv True)->(∃z:Nat,RAH (ag d) d (0=(z:Int)/\q1=ag (Fi y z)/\k (CG y=Fi y z/\(Iv (z<=d.length)))))/\(∀l:Nat,let e:=Fi y l;let f:=d.length;let b:=ag e;let r:=aw (l:Int) (ag d);let g:=gt 0 d (l:Int).toNat;let j:=gt (aW.mk 0 0 0 []) e g.toNat;(Iv (l<=f))->aj r (aG 0 (l:Int)/\r/\aG 0 g/\aw g b/\RAH b b (∃z:Nat,aa [ag d] (aa [d] (ay .i64 (l:Int) 1=(z:Int)/\b=ag (Fi y z)/\k (cS e g.toNat (aW.mk j.op b j.y j.bm)=Fi y z/\(Iv (z<=f/\(f-z)<(f-l)))))))) (b=ag (ir y)/\k (e=ir y/\True))))
def Β:∀y,Vp y=QrA y:=λy=>by kernel_rfl
abbrev RAO {T0 T1 T2 T3 T4 T5 T6 T7:Type} (a:T0) (b:T1) (c:T2) (d:T3) (e:T4) (f:T5) (g:T6) (h:T7) (p:Prop):Prop:=aa [a] (aa [b] (aa [c] (aa [d] (aa [e] (aa [f] (aa [g] (aa [h] p)))))))
def Vq (y:eD×Int):Prop:=let E:=vz y (lK y);let q1:=ay .i64 y.2 1;let a:=lk (cu (List.drop y.2.toNat y.1.bz)).1;let K:=aw 0 (gt 0 y.1.cF q1.toNat);let d:=gt (Nd.mk 0 [] 0 0 false 0 0) y.1.bz y.2.toNat;let v:=a.mn.toNat;let j:=sO y v;let F:=ag j;let m:=(j.length:Int);let L:=ag (j++[aW.mk 2 0 0 []]);let q:=cx .i64 a.mx a.mn;let w:=(eD.mk (j++[aW.mk 2 0 0 []]) y.1.bz y.1.cF y.1.aS,q1);let e:=ir w;let k:=ag (e++[aW.mk 3 m 0 []]);let A:=(e++[aW.mk 3 m 0 []]).length;let B:=fx k a.lz (e++[aW.mk 3 m 0 []]) m;let b:=λp:Prop=>RA5 y.1 p;let i:=λp:Prop=>RAM a.op a.r a.mn a.mx a.lz a.cap a.nk p;let N:=((2*dm (lk (cu (List.drop q1.toNat y.1.bz)).1))+1)<(2*dm a);aG 0 y.2=true/\aw y.2 (ag y.1.bz)=true/\(aG 0 q1=true/\aw q1 (ag y.1.cF)=true/\aj K ((∃z:Nat,RAH q1 d.mn (0=(z:Int)/\d.op=a.op/\d.r=a.r/\d.mn=a.mn/\d.mx=a.mx/\d.lz=a.lz/\d.cap=a.cap/\d.ae=a.nk/\ag y.1.af=ag (sO y z)/\b (y.1.af=sO y z/\(Iv (z<=v)))))/\(∀x:Nat,let g:=sO y x;let s:=(eD.mk g y.1.bz y.1.cF y.1.aS,q1);let G:=aw (x:Int) d.mn;(Iv (x<=v))->aj G (Iv (ln s/\N)/\aa [q1,ag g] (RA5 y.1 (RAG g (∃z:Nat,aa [q1,d.mn] (ay .i64 (x:Int) 1=(z:Int)/\i (ag (ir s)=ag (sO y z)/\b (ir s=sO y z/\(Iv (z<=v/\(v-z)<(v-x)))))))))) (∃z:Unit,RAO q1 a.op a.r a.mn a.mx a.lz a.cap a.nk (ag g=F/\b (g=j/\(Iv True)))))) (∃z:Unit,RAG q1 (d.op=a.op/\d.r=a.r/\d.mn=a.mn/\d.mx=a.mx/\d.lz=a.lz/\d.cap=a.cap/\d.ae=a.nk/\ag y.1.af=F/\b (y.1.af=j/\(Iv True)))))/\(∀x:Unit,(Iv True)->aj (aB a.mx (-1)) (Iv (j.length<=1000)/\aa ([2,0,0]:List Int) (RAB (RAG F (RA5 y.1 (RAG j (Iv (ln w/\N)/\aa [q1,L] (aa [y.1.bz] (aa [y.1.cF,y.1.aS] (aa [j++[aW.mk 2 0 0 []]] (Iv (e.length<=1000)/\aa ([3,m,0]:List Int) (aa ([[]]:List (List (Int×Int))) (aa [ag e] (aa [y.1.bz] (aa [y.1.cF,y.1.aS] (aa [e] (Iv (A<=1000/\0<=m/\m<(A:Int))/\aa [m,k] (aa [a.lz] (aa [k] (aa [y.1.bz] (aa [y.1.cF,y.1.aS] (aa [e++[aW.mk 3 m 0 []]] (aa [k] (aa [a.lz] (ag B=ag (ir y)/\b (B=ir y/\True))))))))))))))))))))))))) ((∃z:Nat,RAH q1 q ([]=vz y z/\0=(z:Int)/\i (F=ag (zL y z)/\b (j=zL y z/\(Iv (z<=lK y))))))/\(∀n:Nat,let c:=zL y n;let t:=ag (vz y n);let C:=bM (vz y n) [(c.length:Int)];let H:=ag (c++[aW.mk 2 0 0 []]);let u:=(eD.mk (c++[aW.mk 2 0 0 []]) y.1.bz y.1.cF y.1.aS,q1);let I:=aw (n:Int) q;(Iv (n<=lK y))->aj I (Iv (c.length<=1000)/\aa ([2,0,0]:List Int) (RAB (aa [ag c] (RA5 y.1 (RAG c (bJ (ag C) 8=true/\Iv (ln u/\N)/\aa [q1,H] (aa [y.1.bz] (aa [y.1.cF,y.1.aS] (aa [c++[aW.mk 2 0 0 []]] (∃z:Nat,aa [q1,q] (C=vz y z/\ay .i64 (n:Int) 1=(z:Int)/\i (ag (ir u)=ag (zL y z)/\b (ir u=zL y z/\(Iv (z<=lK y/\(lK y-z)<(lK y-n)))))))))))))))) ((∃z:Nat,RAG t (vz y n=E/\0=(z:Int)/\i (ag c=ag (Fj y z)/\b (c=Fj y z/\(Iv (z<=lK y))))))/\(∀o:Nat,let f:=Fj y o;let h:=ag f;let J:=aw (o:Int) t;let l:=gt 0 E (o:Int).toNat;let D:=fx h a.lz f l;(Iv (o<=lK y))->aj J (aG 0 (o:Int)=true/\aw (o:Int) (ag E)=true/\Iv (f.length<=1000/\0<=l/\l<(f.length:Int))/\RAJ l h a.lz h (RA5 y.1 (RAI f h a.lz (∃z:Nat,aa [t] (aa [E] (ay .i64 (o:Int) 1=(z:Int)/\i (ag D=ag (Fj y z)/\b (D=Fj y z/\(Iv (z<=lK y/\(lK y-z)<(lK y-o))))))))))) (h=ag (ir y)/\b (f=ir y/\True)))))))
def Ε:∀y,Vq y=QrB y:=λy=>by kernel_rfl
end
end sx
end Go.Proofs.YtiiiphndmbabcaaGreat
