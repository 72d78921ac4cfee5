/- StreamRises: a part of the proof. -/
import Derived.Test.YtadfknojfbmjgaaGreatC20
set_option linter.all false
namespace Go.Proofs.YtadfknojfbmjgaaGreat
set_option maxRecDepth 100000
set_option maxHeartbeats 4000000
namespace sx
noncomputable section
open Go Go.RowKit cls syn
def Tm (y:Int×(List Tree)):Prop:=let a:=lk (hI y.1 y.2);let b:=gt (Tree.mk 0 [] 0 0 false 0 0 []) y.2 0;ag (az (ab y.2) 0) (1=a.op/\[]=a.r/\0=a.mn/\0=a.mx/\false=a.lz/\0=a.cap/\0=a.nk/\[]=a.kids/\True) (ag (az (ab y.2) 1) (Tt 1 (ax 0 (ab y.2)/\b.op=a.op/\b.r=a.r/\b.mn=a.mn/\b.mx=a.mx/\b.lz=a.lz/\b.cap=a.cap/\b.nk=a.nk/\b.kids=a.kids/\True)) (y.1=a.op/\[]=a.r/\0=a.mn/\0=a.mx/\false=a.lz/\0=a.cap/\0=a.nk/\y.2=a.kids/\True))
def Tn (y:Nd):Prop:=ag (az y.op 5) (ag (!y.lz) (ag (az y.mx (-1)) (aC y.mn 1=eN y/\True) (false=eN y/\True)) (false=eN y/\True)) (false=eN y/\True)
def To (y:Int×(List Tree)):Prop:=let b:=y.2.length;let d:=ab y.2;let e:=λp:Prop=>aa [y.1] (aa [y.2] (aa [d] p));(∃z:Nat,let f:=aw y.1 (List.take z y.2);e ([]=f/\0=(z:Int)/\(Iv (z<=b/\f.length<=1000000))))/\(∀x:Nat,let c:=aw y.1 (List.take x y.2);let a:=gt (Tree.mk 0 [] 0 0 false 0 0 []) y.2 (x:Int).toNat;let g:=aZ c [Tree.mk a.op a.r a.mn a.mx a.lz a.cap a.nk a.kids];(Iv (x<=b/\c.length<=1000000))->ag (ax (x:Int) d) (aC 0 (x:Int)/\ax (x:Int) d/\ag (az a.op y.1) (fits (ab (aZ c a.kids)) 96/\∃z:Nat,let h:=aw y.1 (List.take z y.2);e (aZ c a.kids=h/\an .i64 (x:Int) 1=(z:Int)/\(Iv ((z<=b/\h.length<=1000000)/\(b-z)<(b-x))))) (fits (ab g) 96/\∃z:Nat,let i:=aw y.1 (List.take z y.2);e (g=i/\an .i64 (x:Int) 1=(z:Int)/\(Iv ((z<=b/\i.length<=1000000)/\(b-z)<(b-x)))))) (c=aw y.1 y.2/\True))
def Tp (y:List Nd):Prop:=let a:=tE y;let b:=(bS y).1;let c:=gt (Nd.mk 0 [] 0 0 false 0 0) y 0;let g:=λp:Prop=>aa ([0]:List Int) (aa ([[]]:List (List (Int×Int))) (aa ([0,0]:List Int) p));let h:=λp:Prop=>aa ([0,0]:List Int) (aa ([[]]:List (List Tree)) p);Tt 1 (ax 0 (ab y)/\Tt 1 (aC 1 (ab y)/\(∃z:(List Tree)×(List Nd)×Nat,wg y 1=z.2.1/\c.kids=a.kids/\0=(z.2.2:Int)/\c.op=a.op/\c.r=a.r/\c.mn=a.mn/\c.mx=a.mx/\c.lz=a.lz/\c.cap=a.cap/\c.kids=a.kids/\[]=z.1/\g (false=false/\h ((Iv (Nt y z)))))/\(∀x:(List Tree)×(List Nd)×Nat,let e:=x.2.1.length;let d:=(bS x.2.1).1;let i:=ax (x.2.2:Int) a.kids;let f:=aZ x.1 [Tree.mk d.op d.r d.mn d.mx d.lz d.cap d.nk d.kids];(Iv (Nt y x))->ag i (Iv ((e<=1000000/\Option.isSome (fH e x.2.1))/\e<y.length)/\aa [x.2.1] (fits (ab f) 96/\∃z:(List Tree)×(List Nd)×Nat,(bS x.2.1).2=z.2.1/\aa [a.kids] (an .i64 (x.2.2:Int) 1=(z.2.2:Int)/\aa [a.op] (aa [a.r] (aa [a.mn,a.mx] (aa [a.lz] (aa [a.cap,a.kids] (f=z.1/\g (false=false/\h ((Iv (Nt y z/\(a.kids.toNat-z.2.2)<(a.kids.toNat-x.2.2))))))))))))) (a.op=b.op/\a.r=b.r/\a.mn=b.mn/\a.mx=b.mx/\a.lz=b.lz/\a.cap=b.cap/\a.kids=b.nk/\x.1=b.kids/\x.2.1=(bS y).2/\True))))
def ZK:∀y,Tp y=QqZ y:=λy=>by kernel_rfl
def Tq (y:Tree):Prop:=let b:=y.kids;let c:=ab b;fits (ab y.r) 8/\(∃z:Nat,aa [b] (aa [c] (([Nd.mk y.op y.r y.mn y.mx y.lz y.cap c]:List Nd)=ph y z/\0=(z:Int)/\(Iv (z<=b.length)))))/\(∀x:Nat,let d:=b.length;let a:=gt (Tree.mk 0 [] 0 0 false 0 0 []) b (x:Int).toNat;let e:=Tree.mk a.op a.r a.mn a.mx a.lz a.cap a.nk a.kids;let f:=aZ (ph y x) (cW e);(Iv (x<=d))->ag (ax (x:Int) c) (aC 0 (x:Int)/\ax (x:Int) c/\Iv (dG e/\cZ e<cZ y)/\aa [a.op] (aa [a.r] (aa [a.mn,a.mx] (aa [a.lz] (aa [a.cap,a.nk] (aa [a.kids] (fits (ab f) 72/\∃z:Nat,aa [b] (aa [c] (f=ph y z/\an .i64 (x:Int) 1=(z:Int)/\(Iv (z<=d/\(d-z)<(d-x)))))))))))) (ph y x=cW y/\True))
def ZL:∀y,Tq y=Qq1 y:=λy=>by kernel_rfl
theorem bG (t:Tree):Tree.mk t.op t.r t.mn t.mx t.lz t.cap t.nk t.kids=t:=by cases t;rfl
theorem Qq2 (y:Int×List Tree) (d:Nr.pre y):Tm y:=by
 obtain⟨op,c⟩:=y;unfold Tm;simp only[QaU,dq,aj,dA,aq]
 match c with
 | []=>exact⟨λ_=>⟨rfl,rfl,rfl,rfl,rfl,rfl,rfl,rfl⟩,λh=>absurd rfl h⟩
 | [k]=>exact⟨λh=>by grind,λ_=>⟨λ_=>⟨by simp,rfl,rfl,rfl,rfl,rfl,rfl,rfl,rfl⟩,λh=>by grind⟩⟩
 | a::b::l=>exact⟨λh=>by grind,λ_=>⟨λh=>by grind,λ_=>⟨rfl,rfl,rfl,rfl,rfl,rfl,rfl,rfl⟩⟩⟩
def Qcz:Ok Nr:=okZ [] Tryz.f115 (λ_=>cX ()) trivial Qq2
theorem Qq3 (y:Nd) (_:Tk.pre y):Tn y:=by
 grind [Tn,eN]
def QjJ:Ok Tk:=okZ [] Tryz.f119 (λ_=>cX ()) trivial Qq3
theorem It (op:Int) (a b:List Tree):aw op (a++b)=aw op a++aw op b:=by grind [aw]
theorem kU (op:Int) (l:List Tree) (n:Nat):(aw op (l.take n)).length<=(aw op l).length:=by
 grind [List.take_append_drop,It]
theorem take_one {α:Type} {l:List α} {n:Nat} (d:α) (h:n<l.length):l.take (n+1)=l.take n++[l.getD n d]:=by
 simp_all
theorem Qq4 (y:Int×List Tree) (c:Ns.pre y):To y:=by
 obtain⟨op,a⟩:=y;obtain⟨h1,d⟩:a.length<=1000000/\(aw op a).length<=1000000:=c;unfold To;simp only[QaU,dq,aj,aO,aU,dA,bG,Zad];refine⟨⟨0,by rfl,rfl,ω,by simp[aw]⟩,λx f=>⟨λe=>⟨ω,e,λb=>?_,λb=>?_⟩,λe=>?_⟩⟩
 ·have e:x<a.length:=ω;have ht:=take_one bn e;have hs:aw op (a.take (x+1))=aw op (a.take x)++(a.getD x bn).kids:=by
   grind [aw]
  grind [kU]
 ·have e:x<a.length:=ω;have ht:=take_one bn e;have hs:aw op (a.take (x+1))=aw op (a.take x)++[a.getD x bn]:=by
   grind [aw]
  grind [kU]
 ·grind
def QjK:Ok Ns:=okZ [] Tryz.f112 QqW trivial Qq4
theorem AL {f:List Nd->Option (Tree×List Nd)} (c:∀l t a,f l=some (t,a)->a.length<l.length):∀(k:Nat) (l:List Nd) (b:List Tree) (a:List Nd),jL f k l=some (b,a)->a.length<=l.length
 | 0,l,b,a,h=>by cases h;exact Zah _
 | k+1,l,b,a,h=>by
  unfold jL at h;split at h
  ·cases h
  ·rename_i t g ht
   split at h
   ·cases h
   ·rename_i e i d
    cases h;have:=c _ _ _ ht;have:=AL c k _ _ _ d;omega
theorem sC:∀(n:Nat) (l:List Nd) (t:Tree) (a:List Nd),fH n l=some (t,a)->a.length<l.length
 | 0,_,_,_,h=>nomatch h
 | _+1,[],_,_,h=>nomatch h
 | n+1,x::l,t,a,h=>by
  unfold fH at h;split at h
  ·cases h
  ·rename_i d c b
   cases h;have:=AL (sC n) _ _ _ _ b;simp;omega
theorem pj {f g:List Nd->Option (Tree×List Nd)} (N:Nat) (b:∀l t a,f l=some (t,a)->a.length<l.length) (h:∀l,l.length<=N->f l=g l):∀(k:Nat) (l:List Nd),l.length<=N->jL f k l=jL g k l
 | 0,l,_=>rfl
 | k+1,l,hl=>by
  unfold jL;rw[<-h l hl];cases e:f l with
  | none=>rfl
  | some p=>
   obtain⟨t,a⟩:=p;have:=b _ _ _ e;simp only;rw[pj N b h k a ω]
theorem EN:∀(n m:Nat) (l:List Nd),l.length<=n->l.length<=m->fH n l=fH m l
 | 0,0,l,_,_=>rfl
 | 0,m+1,l,h,_=>by
  cases l with
  | nil=>rfl
  | cons a l=>simp at h
 | n+1,0,l,_,h=>by
  cases l with
  | nil=>rfl
  | cons a l=>simp at h
 | n+1,m+1,l,h1,b=>by
  cases l with
  | nil=>rfl
  | cons a l=>
   simp only[Zae] at h1 b;unfold fH;rw[pj l.length (sC n) (λc hl=>EN n m c ω ω) _ l (Zah _)]
theorem Qq5 (y:List Nd) (z:Ir.pre y):Tp y:=by
 obtain⟨h1,u⟩:y.length<=1000000/\(fH y.length y).isSome:=z;cases y with
 | nil=>cases u
 | cons X b=>
 have n:tE (X::b)=X:=rfl;obtain⟨a,c,o⟩:∃a c,jL (fH b.length) X.kids.toNat b=some (a,c):=by
  grind [fH]
 have eS:bS (X::b)=(Tree.mk X.op X.r X.mn X.mx X.lz X.cap X.kids a,c):=by
  grind [bS,aq,fH]
 unfold Tp;rw[eS,n];simp only[QaU,dq,aj,aO,aU,dA,bG,Zad];have h:∀x,Nt (X::b) x↔(x.1.length=x.2.2/\x.2.2<=X.kids.toNat/\x.2.1.length<b.length+1/\x.1.length+x.2.1.length+1<=b.length+1/\∃j l,jL (fH x.2.1.length) (X.kids.toNat-x.2.2) x.2.1=some (j,l)/\x.1++j=a/\l=c):=λx=>by
  unfold Nt;rw[eS,n];exact ZbW
 have B:b.length+1<=1000000:=by assumption
 refine⟨by grind,by grind,⟨([],b,0),rfl,rfl,rfl,rfl,rfl,rfl,rfl,rfl,rfl,rfl,rfl,(h _).mpr ⟨rfl,Zaj _,Zbr _,by simp,a,c,o,rfl,rfl⟩⟩,λx w=>?_⟩;obtain⟨m,rest,i⟩:=x;obtain⟨c1,c2,c3,c4,j,l,c5,c6,c7⟩:=(h _).mp w;simp only at c1 c2 c3 c4 c5 c6 c7 ⊢;refine⟨λe=>?_,λe=>?_⟩
 ·rw[show X.kids.toNat-i=(X.kids.toNat-(i+1))+1 by omega] at c5;unfold jL at c5;cases f:fH rest.length rest with
  | none=>rw[f] at c5;cases c5
  | some p=>
   obtain⟨t,d⟩:=p;rw[f] at c5;simp only at c5;have s:bS rest=(t,d):=by grind [bS,aq]
   have v:=sC _ _ _ _ f;rw[pj (g:=fH d.length) d.length (sC _) (λA hl=>EN _ _ A ω hl) _ d (Zah _)] at c5;split at c5
   ·cases c5
   ·rename_i k C q
    cases c5;rw[s];refine⟨⟨⟨ω,rfl⟩,by assumption⟩,by grind,(m++[t],d,i+1),rfl,bz ω,rfl,(h _).mpr ⟨by grind,show i+1<=X.kids.toNat by omega,by grind,by grind,k,l,q,by grind,c7⟩,show X.kids.toNat-(i+1)<X.kids.toNat-i by omega⟩
 ·rw[show X.kids.toNat-i=0 by omega] at c5;cases c5;exact⟨rfl,rfl,rfl,rfl,rfl,rfl,rfl,show m=a by grind,c7⟩
def QjL:Ok Ir:=OJ (λy=>y.length) ZK trivial Qq5
theorem ct (a b:List Tree):au (a++b)=au a++au b:=by
 induction a with
 | nil=>simp[au]
 | cons x a c=>simp[au,c]
theorem bJ (y:Tree):ay y=⟨y.op,y.r,y.mn,y.mx,y.lz,y.cap,y.kids.length⟩::au y.kids:=by
 cases y;rw[ay];rfl
theorem gY {y:Tree} {n:Nat} (h:n<y.kids.length):cZ (y.kids.getD n bn)<cZ y:=by
 unfold cZ;rw[aq,aq,bk h];have:=ZdR (Zas h);obtain⟨op,r,mn,mx,lz,cap,nk,a⟩:=y;grind [Tree.kids]
theorem Qq6 (y:Tree) (f:Is.pre y):Tq y:=by
 obtain⟨h1,b⟩:(ay y).length<=1000000/\∀x∈ay y,iK x:=f;have i:y.r.length<=1000000:=by
  have:=b ⟨y.op,y.r,y.mn,y.mx,y.lz,y.cap,y.kids.length⟩ (by grind [bJ]);exact this
 unfold Tq;simp only[QaU,dq,aj,aO,aU,dA,bG,Zad,ph,cW,aq];have key:∀l:List Tree,l.length<=(au l).length:=by
  intro l
  induction l with
  | nil=>simp
  | cons a l k=>simp only[au,Zab,Zae];rw[bJ];simp;omega
 have h0:=h1;rw[bJ] at h1;simp only[Zae] at h1;have hk:=key y.kids;refine⟨ω,⟨0,rfl,rfl,Zaj _⟩,λx j=>⟨λe=>?_,λe=>?_⟩⟩
 ·have e:x<y.kids.length:=ω;have ht:=take_one bn e;have g:y.kids=y.kids.take x++(y.kids.getD x bn::y.kids.drop (x+1)):=by
   simp_all
  have c:au y.kids=au (y.kids.take x)++(ay (y.kids.getD x bn)++au (y.kids.drop (x+1))):=by
   grind [ct,au]
  have hs:au (y.kids.take (x+1))=au (y.kids.take x)++ay (y.kids.getD x bn):=by
   grind [ct,au]
  have hlen:=ZaR List.length c;simp only[Zab] at hlen;have d:y.kids.getD x (Tree.mk 0 [] 0 0 false 0 0 [])=y.kids.getD x bn:=rfl;rw[d];refine⟨ω,e |> λh=>ω,⟨⟨ω,λz hz=>b z ?_⟩,gY e⟩,?_,x+1,?_,bz ω,ω,ω⟩
  ·grind [bJ]
  ·grind
  ·grind
 ·grind [bJ]
def QjM:Ok Is:=OJ cZ ZL trivial Qq6
mutual
def p_:Tree->Bool
 | .mk op _ _ _ _ _ _ ks=>op==6||kg ks
def kg:List Tree->Bool
 | []=>false
 | t::ts=>p_ t||kg ts
end
mutual
def Tr:Tree->Tree->Bool
 | .mk op r mn mx lz cap _ ks,b=>op==b.op&&mn==b.mn&&mx==b.mx&&lz==b.lz&&cap==b.cap&&decide (r=b.r)&&decide (ks.length=b.kids.length)&&sD ks b.kids
def sD:List Tree->List Tree->Bool
 | [],_=>true
 | a::l,b::m=>Tr a b&&sD l m
 | _::_,[]=>false
end
variable {l:List Tree} {i:Nat} {p:Tree->Bool}
def fm (t:Tree):Bool:=lk (p_ t)
def ou (a b:Tree):Bool:=lk (Tr a b)
def dH (l:List Tree):Prop:=(au l).length<=1000000/\∀x∈au l,iK x
def uA (l:List Tree):Nat:=lk (SizeOf.sizeOf l)
def xY (p:Tree->Bool) (l:List Tree):Int:=if l.findIdx p<l.length then l.findIdx p else-1
def uU (a:List (AV D.E)):C Tree:=match a with
 | [t]=>Iq t
 | _=>.fail
def QjN (a:List (AV D.E)) (s:St D.E):C (List Tree):=match a with
 | [l,_]=>av (rowsOf D s 15 l) λl=>.ret (l:List Tree)
 | _=>.fail
def Nu:bf D:=bZ 118 Tree (λa _=>uU a) dG (λy=>[.agg (D.aX 15 y)]) λy=>.bool (fm y)
def Ts:bf D:=bZ 143 (List Tree) QjN dH (λy=>[.list 15 y,.func (.func 118) [] []]) λy=>.bool (y.any fm)
def Nv:bf D:=bZ 141 (List Tree) QjN dH (λy=>[.list 15 y,.func (.func 118) [] []]) λy=>Qu9 (xY fm y)
def QjO (y:Nv.Y):cH D:=⟨[],[],[(26,{ X:=Nat,aH:=[0,1,7],sl:=λi=>[(8,Qu9 i)],kp:=[],pc:=λ_=>[],nx:=0,inv:=λi=>i<=y.length/\∀j,j<i->fm (y.getD j bn)=false,me:=λi=>y.length-i })],[],1,[]⟩
def fgT (n:Nat):vE:=[Nu.under (λy=>3*cZ y) n,Ts.under (λy=>3*uA y+2) n,Nv.under (λy=>3*uA y+1) n]
def Qq8 (y:Nu.Y):Prop:=vc (fgT (3*cZ y)++[]) Tryz.f118 Nu (λ_=>cX ()) y
def Qq9 (y:Ts.Y):Prop:=vc (fgT (3*uA y+2)++[]) Tryz.f143 Ts (λ_=>cX ()) y
def Qra (y:Nv.Y):Prop:=vc (fgT (3*uA y+1)++[]) Tryz.f141 Nv QjO y
def QjP (a:List (AV D.E)):C (Tree×Tree):=match a with
 | [t,u]=>av (Iq t) λx=>av (Iq u) λy=>.ret (x,y)
 | _=>.fail
def Qrb (a:List (AV D.E)) (s:St D.E):C (List Tree×List Tree):=match a with
 | [l,m,_]=>av (rowsOf D s 15 l) λl=>av (rowsOf D s 15 m) λm=>.ret ((l:List Tree),(m:List Tree))
 | _=>.fail
def Nw:bf D:=bZ 145 (Tree×Tree) (λa _=>QjP a) (λy=>dG y.1) (λy=>[.agg (D.aX 15 y.1),.agg (D.aX 15 y.2)]) λy=>.bool (ou y.1 y.2)
def smL (l m:List Tree):Bool:=lk (decide (l.length=m.length)&&sD l m)
def Ny:bf D:=bZ 174 (List Tree×List Tree) Qrb (λy=>dH y.1) (λy=>[.list 15 y.1,.list 15 y.2,.func (.func 145) [] []]) λy=>.bool (smL y.1 y.2)
def ZM (y:List Tree×List Tree) (i:Nat):Prop:=i<=y.1.length/\y.1.length=y.2.length/\sD (y.1.drop i) (y.2.drop i)=sD y.1 y.2
def QjQ (y:Ny.Y):cH D:=⟨[],[],[(58,⟨Nat,[0,1,2,15,16],λi=>[(17,Qu9 i)],[],λ_=>[],0,ZM y,λi=>y.1.length-i⟩)],[],1,[]⟩
def fsT (n:Nat):vE:=[Nw.under (λy=>2*cZ y.1) n,Ny.under (λy=>2*uA y.1+1) n]
def Qrc (y:Nw.Y):Prop:=vc (fsT (2*cZ y.1)++[Eg]) Tryz.f145 Nw (λ_=>cX ()) y
def Qrd (y:Ny.Y):Prop:=vc (fsT (2*uA y.1+1)++[]) Tryz.f174 Ny QjQ y
def Tu (y:Tree):Prop:=ag (az y.op 6) (true=fm y/\True) (Iv (dH y.kids/\((3*uA y.kids)+2)<(3*cZ y))/\aa [y.kids] (List.any y.kids fm=fm y/\True))
def ZN:∀y,Tu y=Qq8 y:=λy=>by kernel_rfl
def Tv (y:List Tree):Prop:=Iv (dH y/\((3*uA y)+1)<((3*uA y)+2))/\aa [y] (aC 0 (xY fm y)=List.any y fm/\True)
def ZO:∀y,Tv y=Qq9 y:=λy=>by kernel_rfl
def Tw (y:List Tree):Prop:=(∃z:Nat,aa [y] (aa [ab y] (0=(z:Int)/\(Iv (z<=y.length/\(∀j:Nat,(Nat.le (Nat.succ j) z)->fm (List.getD y j bn)=false))))))/\(∀x:Nat,let b:=y.length;let d:=ax (x:Int) (ab y);let a:=gt (Tree.mk 0 [] 0 0 false 0 0 []) y (x:Int).toNat;let c:=Tree.mk a.op a.r a.mn a.mx a.lz a.cap a.nk a.kids;(Iv (x<=b/\(∀j:Nat,(Nat.le (Nat.succ j) x)->fm (List.getD y j bn)=false)))->ag d (aC 0 (x:Int)/\d/\Iv (dG c/\(3*cZ c)<((3*uA y)+1))/\aa [a.op] (aa [a.r] (aa [a.mn,a.mx] (aa [a.lz] (aa [a.cap,a.nk] (aa [a.kids] (ag (fm c) ((x:Int)=xY fm y/\True) (∃z:Nat,aa [y] (aa [ab y] (an .i64 (x:Int) 1=(z:Int)/\(Iv ((z<=b/\(∀j:Nat,(Nat.le (Nat.succ j) z)->fm (List.getD y j bn)=false))/\(b-z)<(b-x))))))))))))) ((-1)=xY fm y/\True))
def ZP:∀y,Tw y=Qra y:=λy=>by kernel_rfl
def Tx (y:Tree×Tree):Prop:=let a:=y.1.kids;let b:=!(az y.1.mx y.2.mx);let c:=!(az y.1.cap y.2.cap);let d:=!(az y.1.op y.2.op);let e:=!(sX y.1.lz y.2.lz);let f:=!(az y.1.mn y.2.mn);let g:=!(decide (y.1.r=y.2.r));aa [y.1.op] (aa [y.1.r] (aa [y.1.mn,y.1.mx] (aa [y.1.lz] (aa [y.1.cap,y.1.nk,y.2.op] (aa [y.2.r] (aa [y.2.mn,y.2.mx] (aa [y.2.lz] (aa [y.2.cap,y.2.nk,y.2.op] (aa [y.2.r] (aa [y.2.mn,y.2.mx] (aa [y.2.lz] (aa [y.2.cap,y.2.nk] (ag d (false=ou y.1 y.2/\True) (ag f (false=ou y.1 y.2/\True) (ag b (false=ou y.1 y.2/\True) (ag e (false=ou y.1 y.2/\True) (ag c (false=ou y.1 y.2/\True) (Iv True/\aa [y.1.r,y.2.r] (ag g (false=ou y.1 y.2/\True) (Iv (dH a/\((2*uA a)+1)<(2*cZ y.1))/\aa [a,y.2.kids] (smL a y.2.kids=ou y.1 y.2/\True)))))))))))))))))))))
def ZQ:∀y,Tx y=Qrc y:=λy=>by kernel_rfl
def Ty (y:(List Tree)×(List Tree)):Prop:=let c:=ab y.1;let e:=!(az c (ab y.2));ag e (false=smL y.1 y.2/\True) ((∃z:Nat,aa [y.1,y.2,y.1] (aa [c] (0=(z:Int)/\(Iv (ZM y z)))))/\(∀x:Nat,let a:=gt (Tree.mk 0 [] 0 0 false 0 0 []) y.2 (x:Int).toNat;let b:=gt (Tree.mk 0 [] 0 0 false 0 0 []) y.1 (x:Int).toNat;let d:=Tree.mk b.op b.r b.mn b.mx b.lz b.cap b.nk b.kids;let f:=!(ou d (Tree.mk a.op a.r a.mn a.mx a.lz a.cap a.nk a.kids));(Iv (ZM y x))->ag (ax (x:Int) c) (aC 0 (x:Int)/\ax (x:Int) c/\aC 0 (x:Int)/\ax (x:Int) (ab y.2)/\Iv (dG d/\(2*cZ d)<((2*uA y.1)+1))/\aa [b.op] (aa [b.r] (aa [b.mn,b.mx] (aa [b.lz] (aa [b.cap,b.nk] (aa [b.kids] (aa [a.op] (aa [a.r] (aa [a.mn,a.mx] (aa [a.lz] (aa [a.cap,a.nk] (aa [a.kids] (ag f (false=smL y.1 y.2/\True) (∃z:Nat,aa [y.1,y.2,y.1] (aa [c] (an .i64 (x:Int) 1=(z:Int)/\(Iv (ZM y z/\(y.1.length-z)<(y.1.length-x))))))))))))))))))) (true=smL y.1 y.2/\True)))
def ZR:∀y,Ty y=Qrd y:=λy=>by kernel_rfl
theorem xZ (y:Tree):uA y.kids<cZ y:=by
 unfold uA cZ;rw[aq,aq];obtain⟨op,r,mn,mx,lz,cap,nk,a⟩:=y;grind [Tree.kids]
def Cf (h:i<l.length):cZ (l.getD i bn)<uA l:=by
 unfold uA cZ;rw[aq,aq,bk h];exact ZdR (Zas h)
theorem dG.kids {y:Tree} (h:dG y):dH y.kids:=by
 obtain⟨h1,a⟩:=h;rw[bJ] at h1;simp only[Zae] at h1;exact⟨ω,λx b=>a x (by grind [bJ])⟩
theorem dH.get (h:dH l) {n:Nat} (d:n<l.length):dG (l.getD n bn):=by
 obtain⟨h1,a⟩:=h;have c:l=l.take n++(l.getD n bn::l.drop (n+1)):=by
  simp_all
 have b:au l=au (l.take n)++(ay (l.getD n bn)++au (l.drop (n+1))):=by
  grind [ct,au]
 have hlen:=ZaR List.length b;simp only[Zab] at hlen;exact⟨ω,λx e=>a x (by grind)⟩
theorem tF (l:List Tree):l.length<=(au l).length:=by
 induction l with
 | nil=>simp
 | cons a l b=>simp only[au,Zab,Zae];rw[bJ];simp;omega
def dH.len (h:dH l):l.length<=1000000:=Zav (tF l) h.1
theorem EO (l:List Tree):kg l=l.any fm:=by
 induction l with
 | nil=>simp[kg]
 | cons a l b=>rw[kg,ZdX,b];congr 1;unfold fm;rw[aq]
def Tz (y:Tree):fm y=(y.op==6||y.kids.any fm):=by
 rw[<-EO];unfold fm;rw[aq];cases y;rfl
theorem Qre (y:Tree) (a:Nu.pre y):Tu y:=by
 have a:dG y:=a;unfold Tu;simp only[dq,gg,iH];rw[Tz];have:=xZ y;refine⟨λh=>by grind,λh=>⟨⟨a.kids,ω⟩,?_⟩⟩;grind
theorem TB (h:∀j,j<l.length->p (l.getD j bn)=false):xY p l= -1:=by
 grind [xY]
theorem TC (hi:i<l.length) (h:p (l.getD i bn)) (a:∀j,j<i->p (l.getD j bn)=false):xY p l=(i:Int):=by
 grind [List.findIdx_eq,xY]
theorem TD (p:Tree->Bool) (l:List Tree):aC 0 (xY p l)=l.any p:=by
 grind [xY]
def Qrf (y:List Tree) (a:Ts.pre y):Tv y:=by
 unfold Tv;simp only[cG,Zai,db];exact⟨⟨a,ω⟩,TD _ _⟩
theorem Qrg (y:List Tree) (a:Nv.pre y):Tw y:=by
 have a:dH y:=a;have hl:=a.len;unfold Tw;simp only[QaU,dq,aj,dA,bG,Zad];refine⟨⟨0,rfl,Zaj _,λj d=>absurd d (Zbo _)⟩,λx ⟨g,c⟩=>⟨λe=>?_,λe=>?_⟩⟩
 ·have b:x<y.length:=ω;have c:∀j,j<x->fm (y.getD j bn)=false:=c;have hk:=Cf b;have f:y.getD x (Tree.mk 0 [] 0 0 false 0 0 [])=y.getD x bn:=rfl;rw[f];refine⟨ω,e,⟨a.get b,ω⟩,λh=>(TC b h c).symm,λh=>⟨x+1,bz ω,⟨ω,λj d=>?_⟩,ω⟩⟩;grind
 ·grind [TB]
inductive Fg where
 | g | c | i
noncomputable section
def fgC:Fg->bf D
 | .g=>Nu | .c=>Ts | .i=>Nv
def Qrh:∀i,(fgC i).Y->Nat
 | .g=>λy=>3*cZ y | .c=>λy=>3*uA y+2 | .i=>λy=>3*uA y+1
def fgF:Fg->Func
 | .g=>Tryz.f118 | .c=>Tryz.f143 | .i=>Tryz.f141
def fgO:∀i,(fgC i).Y->cH D
 | .g=>λ_=>cX () | .c=>λ_=>cX () | .i=>QjO
def Qri:∀i,Ok (fgC i):=
 xl [.g,.c,.i] fgC Qrh (fn:=fgF) (tab:=λ_=>[]) (iX:=fgO) (λ_=>trivial)
  (λi=>match i with
   | .g=>by kernel_rfl | .c=>by kernel_rfl | .i=>by kernel_rfl)
  (λi=>match i with
   | .g=>by kernel_rfl | .c=>by kernel_rfl | .i=>by kernel_rfl)
  λi=>match i with
   | .g=>λy a=>Eq.mp (ZN y) (Qre y a) | .c=>λy a=>Eq.mp (ZO y) (Qrf y a) | .i=>λy a=>Eq.mp (ZP y) (Qrg y a)
end
def QjR (a b:Tree):ou a b=(a.op==b.op&&a.mn==b.mn&&a.mx==b.mx&&a.lz==b.lz&&a.cap==b.cap&&decide (a.r=b.r)&&smL a.kids b.kids):=by
 unfold ou smL;rw[aq,aq];obtain⟨op,r,mn,mx,lz,cap,nk,c⟩:=a;rw[Tr];rw[Bool.and_assoc (_&&decide (r=b.r))];rfl
theorem Qrj (y:Tree×Tree) (c:Nw.pre y):Tx y:=by
 obtain⟨a,b⟩:=y;have c:dG a:=c;have:=xZ a;unfold Tx;simp only[dq,gg,iH,Zan,Zao,ZaP,Zbi,sX];rw[QjR];refine⟨λh=>?_,λh1=>⟨λh=>?_,λd=>⟨λh=>?_,λe=>⟨λh=>?_,λf=>⟨λh=>?_,λg=>⟨λh=>?_,λi=>⟨⟨c.kids,ω⟩,?_⟩⟩⟩⟩⟩⟩⟩
 ·grind
 ·grind
 ·grind
 ·grind
 ·grind
 ·grind
 ·grind
theorem Nz {l m:List Tree} {i:Nat} (h1:i<l.length) (a:i<m.length):sD (l.drop i) (m.drop i)=(ou (l.getD i bn) (m.getD i bn)&&sD (l.drop (i+1)) (m.drop (i+1))):=by
 grind [List.drop_eq_getElem_cons,sD,ou,aq]
theorem Qrk (y:List Tree×List Tree) (c:Ny.pre y):Ty y:=by
 obtain⟨a,b⟩:=y;have c:dH a:=c;have hl:=c.len;unfold Ty;simp only[QaU,dq,aj,dA,bG,Zad,Zan,Zao,smL,aq];refine⟨λh=>by grind,λh=>?_⟩;have h:a.length=b.length:=ω;rw[ZaK h,ZbI];refine⟨⟨0,rfl,Zaj _,h,rfl⟩,λx g=>?_⟩;obtain⟨i1,i2,i3⟩:x<=a.length/\a.length=b.length/\sD (a.drop x) (b.drop x)=sD a b:=g;refine⟨λe=>?_,λe=>?_⟩
 ·have d:x<a.length:=ω;have hk:=Cf d;have f:∀l:List Tree,l.getD x (Tree.mk 0 [] 0 0 false 0 0 [])=l.getD x bn:=λ_=>rfl
  rw[f,f];rw[Nz d ω] at i3;refine⟨ω,e,ω,ω,⟨c.get d,ω⟩,λq=>?_,λq=>⟨x+1,bz ω,⟨show x+1<=a.length by omega,h,?_⟩,ω⟩⟩
  ·grind
  ·grind
 ·grind [sD]
inductive Fs where
 | s | e
noncomputable section
def fsC:Fs->bf D
 | .s=>Nw | .e=>Ny
def Qrl:∀i,(fsC i).Y->Nat
 | .s=>λy=>2*cZ y.1 | .e=>λy=>2*uA y.1+1
def fsF:Fs->Func
 | .s=>Tryz.f145 | .e=>Tryz.f174
def QjS:Fs->vE
 | .s=>[Eg] | .e=>[]
def fsO:∀i,(fsC i).Y->cH D
 | .s=>λ_=>cX () | .e=>QjQ
def Qrm:∀i,Ok (fsC i):=
 xl [.s,.e] fsC Qrl (fn:=fsF) (tab:=QjS) (iX:=fsO)
  (λi=>match i with
   | .s=>Qb1 | .e=>trivial)
  (λi=>match i with
   | .s=>by kernel_rfl | .e=>by kernel_rfl)
  (λi=>match i with
   | .s=>by kernel_rfl | .e=>by kernel_rfl)
  λi=>match i with
   | .s=>λy a=>Eq.mp (ZQ y) (Qrj y a) | .e=>λy a=>Eq.mp (ZR y) (Qrk y a)
end
abbrev uB (l:List Tree):List (Nat×AO D.E):=[(0,.arr 15 l 134 false)]
def NA:bf D:=⟨112,Int×List Tree,QeU,λy=>y.2.length<=1000000/\(aw y.1 y.2).length<=1000000,λy=>[Qu9 y.1,.list 15 y.2],λ_=>[],λy=>.own 0 8 (ab (aw y.1 y.2)),λy=>uB (aw y.1 y.2),0,1⟩
def Qrn (y:NA.Y):cH D:=⟨[],[6,7],[(58,⟨Nat,[0,8,9],λx=>[(5,.own 0 8 (ab (aw y.1 (y.2.take x)))),(10,Qu9 x)],[],λx=>uB (aw y.1 (y.2.take x)),1,λx=>x<=y.2.length/\(aw y.1 (y.2.take x)).length<=1000000,λx=>y.2.length-x⟩)],[],1,[]⟩
def vN (t:Tree):Bool:=t.op==1
def TE:bf D:=bZ 114 Tree (λa _=>uU a) (λ_=>True) (λy=>[.agg (D.aX 15 y)]) λy=>.bool (vN y)
def QjT (v:AV D.E) (s:St D.E):C (List Tree):=match v with
 | .own b _ _=>av (kE s b) λa=>av (gD 15 a.c a.xs) λl=>.ret (l:List Tree)
 | _=>.fail
def QjU (a:List (AV D.E)) (s:St D.E):C (List Tree):=match a with
 | [l,_]=>QjT l s
 | _=>.fail
abbrev QjV (y:List Tree):List (AV D.E):=[.own 0 8 (ab y),.func (.func 114) [] []]
def NB:bf D:=⟨141,List Tree,QjU,λy=>y.length<=1000000,QjV,uB,λy=>Qu9 (xY vN y),uB,1,1⟩
def Qrq (y:NB.Y):cH D:=⟨[],[],[(26,{ X:=Nat,aH:=[1,7],sl:=λi=>[(0,.own 0 8 (ab y)),(8,Qu9 i)],kp:=[],pc:=λ_=>uB y,nx:=1,inv:=λi=>i<=y.length/\∀j,j<i->vN (y.getD j bn)=false,me:=λi=>y.length-i })],[],1,[]⟩
def gT (y:List Tree):List Tree:=y.filter λt=>!vN t
def NC:bf D:=⟨113,List Tree,QjU,λy=>y.length<=1000000,QjV,uB,λy=>.list 15 (lk (gT y)),λ_=>[],1,1⟩
def TG (y:List Tree) (x:List Tree×Nat×Nat):Prop:=x.1.length=y.length/\x.2.1<=x.2.2/\x.2.2<=y.length/\x.1.take x.2.1=gT (y.take x.2.2)/\x.1.drop x.2.2=y.drop x.2.2
def Qrs (y:NC.Y):cH D:=⟨[],[],[(122,⟨List Tree×Nat×Nat,[1],λx=>[(0,.own 0 8 (ab y)),(5,Qu9 x.2.1),(6,Qu9 x.2.2)],[],λx=>uB x.1,1,TG y,λx=>y.length-x.2.2⟩)],[],1,[]⟩
def EP (t:Tree):Tree:=hI 3 (gT (aw 3 t.kids))
def ctC:bf D:=bZ 81 Tree (λa _=>uU a) (λy=>y.kids.length<=1000000/\(aw 3 y.kids).length<=1000000) (λy=>[.agg (D.aX 15 y)]) λy=>.agg (D.aX 15 (lk (EP y)))
abbrev rf (k:Tree):List (Nat×AO D.E):=[(0,.cells (D.aX 15 k) 134 false)]
def TH (v:AV D.E) (s:St D.E):C Tree:=match v with
 | .ptr b _=>av (cE (s.h.get b)) λo=>match o with
  | .cells cs _ _=>uK D 15 cs
  | _=>.fail
 | _=>.fail
def TI:bf D:=⟨144,Tree×Tree,λa s=>match a with
 | [x,p]=>av (Iq x) λx=>av (TH p s) λk=>.ret (x,k)
 | _=>.fail,λy=>dG y.1,λy=>[.agg (D.aX 15 y.1),.ptr 0 0],λy=>rf y.2,λy=>.bool (ou y.1 y.2),λy=>rf y.2,1,1⟩
def QjX (a:List (AV D.E)) (s:St D.E):C (List Tree×Tree):=match a with
 | [l,f]=>match f with
  | .func _ _ c=>match c with
   | [p]=>av (rowsOf D s 15 l) λl=>av (TH p s) λk=>.ret ((l:List Tree),k)
   | _=>.fail
  | _=>.fail
 | _=>.fail
abbrev QjY (y:List Tree×Tree):List (AV D.E):=[.list 15 y.1,.func (.func 144) [] [.ptr 0 0]]
variable {l:List Tree}
def ND:bf D:=⟨141,List Tree×Tree,QjX,λy=>dH y.1,QjY,λy=>rf y.2,λy=>Qu9 (xY (λx=>ou x y.2) y.1),λy=>rf y.2,1,1⟩
def Qrv (y:ND.Y):cH D:=⟨[],[],[(26,{ X:=Nat,aH:=[0,7],sl:=λi=>[(1,.func (.func 144) [] [.ptr 0 0]),(8,Qu9 i)],kp:=[],pc:=λ_=>rf y.2,nx:=1,inv:=λi=>i<=y.1.length/\∀j,j<i->ou (y.1.getD j bn) y.2=false,me:=λi=>y.1.length-i })],[],1,[]⟩
def TJ:bf D:=⟨143,List Tree×Tree,QjX,λy=>dH y.1,QjY,λy=>rf y.2,λy=>.bool (y.1.any λx=>ou x y.2),λy=>rf y.2,1,1⟩
def dK (out:List Tree):List Tree->List Tree
 | []=>out
 | k::l=>dK (if out.any (λx=>ou x k) then out else out++[k]) l
def NF:bf D:=bZ 117 (List Tree) (λa s=>match a with
 | [l]=>av (rowsOf D s 15 l) λl=>.ret (l:List Tree)
 | _=>.fail) dH (λy=>[.list 15 y]) λy=>.list 15 (dK [] y)
def TK (y:List Tree) (x:List Tree×Nat):Prop:=x.2<=y.length/\dK x.1 (y.drop x.2)=dK [] y/\(au x.1).length<=(au (y.take x.2)).length/\∀n∈au x.1,iK n
def Qry (y:NF.Y):cH D:=⟨[],[],[(58,⟨List Tree×Nat,[6,7],λx=>[(3,.grow 15 x.1 0),(8,Qu9 x.2)],[],λ_=>[(0,.tok 15 134)],1,TK y,λx=>y.length-x.2⟩)],[],1,[]⟩
def TL (y:Int×(List Tree)):Prop:=let b:=y.2.length;let d:=ab y.2;let i:=λp:Prop=>aa [y.1] (aa [y.2] (aa [d] p));(∃z:Nat,let e:=aw y.1 (List.take z y.2);i (0=ab e/\0=(z:Int)/\[]=e/\(Iv (z<=b/\e.length<=1000000))))/\(∀x:Nat,let c:=aw y.1 (List.take x y.2);let a:=gt (Tree.mk 0 [] 0 0 false 0 0 []) y.2 (x:Int).toNat;let j:=ab (aZ c a.kids);let f:=aZ c [Tree.mk a.op a.r a.mn a.mx a.lz a.cap a.nk a.kids];(Iv (x<=b/\c.length<=1000000))->ag (ax (x:Int) d) (aC 0 (x:Int)/\ax (x:Int) d/\ag (az a.op y.1) (fits j 96/\∃z:Nat,let g:=aw y.1 (List.take z y.2);i (j=ab g/\an .i64 (x:Int) 1=(z:Int)/\aZ c a.kids=g/\(Iv ((z<=b/\g.length<=1000000)/\(b-z)<(b-x))))) (fits (ab f) 96/\∃z:Nat,let h:=aw y.1 (List.take z y.2);i (ab f=ab h/\an .i64 (x:Int) 1=(z:Int)/\f=h/\(Iv ((z<=b/\h.length<=1000000)/\(b-z)<(b-x)))))) (ab c=ab (aw y.1 y.2)/\c=aw y.1 y.2/\True))
def QjZ (y:Tree):Prop:=
 az y.op 1=vN y/\
 True
def TM (y:List Tree):Prop:=(∃z:Nat,aa [ab y,ab y] (0=(z:Int)/\aa [y] ((Iv (z<=y.length/\(∀j:Nat,(Nat.le (Nat.succ j) z)->vN (List.getD y j bn)=false))))))/\(∀x:Nat,let b:=y.length;let c:=ax (x:Int) (ab y);let a:=gt (Tree.mk 0 [] 0 0 false 0 0 []) y (x:Int).toNat;let d:=vN (Tree.mk a.op a.r a.mn a.mx a.lz a.cap a.nk a.kids);(Iv (x<=b/\(∀j:Nat,(Nat.le (Nat.succ j) x)->vN (List.getD y j bn)=false)))->ag c (aC 0 (x:Int)/\c/\Iv True/\aa [a.op] (aa [a.r] (aa [a.mn,a.mx] (aa [a.lz] (aa [a.cap,a.nk] (aa [a.kids] (ag d ((x:Int)=xY vN y/\aa [y] (True)) (∃z:Nat,aa [ab y,ab y] (an .i64 (x:Int) 1=(z:Int)/\aa [y] ((Iv ((z<=b/\(∀j:Nat,(Nat.le (Nat.succ j) z)->vN (List.getD y j bn)=false))/\(b-z)<(b-x))))))))))))) ((-1)=xY vN y/\aa [y] (True)))
def TN (y:List Tree):Prop:=let c:=ab y;let f:=az (xY vN y) (-1);Iv (y.length<=1000000)/\aa [c] (aa [y] (ag f (y=lk (gT y)/\True) ((∃z:(List Tree)×Nat×Nat,aa [c] (xY vN y=(z.2.1:Int)/\an .i64 (xY vN y) 1=(z.2.2:Int)/\y=z.1/\(Iv (TG y z))))/\(∀x:(List Tree)×Nat×Nat,let b:=(x.2.1:Int);let d:=(x.2.2:Int);let a:=gt (Tree.mk 0 [] 0 0 false 0 0 []) x.1 d.toNat;let e:=Tree.mk a.op a.r a.mn a.mx a.lz a.cap a.nk a.kids;(Iv (TG y x))->ag (ax d c) (aC 0 d/\ax d c/\Iv True/\aa [a.op] (aa [a.r] (aa [a.mn,a.mx] (aa [a.lz] (aa [a.cap,a.nk] (aa [a.kids] (ag (!(vN e)) (aC 0 b/\ax b c/\∃z:(List Tree)×Nat×Nat,aa [c] (an .i64 b 1=(z.2.1:Int)/\an .i64 d 1=(z.2.2:Int)/\cA x.1 b.toNat e=z.1/\(Iv (TG y z/\(y.length-z.2.2)<(y.length-x.2.2))))) (∃z:(List Tree)×Nat×Nat,aa [c] (b=(z.2.1:Int)/\an .i64 d 1=(z.2.2:Int)/\x.1=z.1/\(Iv (TG y z/\(y.length-z.2.2)<(y.length-x.2.2)))))))))))) (aC 0 b/\aC b c/\aC 0 b/\aC b c/\bW (wi x.1 b (c-b) (np (c-b) (Tree.mk 0 [] 0 0 false 0 0 []))) b=lk (gT y)/\True)))))
def QeV (y:Tree):Prop:=let a:=lk (EP y);let c:=aw 3 y.kids;let d:=lk (gT c);let b:=lk (hI 3 d);Iv (y.kids.length<=1000000/\c.length<=1000000)/\aa ([3]:List Int) (aa [y.kids] (Iv (c.length<=1000000)/\aa [ab c] (aa [c] (Iv (d.length<=1000000)/\aa ([3]:List Int) (aa [d] (b.op=a.op/\b.r=a.r/\b.mn=a.mn/\b.mx=a.mx/\b.lz=a.lz/\b.cap=a.cap/\b.nk=a.nk/\b.kids=a.kids/\True))))))
def TO (y:Tree×Tree):Prop:=let a:=Tree.mk y.1.op y.1.r y.1.mn y.1.mx y.1.lz y.1.cap y.1.nk y.1.kids;Iv (dG a)/\aa [y.1.op] (aa [y.1.r] (aa [y.1.mn,y.1.mx] (aa [y.1.lz] (aa [y.1.cap,y.1.nk] (aa [y.1.kids] (aa [y.2.op] (aa [y.2.r] (aa [y.2.mn,y.2.mx] (aa [y.2.lz] (aa [y.2.cap,y.2.nk] (aa [y.2.kids] (ou a (Tree.mk y.2.op y.2.r y.2.mn y.2.mx y.2.lz y.2.cap y.2.nk y.2.kids)=ou y.1 y.2/\aa [y.2.op] (aa [y.2.r] (aa [y.2.mn,y.2.mx] (aa [y.2.lz] (aa [y.2.cap,y.2.nk] (aa [y.2.kids] (True))))))))))))))))))
def TP (y:(List Tree)×Tree):Prop:=let c:=ab y.1;let b:=y.1.length;let e:=xY (λ(x:Tree)=>ou x y.2) y.1;let d:=λp:Prop=>aa [y.2.op] (aa [y.2.r] (aa [y.2.mn,y.2.mx] (aa [y.2.lz] (aa [y.2.cap,y.2.nk] (aa [y.2.kids] p)))));(∃z:Nat,aa [y.1] (aa [c] (0=(z:Int)/\d ((Iv (z<=b/\(∀j:Nat,(Nat.le (Nat.succ j) z)->ou (List.getD y.1 j bn) y.2=false)))))))/\(∀x:Nat,let a:=gt (Tree.mk 0 [] 0 0 false 0 0 []) y.1 (x:Int).toNat;let f:=Tree.mk a.op a.r a.mn a.mx a.lz a.cap a.nk a.kids;let g:=ou f (Tree.mk y.2.op y.2.r y.2.mn y.2.mx y.2.lz y.2.cap y.2.nk y.2.kids);(Iv (x<=b/\(∀j:Nat,(Nat.le (Nat.succ j) x)->ou (List.getD y.1 j bn) y.2=false)))->ag (ax (x:Int) c) (aC 0 (x:Int)/\ax (x:Int) c/\Iv (dG f)/\aa [a.op] (aa [a.r] (aa [a.mn,a.mx] (aa [a.lz] (aa [a.cap,a.nk] (aa [a.kids] (aa [y.2.op] (aa [y.2.r] (aa [y.2.mn,y.2.mx] (aa [y.2.lz] (aa [y.2.cap,y.2.nk] (aa [y.2.kids] (ag g ((x:Int)=e/\d (True)) (∃z:Nat,aa [y.1] (aa [c] (an .i64 (x:Int) 1=(z:Int)/\d ((Iv ((z<=b/\(∀j:Nat,(Nat.le (Nat.succ j) z)->ou (List.getD y.1 j bn) y.2=false))/\(b-z)<(b-x)))))))))))))))))))) ((-1)=e/\d (True)))
def TQ (y:(List Tree)×Tree):Prop:=Iv (dH y.1)/\aa [y.1] (aa [y.2.op] (aa [y.2.r] (aa [y.2.mn,y.2.mx] (aa [y.2.lz] (aa [y.2.cap,y.2.nk] (aa [y.2.kids] (aC 0 (xY (λ(x:Tree)=>ou x (Tree.mk y.2.op y.2.r y.2.mn y.2.mx y.2.lz y.2.cap y.2.nk y.2.kids)) y.1)=List.any y.1 (λ(x:Tree)=>ou x y.2)/\aa [y.2.op] (aa [y.2.r] (aa [y.2.mn,y.2.mx] (aa [y.2.lz] (aa [y.2.cap,y.2.nk] (aa [y.2.kids] (True)))))))))))))
def TR (y:List Tree):Prop:=let d:=λp:Prop=>aa [y] (aa [ab y] p);(∃z:(List Tree)×Nat,d ([]=z.1/\0=(z.2:Int)/\(Iv (TK y z))))/\(∀x:(List Tree)×Nat,let b:=(x.2:Int);let a:=gt (Tree.mk 0 [] 0 0 false 0 0 []) y b.toNat;let c:=Tree.mk a.op a.r a.mn a.mx a.lz a.cap a.nk a.kids;let e:=!(List.any x.1 (λ(x1:Tree)=>ou x1 c));(Iv (TK y x))->ag (ax b (ab y)) (aC 0 b/\ax b (ab y)/\Iv (dH x.1)/\aa [x.1] (aa [a.op] (aa [a.r] (aa [a.mn,a.mx] (aa [a.lz] (aa [a.cap,a.nk] (aa [a.kids] (ag e (fits (ab (aZ x.1 [c])) 96/\∃z:(List Tree)×Nat,d (aZ x.1 [c]=z.1/\an .i64 b 1=(z.2:Int)/\(Iv (TK y z/\(y.length-z.2)<(y.length-x.2))))) (∃z:(List Tree)×Nat,d (x.1=z.1/\an .i64 b 1=(z.2:Int)/\(Iv (TK y z/\(y.length-z.2)<(y.length-x.2))))))))))))) (x.1=dK [] y/\True))
theorem QrA (y:Int×List Tree) (c:NA.pre y):TL y:=by
 obtain⟨op,a⟩:=y;obtain⟨h1,d⟩:a.length<=1000000/\(aw op a).length<=1000000:=c;unfold TL;simp only[QaU,dq,aj,aO,aU,dA,bG,Zad];refine⟨⟨0,by rfl,rfl,by rfl,ω,by simp[aw]⟩,λx f=>⟨λe=>⟨ω,e,λb=>?_,λb=>?_⟩,λe=>?_⟩⟩
 ·have e:x<a.length:=ω;have ht:=take_one bn e;have hs:aw op (a.take (x+1))=aw op (a.take x)++(a.getD x bn).kids:=by
   grind [aw]
  grind [kU]
 ·have e:x<a.length:=ω;have ht:=take_one bn e;have hs:aw op (a.take (x+1))=aw op (a.take x)++[a.getD x bn]:=by
   grind [aw]
  grind [kU]
 ·grind
def Qj0:Ok NA:=okZ [] Tryz.f112 Qrn trivial QrA
def QcB:Ok TE:=okZ (V:=QjZ) [] Tryz.f114 (λ_=>cX ()) trivial λy _=>⟨rfl,trivial⟩
theorem QrB (y:List Tree) (f:NB.pre y):TM y:=by
 have hl:y.length<=1000000:=f;unfold TM;simp only[QaU,dq,aj,dA,bG,Zad];refine⟨⟨0,rfl,Zaj _,λj b=>absurd b (Zbo _)⟩,λx ⟨g,a⟩=>⟨λe=>?_,λe=>?_⟩⟩
 ·have c:x<y.length:=ω;have a:∀j,j<x->vN (y.getD j bn)=false:=a;have d:y.getD x (Tree.mk 0 [] 0 0 false 0 0 [])=y.getD x bn:=rfl;rw[d];refine⟨ω,e,λh=>(TC c h a).symm,λh=>⟨x+1,bz ω,⟨ω,λj b=>?_⟩,ω⟩⟩;grind
 ·grind [TB]
def Qj1:Ok NB:=okZ [TE] Tryz.f141 Qrq QcB QrB
theorem ER (p:Tree->Bool) (l:List Tree):(xY p l= -1/\∀j,j<l.length->p (l.getD j bn)=false)\/∃i:Nat,i<l.length/\xY p l=(i:Int)/\p (l.getD i bn)/\∀j,j<i->p (l.getD j bn)=false:=by
 grind [xY]
theorem ES (h:∀j,j<l.length->vN (l.getD j bn)=false):gT l=l:=by
 unfold gT;refine List.filter_eq_self.mpr λa b=>?_
 grind [List.getElem_of_mem]
theorem x3 {n:Nat} (h:n<l.length):gT (l.take (n+1))=gT (l.take n)++(if vN (l.getD n bn) then[] else[l.getD n bn]):=by
 grind [gT,take_one]
theorem TS {i:Nat} {a:Tree} (h:i<l.length):(l.set i a).take (i+1)=l.take i++[a]:=by
 rw[take_one bn (by grind),List.take_set_of_le (Zah _),bk (by grind),List.getElem_set_self]
theorem QrC (y:List Tree) (f:NC.pre y):TN y:=by
 have hl:y.length<=1000000:=f;unfold TN;simp only[QaU,dq,aj,dA,bG,Zad,aq,Zan,Zao];refine⟨hl,λh=>?_,λh=>?_⟩
 ·grind [ER,ES]
 ·obtain⟨i,i1,i2,i3,i4⟩:∃i:Nat,i<y.length/\xY vN y=(i:Int)/\vN (y.getD i bn)/\∀j,j<i->vN (y.getD j bn)=false:=by
   grind [ER]
  rw[i2];refine⟨⟨(y,i,i+1),rfl,bz ω,rfl,rfl,ZcR _,i1,?_,rfl⟩,λx d=>?_⟩
  ·show y.take i=gT (y.take (i+1))
   grind [x3,ES]
  ·obtain⟨a,i,j⟩:=x;obtain⟨c1,c2,c3,c4,c5⟩:a.length=y.length/\i<=j/\j<=y.length/\a.take i=gT (y.take j)/\a.drop j=y.drop j:=d;refine⟨λe=>⟨ω,e,?_⟩,λe=>⟨ω,by grind,ω,by grind,?_⟩⟩
   ·have e:j<y.length:=by grind
    have c:a.getD j (Tree.mk 0 [] 0 0 false 0 0 [])=y.getD j bn:=by
     grind [List.drop_eq_getElem_cons]
    have b:a.drop (j+1)=y.drop (j+1):=by
     grind [List.drop_eq_getElem_cons]
    rw[c];refine⟨λq=>⟨ω,by grind,(a.set i (y.getD j bn),i+1,j+1),bz (show i<=1000000 by omega),bz (show j<=1000000 by omega),rfl,⟨by grind,show i+1<=j+1 by omega,show j+1<=y.length by omega,?_,?_⟩,show y.length-(j+1)<y.length-j by omega⟩,λq=>⟨(a,i,j+1),rfl,bz (show j<=1000000 by omega),rfl,⟨c1,show i<=j+1 by omega,show j+1<=y.length by omega,?_,b⟩,show y.length-(j+1)<y.length-j by omega⟩⟩
    ·grind [TS,x3]
    ·grind [List.drop_set_of_lt]
    ·grind [x3]
   ·grind [bW,wi,Int.toNat_natCast]
def Qj2:Ok NC:=okZ [TE,NB] Tryz.f113 Qrs ⟨QcB,Qj1⟩ QrC
def TT (l:List Tree):(gT l).length<=l.length:=List.length_filter_le _ _
def ctH (y:Tree) (b:ctC.pre y):QeV y:=by
 obtain⟨h1,a⟩:y.kids.length<=1000000/\(aw 3 y.kids).length<=1000000:=b;have:=TT (aw 3 y.kids);unfold QeV;simp only[cG,Zai,db,aq];exact⟨⟨h1,a⟩,a,ω,rfl,rfl,rfl,rfl,rfl,rfl,rfl,rfl⟩
def QrD:Ok ctC:=okZ [NA,NC,Nr] Tryz.f81 (λ_=>cX ()) ⟨Qj0,Qj2,Qcz⟩ ctH
theorem QrE (y:Tree×Tree) (a:TI.pre y):TO y:=by
 have a:dG y.1:=a;grind [TO,bG]
def Qj3:Ok TI:=okZ [Nw] Tryz.f144 (λ_=>cX ()) (Qrm .s) QrE
theorem QrF (y:List Tree×Tree) (a:ND.pre y):TP y:=by
 obtain⟨y,k⟩:=y;have a:dH y:=a;have hl:=a.len;unfold TP;simp only[QaU,dq,aj,dA,bG,Zad];refine⟨⟨0,rfl,Zaj _,λj d=>absurd d (Zbo _)⟩,λx ⟨g,b⟩=>⟨λe=>?_,λe=>?_⟩⟩
 ·have c:x<y.length:=ω;have b:∀j,j<x->ou (y.getD j bn) k=false:=b;have f:y.getD x (Tree.mk 0 [] 0 0 false 0 0 [])=y.getD x bn:=rfl;rw[f];refine⟨ω,e,a.get c,λh=>(TC (p:=λx=>ou x k) c h b).symm,λh=>⟨x+1,bz ω,⟨ω,λj d=>?_⟩,ω⟩⟩;grind
 ·grind [TB]
def Qj4:Ok ND:=okZ [TI] Tryz.f141 Qrv Qj3 QrF
def QrG (y:List Tree×Tree) (a:TJ.pre y):TQ y:=by
 unfold TQ;simp only[cG,Zai,db,bG];exact⟨a,TD _ _⟩
def Qj5:Ok TJ:=okZ [ND] Tryz.f143 (λ_=>cX ()) Qj4 QrG
theorem QrH (y:List Tree) (c:NF.pre y):TR y:=by
 have c:dH y:=c;have hl:=c.len;unfold TR;simp only[QaU,dq,aj,aO,aU,dA,bG,Zad,Zan,Zao];refine⟨⟨([],0),rfl,rfl,Zaj _,rfl,Zaj _,λn a=>by grind [au]⟩,λx j=>?_⟩;obtain⟨o,i⟩:=x;obtain⟨c1,c2,c3,c4⟩:i<=y.length/\dK o (y.drop i)=dK [] y/\(au o).length<=(au (y.take i)).length/\∀n∈au o,iK n:=j;have b:∀n,(au (y.take n)).length<=(au y).length:=λn=>by
  grind [List.take_append_drop,ct]
 have hO:dH o:=⟨by have:=b i;have:=c.1;omega,c4⟩;have h:=hO.len;refine⟨λe=>?_,λe=>?_⟩
 ·have d:i<y.length:=ω;have g:y.getD i (Tree.mk 0 [] 0 0 false 0 0 [])=y.getD i bn:=rfl;have f:y.drop i=y.getD i bn::y.drop (i+1):=by simp_all
  have k:(au (y.take (i+1))).length=(au (y.take i)).length+(ay (y.getD i bn)).length:=by
   grind [ct,au]
  rw[f,dK] at c2;rw[g];refine⟨ω,e,hO,λq=>?_,λq=>?_⟩
  ·rw[q] at c2;refine⟨by grind,(o++[y.getD i bn],i+1),rfl,bz ω,⟨show i+1<=y.length by omega,by assumption,?_,λn a=>?_⟩,show y.length-(i+1)<y.length-i by omega⟩
   ·grind [ct]
   ·rw[ct,au,au,Zaw] at a;rcases List.mem_append.mp a with a | a
    ·grind
    ·exact(c.get d).2 n a
  ·rw[q] at c2;exact⟨(o,i+1),rfl,bz ω,⟨show i+1<=y.length by omega,by assumption,show(au o).length<=(au (y.take (i+1))).length by omega,c4⟩,show y.length-(i+1)<y.length-i by omega⟩
 ·grind [dK]
def Qj6:Ok NF:=okZ [TJ] Tryz.f117 Qry Qj5 QrH
def tG (l:List Tree):Prop:=∀t∈l,t.r.length<=1000000
def lU (l:List Tree):Tree:=l.getD (l.length-1) bn
def pk (r:List Rg):Tree:=.mk 2 (aL r) 0 0 false 0 0 []
def dv (out:List Tree) (k:Tree):List Tree:=if out.length≠0/\k.op=2/\(lU out).op=2 then out.set (out.length-1) (pk ((lU out).r++k.r)) else out++[k]
def bt (out:List Tree):List Tree->List Tree
 | []=>out
 | k::l=>bt (dv out k) l
def NG:bf D:=bZ 116 (List Tree) (λa s=>match a with
 | [l]=>av (rowsOf D s 15 l) λl=>.ret (l:List Tree)
 | _=>.fail) (λy=>y.length<=1000000/\tG y) (λy=>[.list 15 y]) λy=>.list 15 (bt [] y)
def sE (y:List Tree) (x:List Tree×Nat):Prop:=x.2<=y.length/\bt x.1 (y.drop x.2)=bt [] y/\x.1.length<=x.2/\tG x.1
def QrI (y:NG.Y):cH D:=⟨[],[9],[(58,⟨List Tree×Nat,[8,9],λx=>[(3,.own 0 8 (ab x.1)),(10,Qu9 x.2)],[],λx=>uB x.1,1,sE y,λx=>y.length-x.2⟩)],[],1,[]⟩
def KX (t:Tree):Nd:=⟨t.op,t.r,t.mn,t.mx,t.lz,t.cap,t.nk⟩
def bs (t:Tree):Tree:=t.kids.getD 0 bn
def uV (t:Tree):Tree:=.mk t.op t.r t.mn t.mx (t.lz&&decide (t.mn≠t.mx)) t.cap t.nk t.kids
def ET (k:Tree) (n:Int):Tree:=.mk k.op k.r (k.mn*n) k.mx k.lz k.cap k.nk k.kids
def cJ (t:Tree):Tree:=
 if (bs t).op=1 then bs t
 else if t.mn=1/\t.mx=1 then bs t
 else if t.mx=0/\fm (bs t)=false then .mk 1 [] 0 0 false 0 0 []
 else if eN (KX (uV t))/\eN (KX (bs t))/\(bs (bs t)).op=2 then ET (bs t) t.mn
 else uV t
def Z0 (y:Tree):Prop:=1<=y.kids.length/\dG (bs y)/\0<=y.mn/\((bs y).op=5->0<=(bs y).mn/\1<=(bs y).kids.length)
def TU:bf D:=bZ 83 Tree (λa _=>uU a) Z0 (λy=>[.agg (D.aX 15 y)]) λy=>.agg (D.aX 15 (lk (cJ y)))
def TV (y:List Tree):Prop:=let d:=y.length;let i:=λp:Prop=>aa [y] (aa [ab y] p);(∃z:(List Tree)×Nat,i (0=ab z.1/\0=(z.2:Int)/\[]=z.1/\(Iv (sE y z))))/\(∀x:(List Tree)×Nat,let c:=(x.2:Int);let b:=da .i64 (ab x.1) 1;let a:=gt (Tree.mk 0 [] 0 0 false 0 0 []) y c.toNat;let e:=gt (Tree.mk 0 [] 0 0 false 0 0 []) x.1 b.toNat;let f:=aZ e.r a.r;let g:=aZ x.1 [Tree.mk a.op a.r a.mn a.mx a.lz a.cap a.nk a.kids];let h:Prop:=(fits (ab g) 96/\∃z:(List Tree)×Nat,i (ab g=ab z.1/\an .i64 c 1=(z.2:Int)/\g=z.1/\(Iv (sE y z/\(d-z.2)<(d-x.2)))));(Iv (sE y x))->ag (ax c (ab y)) (aC 0 c/\ax c (ab y)/\ag (aC 0 b) (ag (az a.op 2) (aC 0 b/\ax b (ab x.1)/\ag (az e.op 2) (aC 0 b/\ax b (ab x.1)/\fits (ab e.r) 8/\fits (ab f) 8/\aa [e.r,a.r,a.r] (Iv (f.length<=100000000)/\aa [f] (aC 0 b/\ax b (ab x.1)/\∃z:(List Tree)×Nat,i (ab x.1=ab z.1/\an .i64 c 1=(z.2:Int)/\cA x.1 b.toNat (Tree.mk 2 (aL f) 0 0 false 0 0 [])=z.1/\(Iv (sE y z/\(d-z.2)<(d-x.2))))))) (h)) (h)) (h)) (x.1=bt [] y/\True))
def TW (y:Tree):Prop:=let b:=lk (cJ y);let o:=!(az y.mn y.mx);let a:=gt (Tree.mk 0 [] 0 0 false 0 0 []) y.kids 0;let g:=a.kids;let q:=az (gt (Tree.mk 0 [] 0 0 false 0 0 []) g 0).op 2;let u:=eN (Nd.mk y.op y.r y.mn y.mx false y.cap y.nk);let v:=eN (Nd.mk y.op y.r y.mn y.mx o y.cap y.nk);let s:=eN (Nd.mk a.op a.r a.mn a.mx a.lz a.cap a.nk);let n:=Tree.mk a.op a.r a.mn a.mx a.lz a.cap a.nk g;let t:=λp:Prop=>aa [a.op] (aa [a.r] (aa [a.mn,a.mx] (aa [a.lz] (aa [a.cap,a.nk] (aa [g] p)))));let m:=λp:Prop=>aa [a.op] (aa [a.r] (aa [a.mn,a.mx] (aa [a.lz] (aa [a.cap,a.nk] p))));let h:Prop:=(y.cap=b.cap/\y.nk=b.nk/\y.kids=b.kids/\True);let d:Prop:=(y.op=b.op/\y.r=b.r/\y.mn=b.mn/\y.mx=b.mx/\false=b.lz/\h);let e:Prop:=(y.op=b.op/\y.r=b.r/\y.mn=b.mn/\y.mx=b.mx/\o=b.lz/\h);let f:Prop:=(a.mx=b.mx/\a.lz=b.lz/\a.cap=b.cap/\a.nk=b.nk/\g=b.kids/\True);let c:Prop:=(a.op=b.op/\a.r=b.r/\a.mn=b.mn/\f);let i:Prop:=(Iv True/\aa [y.op] (aa [y.r] (aa [y.mn,y.mx] (false=false/\aa [y.cap,y.nk] (ag u (Iv True/\m (ag s (Tt 1 (ax 0 (ab g)/\ag q (a.op=b.op/\a.r=b.r/\iR .i64 a.mn y.mn=b.mn/\f) (d))) (d))) (d))))));let j:Prop:=(Iv True/\aa [y.op] (aa [y.r] (aa [y.mn,y.mx] (aa [o] (aa [y.cap,y.nk] (ag v (Iv True/\m (ag s (Tt 1 (ax 0 (ab g)/\ag q (a.op=b.op/\a.r=b.r/\iR .i64 a.mn y.mn=b.mn/\f) (e))) (e))) (e)))))));let k:Prop:=(ag (az y.mx 0) (Iv (dG n)/\t (ag (!(fm n)) (1=b.op/\[]=b.r/\0=b.mn/\0=b.mx/\false=b.lz/\0=b.cap/\0=b.nk/\[]=b.kids/\True) (i))) (i));let l:Prop:=(ag (az y.mx 0) (Iv (dG n)/\t (ag (!(fm n)) (1=b.op/\[]=b.r/\0=b.mn/\0=b.mx/\false=b.lz/\0=b.cap/\0=b.nk/\[]=b.kids/\True) (j))) (j));ag y.lz (Tt 1 (ax 0 (ab y.kids)/\ag (az a.op 1) (c) (ag (az y.mn 1) (ag (az y.mx 1) (c) (l)) (l)))) (Tt 1 (ax 0 (ab y.kids)/\ag (az a.op 1) (c) (ag (az y.mn 1) (ag (az y.mx 1) (c) (k)) (k))))
theorem EU:∀(m:List Rg) (b:Int),0<=b->b<=1114112->(∀p∈m,tg p/\b<=p.1)->m.Pairwise (λp q=>p.2+1<q.1)->2*(m.length:Int)<=1114113-b
 | [],b,_,h,_,_=>by grind
 | p::m,b,h0,h,h1,h2=>by
  obtain⟨⟨c1,c2,c3,c4⟩,c5⟩:=h1 p Za8;obtain⟨a,c⟩:=List.pairwise_cons.mp h2;cases m with
  | nil=>simp;omega
  | cons q m=>
   have f:=a q Za8;obtain⟨⟨_,e2,e,_⟩,_⟩:=h1 q (ZaU _ Za8);have:=EU (q::m) (p.2+2) ω ω (λx d=>⟨(h1 x (ZaU _ d)).1,by grind⟩) c;grind
def kV (l:List Rg):(aL l).length<=1000000:=by
 obtain⟨⟨h1,b⟩,_⟩:=dN l;have:=EU (aL l) 0 ω ω (λp a=>⟨h1 p a,(h1 p a).1⟩) b;omega
theorem jk (o:List Tree) (k:Tree):(dv o k).length<=o.length+1:=by
 grind [dv]
theorem EV {k:Tree} (h:tG l) (hk:k.r.length<=1000000):tG (dv l k):=by
 unfold dv;split
 ·intro t ht;rcases Zb1 ht with h1 | h1
  ·exact h t h1
  ·rw[h1];exact kV _
 ·intro t ht;rcases List.mem_append.mp ht with h1 | h1
  ·exact h t h1
  ·grind
theorem QrL (y:List Tree) (m:NG.pre y):TV y:=by
 obtain⟨hl,j⟩:y.length<=1000000/\tG y:=m;unfold TV;simp only[QaU,dq,aj,aO,aU,dA,bG,Zad];refine⟨⟨([],0),rfl,rfl,rfl,Zaj _,rfl,Zah _,λt ht=>nomatch ht⟩,λx l=>?_⟩;obtain⟨o,i⟩:=x;obtain⟨c1,c2,c3,c4⟩:i<=y.length/\bt o (y.drop i)=bt [] y/\o.length<=i/\tG o:=l;refine⟨λe=>?_,λe=>?_⟩
 ·have p:i<y.length:=ω;have f:y.getD i (Tree.mk 0 [] 0 0 false 0 0 [])=y.getD i bn:=rfl;have d:y.drop i=y.getD i bn::y.drop (i+1):=by simp_all
  have hk:(y.getD i bn).r.length<=1000000:=j _ (by grind);rw[d,bt] at c2;have q:=jk o (y.getD i bn);have n:=EV c4 hk;have step:∀z,z=dv o (y.getD i bn)->sE y (z,i+1)/\y.length-(i+1)<y.length-i:=λz hz=>by
   subst hz;exact⟨⟨show i+1<=y.length by omega,c2,show(dv o (y.getD i bn)).length<=i+1 by omega,n⟩,ω⟩
  rw[f];simp only;generalize y.getD i bn=k at*
  have b:¬(o.length≠0/\k.op=2/\(lU o).op=2)->(((o++[k]).length:Nat):Int)*(96:Nat)<=140737488355328/\∃z:List Tree×Nat,(((o++[k]).length:Nat):Int)=((z.1.length:Nat):Int)/\an .i64 (i:Int) 1=(z.2:Int)/\o++[k]=z.1/\sE y z/\y.length-z.2<y.length-i:=λh=>by
   grind [dv]
  by_cases h0:o.length=0
  ·rw[h0,show da .i64 ((0:Nat):Int) 1= -1 from o6 ω ω];grind
  ·rw[xK ω ω];have c:o.getD (((o.length-1:Nat):Int).toNat) (Tree.mk 0 [] 0 0 false 0 0 [])=lU o:=rfl;have g:(lU o).r.length<=1000000:=c4 _ (by grind);simp only[c];refine⟨ω,e,λ_=>⟨λh1=>⟨ω,ω,λa=>⟨ω,ω,ω,by grind,by grind,ω,ω,(dv o k,i+1),?_,bz ω,?_,step _ rfl⟩,λa=>b λh=>a h.2.2⟩,λh1=>b λh=>h1 h.2.1⟩,λh=>absurd h ω⟩
   ·grind [dv]
   ·show cA o (((o.length-1:Nat):Int).toNat) _=dv o k
    unfold dv;rw[Zac ⟨h0,h1,a⟩];rfl
 ·grind [bt]
def Qj7 (a:Ok dc):Ok NG:=okZ [dc] Tryz.f116 QrI a QrL
end
end sx
end Go.Proofs.YtadfknojfbmjgaaGreat
