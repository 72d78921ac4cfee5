/- StreamTurned: a part of the proof. -/
import Derived.Test.YtklaonhcplaofaaGreatC7
set_option linter.all false
namespace Go.Proofs.YtklaonhcplaofaaGreat
open Go.Proofs.Tryz
set_option maxRecDepth 100000
set_option maxHeartbeats 4000000
namespace sx
noncomputable section
open Go Go.RowKit cls syn
abbrev tT (l:List ah):List (Nat×AO D.E):=[(0,.arr 15 l 155 false)]
def MJ:br D:=⟨144,Int×List ah,Qc8,λy=>y.2.length<=1000000/\(aF y.1 y.2).length<=1000000,λy=>[QsE y.1,.list 15 y.2],λ_=>[],λy=>.own 0 8 (ag (aF y.1 y.2)),λy=>tT (aF y.1 y.2),0,1⟩
def Qoh (y:MJ.Y):cO D:=⟨[],[6,7],[(58,⟨Nat,[0,8,9],λx=>[(5,.own 0 8 (ag (aF y.1 (y.2.take x)))),(10,QsE x)],[],λx=>tT (aF y.1 (y.2.take x)),1,λx=>x<=y.2.length/\(aF y.1 (y.2.take x)).length<=1000000,λx=>y.2.length-x⟩)],[],1,[]⟩
def u_ (t:ah):Bool:=t.op==1
def S9:br D:=bL 146 ah (λa _=>uq a) (λ_=>True) (λy=>[.agg (D.bd 15 y)]) λy=>.bool (u_ y)
def Qhi (v:AV D.E) (s:St D.E):C (List ah):=match v with
 | .own b _ _=>az (j8 s b) λa=>az (gi 15 a.c a.xs) λl=>.ret (l:List ah)
 | _=>.fail
def Qhj (a:List (AV D.E)) (s:St D.E):C (List ah):=match a with
 | [l,_]=>Qhi l s
 | _=>.fail
abbrev Qhk (y:List ah):List (AV D.E):=[.own 0 8 (ag y),.func (.func 146) [] []]
def MK:br D:=⟨180,List ah,Qhj,λy=>y.length<=1000000,Qhk,tT,λy=>QsE (xl u_ y),tT,1,1⟩
def Qok (y:MK.Y):cO D:=⟨[],[],[(26,{ X:=Nat,aN:=[1,7],sl:=λi=>[(0,.own 0 8 (ag y)),(8,QsE i)],kp:=[],pc:=λ_=>tT y,nx:=1,inv:=λi=>i<=y.length/\∀j,j<i->u_ (y.getD j bA)=false,me:=λi=>y.length-i })],[],1,[]⟩
def gH (y:List ah):List ah:=y.filter λt=>!u_ t
def ML:br D:=⟨145,List ah,Qhj,λy=>y.length<=1000000,Qhk,tT,λy=>.list 15 (lk (gH y)),λ_=>[],1,1⟩
def S' (y:List ah) (x:List ah×Nat×Nat):Prop:=x.1.length=y.length/\x.2.1<=x.2.2/\x.2.2<=y.length/\x.1.take x.2.1=gH (y.take x.2.2)/\x.1.drop x.2.2=y.drop x.2.2
def Qom (y:ML.Y):cO D:=⟨[],[],[(122,⟨List ah×Nat×Nat,[1],λx=>[(0,.own 0 8 (ag y)),(5,QsE x.2.1),(6,QsE x.2.2)],[],λx=>tT x.1,1,S' y,λx=>y.length-x.2.2⟩)],[],1,[]⟩
def D0 (t:ah):ah:=gS 3 (gH (aF 3 t.af))
def ctC:br D:=bL 106 ah (λa _=>uq a) (λy=>y.af.length<=1000000/\(aF 3 y.af).length<=1000000) (λy=>[.agg (D.bd 15 y)]) λy=>.agg (D.bd 15 (lk (D0 y)))
abbrev qH (k:ah):List (Nat×AO D.E):=[(0,.cells (D.bd 15 k) 155 false)]
def S_ (v:AV D.E) (s:St D.E):C ah:=match v with
 | .ptr b _=>az (cN (s.h.get b)) λo=>match o with
  | .cells cs _ _=>qi D 15 cs
  | _=>.fail
 | _=>.fail
def Ta:br D:=⟨183,ah×ah,λa s=>match a with
 | [x,p]=>az (Hh x) λx=>az (S_ p s) λk=>.ret (x,k)
 | _=>.fail,λy=>dA y.1,λy=>[.agg (D.bd 15 y.1),.ptr 0 0],λy=>qH y.2,λy=>.bool (nK y.1 y.2),λy=>qH y.2,1,1⟩
def Qhm (a:List (AV D.E)) (s:St D.E):C (List ah×ah):=match a with
 | [l,f]=>match f with
  | .func _ _ c=>match c with
   | [p]=>az (aU D s 15 l) λl=>az (S_ p s) λk=>.ret ((l:List ah),k)
   | _=>.fail
  | _=>.fail
 | _=>.fail
abbrev Qhn (y:List ah×ah):List (AV D.E):=[.list 15 y.1,.func (.func 183) [] [.ptr 0 0]]
variable {l:List ah} {a:Nat} {k:ah}
def MM:br D:=⟨180,List ah×ah,Qhm,λy=>dF y.1,Qhn,λy=>qH y.2,λy=>QsE (xl (λx=>nK x y.2) y.1),λy=>qH y.2,1,1⟩
def Qop (y:MM.Y):cO D:=⟨[],[],[(26,{ X:=Nat,aN:=[0,7],sl:=λi=>[(1,.func (.func 183) [] [.ptr 0 0]),(8,QsE i)],kp:=[],pc:=λ_=>qH y.2,nx:=1,inv:=λi=>i<=y.1.length/\∀j,j<i->nK (y.1.getD j bA) y.2=false,me:=λi=>y.1.length-i })],[],1,[]⟩
def Tb:br D:=⟨182,List ah×ah,Qhm,λy=>dF y.1,Qhn,λy=>qH y.2,λy=>.bool (y.1.any λx=>nK x y.2),λy=>qH y.2,1,1⟩
def dW (out:List ah):List ah->List ah
 | []=>out
 | k::l=>dW (if out.any (λx=>nK x k) then out else out++[k]) l
def MN:br D:=bL 149 (List ah) (λa s=>match a with
 | [l]=>az (aU D s 15 l) λl=>.ret (l:List ah)
 | _=>.fail) dF (λy=>[.list 15 y]) λy=>.list 15 (dW [] y)
def Tc (y:List ah) (x:List ah×Nat):Prop:=x.2<=y.length/\dW x.1 (y.drop x.2)=dW [] y/\(aA x.1).length<=(aA (y.take x.2)).length/\∀n∈aA x.1,ik n
def Qos (y:MN.Y):cO D:=⟨[],[],[(58,⟨List ah×Nat,[6,7],λx=>[(3,.grow 15 x.1 0),(8,QsE x.2)],[],λ_=>[(0,.tok 15 155)],1,Tc y,λx=>y.length-x.2⟩)],[],1,[]⟩
def Td (y:Int×(List ah)):Prop:=let b:=y.2.length;let q1:=ag y.2;let h:=λp:Prop=>aa [y.1] (aa [y.2] (aa [q1] p));(∃z:Nat,let d:=aF y.1 (List.take z y.2);h (0=ag d/\0=(z:Int)/\[]=d/\(Iv (z<=b/\d.length<=1000000))))/\(∀x:Nat,let c:=aF y.1 (List.take x y.2);let a:=gt (ah.mk 0 [] 0 0 false 0 0 []) y.2 (x:Int).toNat;let i:=ag (bC c a.af);let e:=bC c [ah.mk a.op a.r a.mn a.mx a.lz a.cap a.nk a.af];(Iv (x<=b/\c.length<=1000000))->ak (ay (x:Int) q1) (aH 0 (x:Int)/\ay (x:Int) q1/\ak (aC a.op y.1) (bx i 96/\∃z:Nat,let f:=aF y.1 (List.take z y.2);h (i=ag f/\aw .i64 (x:Int) 1=(z:Int)/\bC c a.af=f/\(Iv ((z<=b/\f.length<=1000000)/\(b-z)<(b-x))))) (bx (ag e) 96/\∃z:Nat,let g:=aF y.1 (List.take z y.2);h (ag e=ag g/\aw .i64 (x:Int) 1=(z:Int)/\e=g/\(Iv ((z<=b/\g.length<=1000000)/\(b-z)<(b-x)))))) (ag c=ag (aF y.1 y.2)/\c=aF y.1 y.2/\True))
def Qho (y:ah):Prop:=
 aC y.op 1=u_ y/\
 True
def Te (y:List ah):Prop:=let u:=λz:Nat=>(∀j:Nat,(Nat.le (Nat.succ j) z)->u_ (List.getD y j bA)=false);(∃z:Nat,aa [ag y,ag y] (0=(z:Int)/\aa [y] ((Iv (z<=y.length/\u z)))))/\(∀x:Nat,let b:=y.length;let q1:=ay (x:Int) (ag y);let a:=gt (ah.mk 0 [] 0 0 false 0 0 []) y (x:Int).toNat;let c:=u_ (ah.mk a.op a.r a.mn a.mx a.lz a.cap a.nk a.af);(Iv (x<=b/\(∀j:Nat,(Nat.le (Nat.succ j) x)->u_ (List.getD y j bA)=false)))->ak q1 (aH 0 (x:Int)/\q1/\Iv True/\RA0 a (RAL a.af (ak c ((x:Int)=xl u_ y/\aa [y] (True)) (∃z:Nat,aa [ag y,ag y] (aw .i64 (x:Int) 1=(z:Int)/\aa [y] ((Iv ((z<=b/\u z)/\(b-z)<(b-x))))))))) ((-1)=xl u_ y/\RAL y (True)))
def Tf (y:List ah):Prop:=let c:=ag y;let q1:=aC (xl u_ y) (-1);let u:=ah.mk 0 [] 0 0 false 0 0 [];Iv (y.length<=1000000)/\RAM c y (ak q1 (y=lk (gH y)/\True) ((∃z:(List ah)×Nat×Nat,aa [c] (xl u_ y=(z.2.1:Int)/\aw .i64 (xl u_ y) 1=(z.2.2:Int)/\y=z.1/\(Iv (S' y z))))/\(∀x:(List ah)×Nat×Nat,let b:=(x.2.1:Int);let d:=(x.2.2:Int);let a:=gt u x.1 d.toNat;let e:=ah.mk a.op a.r a.mn a.mx a.lz a.cap a.nk a.af;(Iv (S' y x))->ak (ay d c) (aH 0 d/\ay d c/\Iv True/\aa [a.op] (aa [a.r] (aa [a.mn,a.mx] (aa [a.lz] (aa [a.cap,a.nk] (aa [a.af] (ak (!(u_ e)) (aH 0 b/\ay b c/\∃z:(List ah)×Nat×Nat,aa [c] (aw .i64 b 1=(z.2.1:Int)/\aw .i64 d 1=(z.2.2:Int)/\cC x.1 b.toNat e=z.1/\(Iv (S' y z/\(y.length-z.2.2)<(y.length-x.2.2))))) (∃z:(List ah)×Nat×Nat,aa [c] (b=(z.2.1:Int)/\aw .i64 d 1=(z.2.2:Int)/\x.1=z.1/\(Iv (S' y z/\(y.length-z.2.2)<(y.length-x.2.2)))))))))))) (aH 0 b/\aH b c/\aH 0 b/\aH b c/\dj (Cq x.1 b (c-b) (kO (c-b) u)) b=lk (gH y)/\True))))
def Qc9 (y:ah):Prop:=let a:=lk (D0 y);let q1:=aF 3 y.af;let c:=lk (gH q1);let b:=lk (gS 3 c);Iv (y.af.length<=1000000/\q1.length<=1000000)/\RAM (3:Int) y.af (Iv (q1.length<=1000000)/\aa [ag q1] (aa [q1] (Iv (c.length<=1000000)/\aa ([3]:List Int) (aa [c] (b.op=a.op/\b.r=a.r/\b.mn=a.mn/\b.mx=a.mx/\b.lz=a.lz/\b.cap=a.cap/\b.nk=a.nk/\b.af=a.af/\True)))))
def Tg (y:ah×ah):Prop:=let a:=ah.mk y.1.op y.1.r y.1.mn y.1.mx y.1.lz y.1.cap y.1.nk y.1.af;Iv (dA a)/\RA0 y.1 (RAL y.1.af (RA0 y.2 (RAL y.2.af (nK a (ah.mk y.2.op y.2.r y.2.mn y.2.mx y.2.lz y.2.cap y.2.nk y.2.af)=nK y.1 y.2/\aa [y.2.op] (aa [y.2.r] (aa [y.2.mn,y.2.mx] (aa [y.2.lz] (aa [y.2.cap,y.2.nk] (aa [y.2.af] (True))))))))))
def Th (y:(List ah)×ah):Prop:=let b:=ag y.1;let q1:=y.1.length;let d:=xl (λ(x:ah)=>nK x y.2) y.1;let c:=λp:Prop=>aa [y.2.op] (aa [y.2.r] (aa [y.2.mn,y.2.mx] (aa [y.2.lz] (aa [y.2.cap,y.2.nk] (aa [y.2.af] p)))));(∃z:Nat,aa [y.1] (aa [b] (0=(z:Int)/\c ((Iv (z<=q1/\(∀j:Nat,(Nat.le (Nat.succ j) z)->nK (List.getD y.1 j bA) y.2=false)))))))/\(∀x:Nat,let a:=gt (ah.mk 0 [] 0 0 false 0 0 []) y.1 (x:Int).toNat;let e:=ah.mk a.op a.r a.mn a.mx a.lz a.cap a.nk a.af;let f:=nK e (ah.mk y.2.op y.2.r y.2.mn y.2.mx y.2.lz y.2.cap y.2.nk y.2.af);(Iv (x<=q1/\(∀j:Nat,(Nat.le (Nat.succ j) x)->nK (List.getD y.1 j bA) y.2=false)))->ak (ay (x:Int) b) (aH 0 (x:Int)/\ay (x:Int) b/\Iv (dA e)/\aa [a.op] (aa [a.r] (aa [a.mn,a.mx] (aa [a.lz] (aa [a.cap,a.nk] (aa [a.af] (aa [y.2.op] (aa [y.2.r] (aa [y.2.mn,y.2.mx] (aa [y.2.lz] (aa [y.2.cap,y.2.nk] (aa [y.2.af] (ak f ((x:Int)=d/\c (True)) (∃z:Nat,aa [y.1] (aa [b] (aw .i64 (x:Int) 1=(z:Int)/\c ((Iv ((z<=q1/\(∀j:Nat,(Nat.le (Nat.succ j) z)->nK (List.getD y.1 j bA) y.2=false))/\(q1-z)<(q1-x)))))))))))))))))))) ((-1)=d/\c (True)))
def Ti (y:(List ah)×ah):Prop:=Iv (dF y.1)/\aa [y.1] (aa [y.2.op] (aa [y.2.r] (aa [y.2.mn,y.2.mx] (aa [y.2.lz] (aa [y.2.cap,y.2.nk] (aa [y.2.af] (aH 0 (xl (λ(x:ah)=>nK x (ah.mk y.2.op y.2.r y.2.mn y.2.mx y.2.lz y.2.cap y.2.nk y.2.af)) y.1)=List.any y.1 (λ(x:ah)=>nK x y.2)/\aa [y.2.op] (aa [y.2.r] (aa [y.2.mn,y.2.mx] (aa [y.2.lz] (aa [y.2.cap,y.2.nk] (aa [y.2.af] (True)))))))))))))
def Tj (y:List ah):Prop:=let c:=λp:Prop=>RAM y (ag y) p;(∃z:(List ah)×Nat,c ([]=z.1/\0=(z.2:Int)/\(Iv (Tc y z))))/\(∀x:(List ah)×Nat,let q1:=(x.2:Int);let a:=gt (ah.mk 0 [] 0 0 false 0 0 []) y q1.toNat;let b:=ah.mk a.op a.r a.mn a.mx a.lz a.cap a.nk a.af;let d:=!(List.any x.1 (λ(e:ah)=>nK e b));(Iv (Tc y x))->ak (ay q1 (ag y)) (aH 0 q1/\ay q1 (ag y)/\Iv (dF x.1)/\RAL x.1 (RA0 a (RAL a.af (ak d (bx (ag (bC x.1 [b])) 96/\∃z:(List ah)×Nat,c (bC x.1 [b]=z.1/\aw .i64 q1 1=(z.2:Int)/\(Iv (Tc y z/\(y.length-z.2)<(y.length-x.2))))) (∃z:(List ah)×Nat,c (x.1=z.1/\aw .i64 q1 1=(z.2:Int)/\(Iv (Tc y z/\(y.length-z.2)<(y.length-x.2))))))))) (x.1=dW [] y/\True))
theorem Qou (y:Int×List ah) (c:MJ.pre y):Td y:=by
 obtain⟨op,a⟩:=y;obtain⟨h1,d⟩:a.length<=1000000/\(aF op a).length<=1000000:=c;unfold Td;simp only[bI,bH,av,a7,bm,cS,bO,Zad];refine⟨⟨0,by rfl,rfl,by rfl,ω,by simp[aF]⟩,λx f=>⟨λe=>⟨ω,e,λb=>?_,λb=>?_⟩,λe=>?_⟩⟩
 ·have e:x<a.length:=ω;have ht:=cg bA e;have hs:aF op (a.take (x+1))=aF op (a.take x)++(a.getD x bA).af:=by
   grind [aF]
  grind [ku]
 ·have e:x<a.length:=ω;have ht:=cg bA e;have hs:aF op (a.take (x+1))=aF op (a.take x)++[a.getD x bA]:=by
   grind [aF]
  grind [ku]
 ·grind
def Qhp:Ok MJ:=okZ [] f144 Qoh trivial Qou
def QaO:Ok S9:=okZ (V:=Qho) [] f146 (λ_=>ew ()) trivial λy _=>⟨rfl,trivial⟩
theorem Qov (y:List ah) (f:MK.pre y):Te y:=by
 have hl:y.length<=1000000:=f;unfold Te;simp only[bI,bH,av,cS,bO,Zad];refine⟨⟨0,rfl,Zaj _,λj b=>absurd b (Zbo _)⟩,λx ⟨g,a⟩=>⟨λe=>?_,λe=>?_⟩⟩
 ·have c:x<y.length:=ω;have a:∀j,j<x->u_ (y.getD j bA)=false:=a;have d:y.getD x (ah.mk 0 [] 0 0 false 0 0 [])=y.getD x bA:=rfl;rw[d];refine⟨ω,e,λh=>(S7 c h a).symm,λh=>⟨x+1,bK ω,⟨ω,λj b=>?_⟩,ω⟩⟩;grind
 ·grind [S6]
def Qhq:Ok MK:=okZ [S9] f180 Qok QaO Qov
theorem D1 (p:ah->Bool) (l:List ah):(xl p l= -1/\∀j,j<l.length->p (l.getD j bA)=false)\/∃i:Nat,i<l.length/\xl p l=(i:Int)/\p (l.getD i bA)/\∀j,j<i->p (l.getD j bA)=false:=by
 grind [xl]
theorem D2 (h:∀j,j<l.length->u_ (l.getD j bA)=false):gH l=l:=by
 unfold gH;refine List.filter_eq_self.mpr λa b=>?_
 grind [List.getElem_of_mem]
theorem xn (h:a<l.length):gH (l.take (a+1))=gH (l.take a)++(if u_ (l.getD a bA) then[] else[l.getD a bA]):=by
 grind [gH,cg]
theorem Tk (h:a<l.length):(l.set a k).take (a+1)=l.take a++[k]:=by
 rw[cg bA (by grind),List.take_set_of_le (Zah _),eo (by grind),List.getElem_set_self]
theorem Qow (y:List ah) (f:ML.pre y):Tf y:=by
 have hl:y.length<=1000000:=f;unfold Tf;simp only[bI,bH,av,cS,bO,Zad,aI,Zan,Zao];refine⟨hl,λh=>?_,λh=>?_⟩
 ·grind [D1,D2]
 ·obtain⟨i,i1,i2,i3,i4⟩:∃i:Nat,i<y.length/\xl u_ y=(i:Int)/\u_ (y.getD i bA)/\∀j,j<i->u_ (y.getD j bA)=false:=by
   grind [D1]
  rw[i2];refine⟨⟨(y,i,i+1),rfl,bK ω,rfl,rfl,ZcR _,i1,?_,rfl⟩,λx d=>?_⟩
  ·show y.take i=gH (y.take (i+1))
   grind [xn,D2]
  ·obtain⟨a,i,j⟩:=x;obtain⟨c1,c2,c3,c4,c5⟩:a.length=y.length/\i<=j/\j<=y.length/\a.take i=gH (y.take j)/\a.drop j=y.drop j:=d;refine⟨λe=>⟨ω,e,?_⟩,λe=>⟨ω,by grind,ω,by grind,?_⟩⟩
   ·have e:j<y.length:=by grind
    have c:a.getD j (ah.mk 0 [] 0 0 false 0 0 [])=y.getD j bA:=by
     grind [List.drop_eq_getElem_cons]
    have b:a.drop (j+1)=y.drop (j+1):=by
     grind [List.drop_eq_getElem_cons]
    rw[c];refine⟨λq=>⟨ω,by grind,(a.set i (y.getD j bA),i+1,j+1),bK (show i<=1000000 by omega),bK (show j<=1000000 by omega),rfl,⟨by grind,show i+1<=j+1 by omega,show j+1<=y.length by omega,?_,?_⟩,show y.length-(j+1)<y.length-j by omega⟩,λq=>⟨(a,i,j+1),rfl,bK (show j<=1000000 by omega),rfl,⟨c1,show i<=j+1 by omega,show j+1<=y.length by omega,?_,b⟩,show y.length-(j+1)<y.length-j by omega⟩⟩
    ·grind [Tk,xn]
    ·grind [List.drop_set_of_lt]
    ·grind [xn]
   ·grind [dj,Cq,Int.toNat_natCast]
def Qhr:Ok ML:=okZ [S9,MK] f145 Qom ⟨QaO,Qhq⟩ Qow
def Tm (l:List ah):(gH l).length<=l.length:=List.length_filter_le _ _
def ctH (y:ah) (b:ctC.pre y):Qc9 y:=by
 obtain⟨h1,a⟩:y.af.length<=1000000/\(aF 3 y.af).length<=1000000:=b;have:=Tm (aF 3 y.af);unfold Qc9;simp only[ie,Zai,lf,aI];exact⟨⟨h1,a⟩,a,ω,rfl,rfl,rfl,rfl,rfl,rfl,rfl,rfl⟩
def Qox:Ok ctC:=okZ [MJ,ML,MA] f106 (λ_=>ew ()) ⟨Qhp,Qhr,QaM⟩ ctH
theorem Qoy (y:ah×ah) (a:Ta.pre y):Tg y:=by
 have a:dA y.1:=a;grind [Tg,bO]
def Qhs:Ok Ta:=okZ [MF] f183 (λ_=>ew ()) (Qog .s) Qoy
theorem Qoz (y:List ah×ah) (a:MM.pre y):Th y:=by
 obtain⟨y,k⟩:=y;have a:dF y:=a;have hl:=a.len;unfold Th;simp only[bI,bH,av,cS,bO,Zad];refine⟨⟨0,rfl,Zaj _,λj d=>absurd d (Zbo _)⟩,λx ⟨g,b⟩=>⟨λe=>?_,λe=>?_⟩⟩
 ·have c:x<y.length:=ω;have b:∀j,j<x->nK (y.getD j bA) k=false:=b;have f:y.getD x (ah.mk 0 [] 0 0 false 0 0 [])=y.getD x bA:=rfl;rw[f];refine⟨ω,e,a.get c,λh=>(S7 (p:=λx=>nK x k) c h b).symm,λh=>⟨x+1,bK ω,⟨ω,λj d=>?_⟩,ω⟩⟩;grind
 ·grind [S6]
def Qht:Ok MM:=okZ [Ta] f180 Qop Qhs Qoz
def QoA (y:List ah×ah) (a:Tb.pre y):Ti y:=by
 unfold Ti;simp only[ie,Zai,lf,bO];exact⟨a,S8 _ _⟩
def Qhu:Ok Tb:=okZ [MM] f182 (λ_=>ew ()) Qht QoA
theorem QoB (y:List ah) (c:MN.pre y):Tj y:=by
 have c:dF y:=c;have hl:=c.len;unfold Tj;simp only[bI,bH,av,a7,bm,cS,bO,Zad,Zan,Zao];refine⟨⟨([],0),rfl,rfl,Zaj _,rfl,Zaj _,λn a=>by grind [aA]⟩,λx j=>?_⟩;obtain⟨o,i⟩:=x;obtain⟨c1,c2,c3,c4⟩:i<=y.length/\dW o (y.drop i)=dW [] y/\(aA o).length<=(aA (y.take i)).length/\∀n∈aA o,ik n:=j;have b:∀n,(aA (y.take n)).length<=(aA y).length:=λn=>by
  grind [List.take_append_drop,cz]
 have hO:dF o:=⟨by have:=b i;have:=c.1;omega,c4⟩;have h:=hO.len;refine⟨λe=>?_,λe=>?_⟩
 ·have d:i<y.length:=ω;have g:y.getD i (ah.mk 0 [] 0 0 false 0 0 [])=y.getD i bA:=rfl;have f:y.drop i=y.getD i bA::y.drop (i+1):=by simp_all
  have k:(aA (y.take (i+1))).length=(aA (y.take i)).length+(aD (y.getD i bA)).length:=by
   grind [cz,aA]
  rw[f,dW] at c2;rw[g];refine⟨ω,e,hO,λq=>?_,λq=>?_⟩
  ·rw[q] at c2;refine⟨by grind,(o++[y.getD i bA],i+1),rfl,bK ω,⟨show i+1<=y.length by omega,by assumption,?_,λn a=>?_⟩,show y.length-(i+1)<y.length-i by omega⟩
   ·grind [cz]
   ·rw[cz,aA,aA,Zaw] at a;rcases List.mem_append.mp a with a | a
    ·grind
    ·exact(c.get d).2 n a
  ·rw[q] at c2;exact⟨(o,i+1),rfl,bK ω,⟨show i+1<=y.length by omega,by assumption,show(aA o).length<=(aA (y.take (i+1))).length by omega,c4⟩,show y.length-(i+1)<y.length-i by omega⟩
 ·grind [dW]
def Qhv:Ok MN:=okZ [Tb] f149 Qos Qhu QoB
def s7 (l:List ah):Prop:=∀t∈l,t.r.length<=1000000
def nL (l:List ah):ah:=l.getD (l.length-1) bA
def oT (r:List Rg):ah:=.mk 2 (aV r) 0 0 false 0 0 []
def dv (out:List ah) (k:ah):List ah:=if out.length≠0/\k.op=2/\(nL out).op=2 then out.set (out.length-1) (oT ((nL out).r++k.r)) else out++[k]
def bJ (out:List ah):List ah->List ah
 | []=>out
 | k::l=>bJ (dv out k) l
def MO:br D:=bL 148 (List ah) (λa s=>match a with
 | [l]=>az (aU D s 15 l) λl=>.ret (l:List ah)
 | _=>.fail) (λy=>y.length<=1000000/\s7 y) (λy=>[.list 15 y]) λy=>.list 15 (bJ [] y)
def rX (y:List ah) (x:List ah×Nat):Prop:=x.2<=y.length/\bJ x.1 (y.drop x.2)=bJ [] y/\x.1.length<=x.2/\s7 x.1
def QoC (y:MO.Y):cO D:=⟨[],[9],[(58,⟨List ah×Nat,[8,9],λx=>[(3,.own 0 8 (ag x.1)),(10,QsE x.2)],[],λx=>tT x.1,1,rX y,λx=>y.length-x.2⟩)],[],1,[]⟩
def J3 (t:ah):Nd:=⟨t.op,t.r,t.mn,t.mx,t.lz,t.cap,t.nk⟩
def bF (t:ah):ah:=t.af.getD 0 bA
def ur (t:ah):ah:=.mk t.op t.r t.mn t.mx (t.lz&&decide (t.mn≠t.mx)) t.cap t.nk t.af
def D3 (k:ah) (n:Int):ah:=.mk k.op k.r (k.mn*n) k.mx k.lz k.cap k.nk k.af
def cQ (t:ah):ah:=
 if (bF t).op=1 then bF t
 else if t.mn=1/\t.mx=1 then bF t
 else if t.mx=0/\eZ (bF t)=false then .mk 1 [] 0 0 false 0 0 []
 else if ep (J3 (ur t))/\ep (J3 (bF t))/\(bF (bF t)).op=2 then D3 (bF t) t.mn
 else ur t
def YS (y:ah):Prop:=1<=y.af.length/\dA (bF y)/\0<=y.mn/\((bF y).op=5->0<=(bF y).mn/\1<=(bF y).af.length)
def Tn:br D:=bL 108 ah (λa _=>uq a) YS (λy=>[.agg (D.bd 15 y)]) λy=>.agg (D.bd 15 (lk (cQ y)))
def To (y:List ah):Prop:=let d:=y.length;let i:=λp:Prop=>RAM y (ag y) p;let u:=ah.mk 0 [] 0 0 false 0 0 [];(∃z:(List ah)×Nat,i (0=ag z.1/\0=(z.2:Int)/\[]=z.1/\(Iv (rX y z))))/\(∀x:(List ah)×Nat,let c:=(x.2:Int);let b:=cF .i64 (ag x.1) 1;let a:=gt u y c.toNat;let e:=gt u x.1 b.toNat;let f:=bC e.r a.r;let g:=bC x.1 [ah.mk a.op a.r a.mn a.mx a.lz a.cap a.nk a.af];let h:Prop:=(bx (ag g) 96/\∃z:(List ah)×Nat,i (ag g=ag z.1/\aw .i64 c 1=(z.2:Int)/\g=z.1/\(Iv (rX y z/\(d-z.2)<(d-x.2)))));(Iv (rX y x))->ak (ay c (ag y)) (aH 0 c/\ay c (ag y)/\ak (aH 0 b) (ak (aC a.op 2) (aH 0 b/\ay b (ag x.1)/\ak (aC e.op 2) (aH 0 b/\ay b (ag x.1)/\bx (ag e.r) 8/\bx (ag f) 8/\RAO e.r a.r a.r (Iv (f.length<=100000000)/\aa [f] (aH 0 b/\ay b (ag x.1)/\∃z:(List ah)×Nat,i (ag x.1=ag z.1/\aw .i64 c 1=(z.2:Int)/\cC x.1 b.toNat (ah.mk 2 (aV f) 0 0 false 0 0 [])=z.1/\(Iv (rX y z/\(d-z.2)<(d-x.2))))))) (h)) (h)) (h)) (x.1=bJ [] y/\True))
def Tp (y:ah):Prop:=let b:=lk (cQ y);let q1:=!(aC y.mn y.mx);let F:=ah.mk 0 [] 0 0 false 0 0 [];let a:=gt F y.af 0;let g:=a.af;let o:=aC (gt F g 0).op 2;let t:=ep (Nd.mk y.op y.r y.mn y.mx false y.cap y.nk);let u:=ep (Nd.mk y.op y.r y.mn y.mx q1 y.cap y.nk);let q:=ep (Nd.mk a.op a.r a.mn a.mx a.lz a.cap a.nk);let n:=ah.mk a.op a.r a.mn a.mx a.lz a.cap a.nk g;let s:=λp:Prop=>RA0 a (RAL g p);let m:=λp:Prop=>RA0 a p;let h:Prop:=(y.cap=b.cap/\y.nk=b.nk/\y.af=b.af/\True);let d:Prop:=(y.op=b.op/\y.r=b.r/\y.mn=b.mn/\y.mx=b.mx/\false=b.lz/\h);let e:Prop:=(y.op=b.op/\y.r=b.r/\y.mn=b.mn/\y.mx=b.mx/\q1=b.lz/\h);let f:Prop:=(a.mx=b.mx/\a.lz=b.lz/\a.cap=b.cap/\a.nk=b.nk/\g=b.af/\True);let c:Prop:=(a.op=b.op/\a.r=b.r/\a.mn=b.mn/\f);let B:=a.op=b.op/\a.r=b.r/\iB .i64 a.mn y.mn=b.mn/\f;let i:Prop:=(Iv True/\RAP y.op y.r y.mn y.mx (false=false/\aa [y.cap,y.nk] (ak t (Iv True/\m (ak q (Tt 1 (ay 0 (ag g)/\ak o B (d))) (d))) (d))));let j:Prop:=(Iv True/\RAS y.op y.r y.mn y.mx q1 y.cap y.nk (ak u (Iv True/\m (ak q (Tt 1 (ay 0 (ag g)/\ak o B (e))) (e))) (e)));let A:=1=b.op/\[]=b.r/\0=b.mn/\0=b.mx/\false=b.lz/\0=b.cap/\0=b.nk/\[]=b.af/\True;let k:Prop:=(ak (aC y.mx 0) (Iv (dA n)/\s (ak (!(eZ n)) A (i))) (i));let l:Prop:=(ak (aC y.mx 0) (Iv (dA n)/\s (ak (!(eZ n)) A (j))) (j));ak y.lz (Tt 1 (ay 0 (ag y.af)/\ak (aC a.op 1) (c) (ak (aC y.mn 1) (ak (aC y.mx 1) (c) (l)) (l)))) (Tt 1 (ay 0 (ag y.af)/\ak (aC a.op 1) (c) (ak (aC y.mn 1) (ak (aC y.mx 1) (c) (k)) (k))))
theorem D4:∀(m:List Rg) (b:Int),0<=b->b<=1114112->(∀p∈m,tF p/\b<=p.1)->m.Pairwise (λp q=>p.2+1<q.1)->2*(m.length:Int)<=1114113-b
 | [],b,_,h,_,_=>by grind
 | p::m,b,h0,h,h1,h2=>by
  obtain⟨⟨c1,c2,c3,c4⟩,c5⟩:=h1 p Za8;obtain⟨a,c⟩:=List.pairwise_cons.mp h2;cases m with
  | nil=>simp;omega
  | cons q m=>
   have f:=a q Za8;obtain⟨⟨_,e2,e,_⟩,_⟩:=h1 q (ZaU _ Za8);have:=D4 (q::m) (p.2+2) ω ω (λx d=>⟨(h1 x (ZaU _ d)).1,by grind⟩) c;grind
def kx (l:List Rg):(aV l).length<=1000000:=by
 obtain⟨⟨h1,b⟩,_⟩:=dI l;have:=D4 (aV l) 0 ω ω (λp a=>⟨h1 p a,(h1 p a).1⟩) b;omega
theorem iT (o:List ah) (k:ah):(dv o k).length<=o.length+1:=by
 grind [dv]
theorem D5 (h:s7 l) (hk:k.r.length<=1000000):s7 (dv l k):=by
 unfold dv;split
 ·intro t ht;rcases Zb1 ht with h1 | h1
  ·exact h t h1
  ·rw[h1];exact kx _
 ·intro t ht;rcases List.mem_append.mp ht with h1 | h1
  ·exact h t h1
  ·grind
theorem QoF (y:List ah) (m:MO.pre y):To y:=by
 obtain⟨hl,j⟩:y.length<=1000000/\s7 y:=m;unfold To;simp only[bI,bH,av,a7,bm,cS,bO,Zad];refine⟨⟨([],0),rfl,rfl,rfl,Zaj _,rfl,Zah _,λt ht=>nomatch ht⟩,λx l=>?_⟩;obtain⟨o,i⟩:=x;obtain⟨c1,c2,c3,c4⟩:i<=y.length/\bJ o (y.drop i)=bJ [] y/\o.length<=i/\s7 o:=l;refine⟨λe=>?_,λe=>?_⟩
 ·have p:i<y.length:=ω;have f:y.getD i (ah.mk 0 [] 0 0 false 0 0 [])=y.getD i bA:=rfl;have d:y.drop i=y.getD i bA::y.drop (i+1):=by simp_all
  have hk:(y.getD i bA).r.length<=1000000:=j _ (by grind);rw[d,bJ] at c2;have q:=iT o (y.getD i bA);have n:=D5 c4 hk;have step:∀z,z=dv o (y.getD i bA)->rX y (z,i+1)/\y.length-(i+1)<y.length-i:=λz hz=>by
   subst hz;exact⟨⟨show i+1<=y.length by omega,c2,show(dv o (y.getD i bA)).length<=i+1 by omega,n⟩,ω⟩
  rw[f];simp only;generalize y.getD i bA=k at*
  have b:¬(o.length≠0/\k.op=2/\(nL o).op=2)->(((o++[k]).length:Nat):Int)*(96:Nat)<=140737488355328/\∃z:List ah×Nat,(((o++[k]).length:Nat):Int)=((z.1.length:Nat):Int)/\aw .i64 (i:Int) 1=(z.2:Int)/\o++[k]=z.1/\rX y z/\y.length-z.2<y.length-i:=λh=>by
   grind [dv]
  by_cases h0:o.length=0
  ·rw[h0,show cF .i64 ((0:Nat):Int) 1= -1 from sQ ω ω];grind
  ·rw[zO ω ω];have c:o.getD (((o.length-1:Nat):Int).toNat) (ah.mk 0 [] 0 0 false 0 0 [])=nL o:=rfl;have g:(nL o).r.length<=1000000:=c4 _ (by grind);simp only[c];refine⟨ω,e,λ_=>⟨λh1=>⟨ω,ω,λa=>⟨ω,ω,ω,by grind,by grind,ω,ω,(dv o k,i+1),?_,bK ω,?_,step _ rfl⟩,λa=>b λh=>a h.2.2⟩,λh1=>b λh=>h1 h.2.1⟩,λh=>absurd h ω⟩
   ·grind [dv]
   ·show cC o (((o.length-1:Nat):Int).toNat) _=dv o k
    unfold dv;rw[Zac ⟨h0,h1,a⟩];rfl
 ·grind [bJ]
def Qhw (a:Ok dr):Ok MO:=okZ [dr] f148 QoC a QoF
theorem QoG (y:ah) (A:Tn.pre y):Tp y:=by
 obtain⟨h1,o,C,D⟩:1<=y.af.length/\dA (bF y)/\0<=y.mn/\((bF y).op=5->0<=(bF y).mn/\1<=(bF y).af.length):=A;have hk:y.af.getD 0 (ah.mk 0 [] 0 0 false 0 0 [])=bF y:=rfl;have t:(bF y).af.getD 0 (ah.mk 0 [] 0 0 false 0 0 [])=bF (bF y):=rfl;unfold Tp;simp only[bI,bH,av,cS,bO,aI,hk,t,Zan,Zao];have m:∀x:Nd,ep x->x.op=5/\x.mn<=1:=λx h=>by
  grind [ep]
 have E:∀X,cQ y=X->X.op=(cQ y).op/\X.r=(cQ y).r/\X.mn=(cQ y).mn/\X.mx=(cQ y).mx/\X.lz=(cQ y).lz/\X.cap=(cQ y).cap/\X.nk=(cQ y).nk/\X.af=(cQ y).af:=λX h=>by
  grind
 have V:∀b,ur y=ah.mk y.op y.r y.mn y.mx b y.cap y.nk y.af->¬(bF y).op=1->¬(y.mn=1/\y.mx=1)->¬(y.mx=0/\eZ (bF y)=false)->
   (ep ⟨y.op,y.r,y.mn,y.mx,b,y.cap,y.nk⟩->(ep ⟨(bF y).op,(bF y).r,(bF y).mn,(bF y).mx,(bF y).lz,(bF y).cap,(bF y).nk⟩->(0:Int)<((bF y).af.length:Int)/\((bF (bF y)).op=2->iB .i64 (bF y).mn y.mn=(bF y).mn*y.mn/\cQ y=D3 (bF y) y.mn)/\((bF (bF y)).op≠2->cQ y=ur y))/\(ep ⟨(bF y).op,(bF y).r,(bF y).mn,(bF y).mx,(bF y).lz,(bF y).cap,(bF y).nk⟩=false->cQ y=ur y))/\(ep ⟨y.op,y.r,y.mn,y.mx,b,y.cap,y.nk⟩=false->cQ y=ur y):=λb k p q s=>by
  have e:cQ y=if ep (J3 (ur y))/\ep (J3 (bF y))/\(bF (bF y)).op=2 then D3 (bF y) y.mn else ur y:=by
   grind [cQ]
  have B:ep (J3 (ur y))=ep ⟨y.op,y.r,y.mn,y.mx,b,y.cap,y.nk⟩:=by rw[k];rfl
  grind [J3]
 have u:(bF y).op=1->cQ y=bF y:=λh=>by grind [cQ]
 have v:¬(bF y).op=1->y.mn=1->y.mx=1->cQ y=bF y:=λh a b=>by grind [cQ]
 have n:¬(bF y).op=1->¬(y.mn=1/\y.mx=1)->y.mx=0->eZ (bF y)=false->cQ y=.mk 1 [] 0 0 false 0 0 []:=λh a b c=>by grind [cQ]
 have F:∀b,ur y=ah.mk y.op y.r y.mn y.mx b y.cap y.nk y.af->cQ y=ur y->y.op=(cQ y).op/\y.r=(cQ y).r/\y.mn=(cQ y).mn/\y.mx=(cQ y).mx/\b=(cQ y).lz/\y.cap=(cQ y).cap/\y.nk=(cQ y).nk/\y.af=(cQ y).af:=λb k h=>by
  rw[h,k];exact⟨rfl,rfl,rfl,rfl,rfl,rfl,rfl,rfl⟩
 have M:iB .i64 (bF y).mn y.mn=(bF y).mn*y.mn/\cQ y=D3 (bF y) y.mn->(bF y).op=(cQ y).op/\(bF y).r=(cQ y).r/\iB .i64 (bF y).mn y.mn=(cQ y).mn/\(bF y).mx=(cQ y).mx/\(bF y).lz=(cQ y).lz/\(bF y).cap=(cQ y).cap/\(bF y).nk=(cQ y).nk/\(bF y).af=(cQ y).af:=λ⟨a,h⟩=>by
  rw[a,h];exact⟨rfl,rfl,rfl,rfl,rfl,rfl,rfl,rfl⟩
 have z:y.lz->ur y=ah.mk y.op y.r y.mn y.mx (!aC y.mn y.mx) y.cap y.nk y.af:=λh=>by
  grind [ur]
 have w:y.lz=false->ur y=ah.mk y.op y.r y.mn y.mx false y.cap y.nk y.af:=λh=>by
  grind [ur]
 refine⟨λl=>?_,λl=>?_⟩
 ·have k:=z l;have W:=λp q s=>V _ k p q s
  have G:=F _ k;refine⟨ω,λk1=>E _ (u k1),λk1=>⟨λk2=>⟨λk3=>E _ (v k1 k2 k3),λk3=>⟨λk4=>⟨o,λk5=>E _ (n k1 (λh=>k3 h.2) k4 k5),λk5=>?_⟩,λk4=>?_⟩⟩,λk2=>⟨λk4=>⟨o,λk5=>E _ (n k1 (λh=>k2 h.1) k4 k5),λk5=>?_⟩,λk4=>?_⟩⟩⟩
  ·obtain⟨g,j⟩:=W k1 (λh=>k3 h.2) (λh=>by grind);exact⟨λd=>⟨λf=>⟨((g d).1 f).1,λi=>M (((g d).1 f).2.1 i),λi=>G (((g d).1 f).2.2 i)⟩,λf=>G ((g d).2 f)⟩,λd=>G (j d)⟩
  ·obtain⟨g,j⟩:=W k1 (λh=>k3 h.2) (λh=>k4 h.1);exact⟨λd=>⟨λf=>⟨((g d).1 f).1,λi=>M (((g d).1 f).2.1 i),λi=>G (((g d).1 f).2.2 i)⟩,λf=>G ((g d).2 f)⟩,λd=>G (j d)⟩
  ·obtain⟨g,j⟩:=W k1 (λh=>k2 h.1) (λh=>by grind);exact⟨λd=>⟨λf=>⟨((g d).1 f).1,λi=>M (((g d).1 f).2.1 i),λi=>G (((g d).1 f).2.2 i)⟩,λf=>G ((g d).2 f)⟩,λd=>G (j d)⟩
  ·obtain⟨g,j⟩:=W k1 (λh=>k2 h.1) (λh=>k4 h.1);exact⟨λd=>⟨λf=>⟨((g d).1 f).1,λi=>M (((g d).1 f).2.1 i),λi=>G (((g d).1 f).2.2 i)⟩,λf=>G ((g d).2 f)⟩,λd=>G (j d)⟩
 ·have k:=w l;have W:=λp q s=>V _ k p q s
  have G:=F _ k;refine⟨ω,λk1=>E _ (u k1),λk1=>⟨λk2=>⟨λk3=>E _ (v k1 k2 k3),λk3=>⟨λk4=>⟨o,λk5=>E _ (n k1 (λh=>k3 h.2) k4 k5),λk5=>?_⟩,λk4=>?_⟩⟩,λk2=>⟨λk4=>⟨o,λk5=>E _ (n k1 (λh=>k2 h.1) k4 k5),λk5=>?_⟩,λk4=>?_⟩⟩⟩
  ·obtain⟨g,j⟩:=W k1 (λh=>k3 h.2) (λh=>by grind);exact⟨λd=>⟨λf=>⟨((g d).1 f).1,λi=>M (((g d).1 f).2.1 i),λi=>G (((g d).1 f).2.2 i)⟩,λf=>G ((g d).2 f)⟩,λd=>G (j d)⟩
  ·obtain⟨g,j⟩:=W k1 (λh=>k3 h.2) (λh=>k4 h.1);exact⟨λd=>⟨λf=>⟨((g d).1 f).1,λi=>M (((g d).1 f).2.1 i),λi=>G (((g d).1 f).2.2 i)⟩,λf=>G ((g d).2 f)⟩,λd=>G (j d)⟩
  ·obtain⟨g,j⟩:=W k1 (λh=>k2 h.1) (λh=>by grind);exact⟨λd=>⟨λf=>⟨((g d).1 f).1,λi=>M (((g d).1 f).2.1 i),λi=>G (((g d).1 f).2.2 i)⟩,λf=>G ((g d).2 f)⟩,λd=>G (j d)⟩
  ·obtain⟨g,j⟩:=W k1 (λh=>k2 h.1) (λh=>k4 h.1);exact⟨λd=>⟨λf=>⟨((g d).1 f).1,λi=>M (((g d).1 f).2.1 i),λi=>G (((g d).1 f).2.2 i)⟩,λf=>G ((g d).2 f)⟩,λd=>G (j d)⟩
def Qhx:Ok Tn:=okZ [MD,SQ] f108 (λ_=>ew ()) ⟨Qoc .g,Qg8⟩ QoG
def jI (l:List ah):List ah:=bJ [] (dW [] l)
def jq:Nat->List ah->List ah
 | 0,l=>l
 | n+1,l=>if (jI l).length=l.length then l else jq n (jI l)
def BE (t:ah):ah:=gS 4 (jq (aF 4 t.af).length (aF 4 t.af))
def atC:br D:=bL 107 ah (λa _=>uq a) (λy=>y.af.length<=1000000/\dF (aF 4 y.af)) (λy=>[.agg (D.bd 15 y)]) λy=>.agg (D.bd 15 (lk (BE y)))
def atI (y:ah) (x:List ah):Prop:=dF x/\∃n,x.length<=n/\jq n x=jq (aF 4 y.af).length (aF 4 y.af)
def atO (y:atC.Y):cO D:=⟨[],[],[(14,⟨List ah,[],λx=>[(2,.ptr 0 0),(3,.list 15 x)],[],λ_=>[(0,.cells (D.bd 15 bA) 155 false)],1,atI y,λx=>x.length⟩)],[],1,[]⟩
def Qdb (y:ah):Prop:=let a:=lk (BE y);let d:=λp:Prop=>RAC (RAD (RAB p));let e:=λp:Prop=>RAB (RAH p);Iv (y.af.length<=1000000/\(aF 4 y.af).length<=1000000)/\RAM (4:Int) y.af ((∃z:List ah,aF 4 y.af=z/\d (false=false/\e ((Iv (atI y z)))))/\(∀x:List ah,let c:=dW [] x;let b:=lk (gS 4 x);let f:=aC (ag (bJ [] c)) (ag x);(Iv (atI y x))->Iv (dF x)/\aa [x] (Iv (c.length<=1000000/\s7 c)/\aa [c] (ak f (Iv (x.length<=1000000)/\aa ([4]:List Int) (aa [x] (b.op=a.op/\b.r=a.r/\b.mn=a.mn/\b.mx=a.mx/\b.lz=a.lz/\b.cap=a.cap/\b.nk=a.nk/\b.af=a.af/\True))) (∃z:List ah,bJ [] c=z/\d (false=false/\e ((Iv (atI y z/\z.length<x.length)))))))))
def NL (n:Nat) (l:List Nd):Prop:=l.length<=n/\∀x∈l,ik x
def NL.app {b:Nat} {l m:List Nd} (h:NL a l) (c:NL b m):NL (a+b) (l++m):=
 ⟨by rw[Zab];have:=h.1;have:=c.1;omega,λx d=>(List.mem_append.mp d).elim (h.2 x) (c.2 x)⟩
theorem ei (t:ah) (l:List ah):aA (t::l)=aD t++aA l:=by rfl
def Hl (r:List Rg):NL 1 (aD (oT (r))):=by
 rw[bQ];refine⟨by simp[oT,ah.af,aA],λx a=>?_⟩;have a:x=⟨2,aV r,0,0,false,0,0⟩:=by simpa [oT,ah.af,aA,ah.op,ah.r,ah.mn,ah.mx,ah.lz,ah.cap] using a
 rw[a];exact kx r
theorem Tq (ht:NL 1 (aD k)):∀(l:List ah) (i n:Nat),NL n (aA l)->NL n (aA (l.set i k))
 | [],_,_,h=>h
 | a::l,0,n,h=>by
  rw[Zdb,ei];rw[ei] at h;have h1:=h.1;rw[Zab] at h1;have d:1<=(aD a).length:=by rw[bQ];simp
  have:=ht.1;exact⟨by grind,λx b=>(List.mem_append.mp b).elim (ht.2 x) λb=>h.2 x (ZaC _ b)⟩
 | a::l,i+1,n,h=>by
  rw[Zdd,ei];rw[ei] at h;have h1:=h.1;rw[Zab] at h1;have:=Tq ht l i (aA l).length ⟨Zah _,λx b=>h.2 x (ZaC _ b)⟩;have c:=this.1;exact⟨by grind,λx b=>(List.mem_append.mp b).elim (λb=>h.2 x (Zay _ b)) (this.2 x)⟩
theorem xp (o:List ah) (k:ah):aA (o++[k])=aA o++aD k:=by grind [cz,aA]
def Tr {b:Nat} (h:NL a (aA l)) (hk:NL b (aD k)):NL (a+b) (aA (dv l k)):=by
 unfold dv;split
 ·have:=Tq (Hl ((nL l).r++k.r)) l (l.length-1) a h;exact⟨by have:=this.1;omega,this.2⟩
 ·rw[xp];exact h.app hk
def nt (h:NL a (aA (k::l))):NL (aD k).length (aD k)/\NL (aA l).length (aA l)/\(aD k).length+(aA l).length<=a:=by
 rw[ei] at h;have h1:=h.1;rw[Zab] at h1;exact⟨⟨Zah _,λx n=>h.2 x (Zay _ n)⟩,⟨Zah _,λx n=>h.2 x (ZaC _ n)⟩,h1⟩
theorem s8:∀(l o:List ah) (a b:Nat),NL a (aA o)->NL b (aA l)->NL (a+b) (aA (bJ o l))/\(bJ o l).length<=o.length+l.length
 | [],o,a,b,h,_=>⟨⟨by have:=h.1;unfold bJ;omega,h.2⟩,Zah _⟩
 | k::l,o,a,b,h,h2=>by
  obtain⟨p1,p2,p3⟩:=nt h2;obtain⟨c,d⟩:=s8 l _ _ _ (Tr h p1) p2;have:=iT o k;have:=c.1;rw[bJ];exact⟨⟨ω,c.2⟩,by grind⟩
theorem pE:∀(l o:List ah) (a b:Nat),NL a (aA o)->NL b (aA l)->NL (a+b) (aA (dW o l))/\(dW o l).length<=o.length+l.length
 | [],o,a,b,h,_=>⟨⟨by have:=h.1;unfold dW;omega,h.2⟩,Zah _⟩
 | k::l,o,a,b,h,h2=>by
  obtain⟨p1,p2,p3⟩:=nt h2;rw[dW];split
  ·obtain⟨c,d⟩:=pE l o _ _ h p2;have:=c.1;exact⟨⟨ω,c.2⟩,by grind⟩
  ·obtain⟨c,d⟩:=pE l (o++[k]) _ _ (by rw[xp];exact h.app p1) p2;have:=c.1;simp only[Zab,Zae,Zak] at d;exact⟨⟨ω,c.2⟩,by grind⟩
theorem BF:NL 0 (aA []):=⟨by simp[aA],λx a=>by grind [aA]⟩
theorem YV (h:dF l):dF (dW [] l)/\(dW [] l).length<=l.length:=by
 obtain⟨a,b⟩:=pE l [] 0 1000000 BF h;exact⟨⟨by have:=a.1;omega,a.2⟩,by grind⟩
theorem J6 (h:dF l):dF (bJ [] l)/\(bJ [] l).length<=l.length:=by
 obtain⟨a,b⟩:=s8 l [] 0 1000000 BF h;exact⟨⟨by have:=a.1;omega,a.2⟩,by grind⟩
theorem dF.rt (h:dF l):s7 l:=λt ht=>by
 obtain⟨i,hi,rfl⟩:=Za3 ht;have:=h.get hi;rw[eo hi] at this;have a:=this.2 ⟨l[i].op,l[i].r,l[i].mn,l[i].mx,l[i].lz,l[i].cap,l[i].af.length⟩ (by grind [bQ]);exact a
theorem atH (y:ah) (d:atC.pre y):Qdb y:=by
 obtain⟨h1,b⟩:y.af.length<=1000000/\dF (aF 4 y.af):=d;unfold Qdb;simp only[bH,nJ,l9,av,aI];refine⟨⟨h1,b.len⟩,⟨_,rfl,b,_,Zah _,rfl⟩,λx c=>?_⟩;obtain⟨i1,n,i2,i3⟩:=c;obtain⟨a,h⟩:=YV i1;obtain⟨f,g⟩:=J6 a;refine⟨i1,⟨a.len,a.rt⟩,λe=>⟨i1.len,?_⟩,λe=>⟨_,rfl,?_,ω⟩⟩
 ·have e:(jI x).length=x.length:=by grind [jI]
  have:BE y=gS 4 x:=by
   unfold BE;rw[<-i3];cases n with
   | zero=>rfl
   | succ n=>rw[jq,Zac e]
  grind
 ·have e:¬(jI x).length=x.length:=by grind [jI]
  cases n with
  | zero=>exact absurd (show(jI x).length=x.length by omega) e
  | succ n=>
   rw[jq,Zaa e] at i3;exact⟨f,n,ω,i3⟩
def QoH (a:Ok dr):Ok atC:=okZ [MB,MN,MO,MA] f107 atO ⟨Qg9,Qhv,Qhw a,QaM⟩ atH
def xq (t:ah):ah:=if t.op=3 then D0 t else if t.op=4 then BE t else if t.op=5 then cQ t else t
mutual
def jJ:ah->ah
 | .mk op r mn mx lz cap nk ks=>xq (.mk op r mn mx lz cap nk (dk ks))
def dk:List ah->List ah
 | []=>[]
 | t::l=>jJ t::dk l
end
mutual
def rY:ah->Prop
 | .mk op _ mn _ _ _ _ ks=>(op=5->1<=ks.length/\0<=mn)/\oU ks
def oU:List ah->Prop
 | []=>True
 | t::l=>rY t/\oU l
end
variable {l:List ah} {k:ah}
def MP (t:ah):ah:=lk (jJ t)
def D6 (t:ah) (n:Nat):List ah:=lk ((dk t.af).take n)
def Hm:br D:=bL 67 ah (λa _=>uq a) (λy=>dA y/\rY y) (λy=>[.agg (D.bd 15 y)]) λy=>.agg (D.bd 15 (MP y))
def QoI (y:Hm.Y):cO D:=⟨[],[],[(58,⟨Nat,[11,12],λx=>[(1,.ptr 0 0),(2,.ptr 1 0),(3,.grow 15 (D6 y x) 2),(13,QsE x)],[],λ_=>[(0,.cells (D.bd 15 y) 155 false),(1,.cells (D.bd 15 bA) 155 false),(2,.tok 15 155)],3,λx=>x<=y.af.length,λx=>y.af.length-x⟩)],[],1,[]⟩
def QoJ (y:Hm.Y):Prop:=vc [Hm.under dc (dc y),ctC,atC,Tn] f67 Hm QoI y
def Ts (y:ah):Prop:=let a:=MP y;let q1:=y.af;let j:=ag q1;let n:=λp:Prop=>RAC (RAD (RAB p));let o:=λp:Prop=>RAB (RAH (RA0 y (RAL q1 p)));Tt 1 (aH 0 j/\bx j 96/\(∃z:Nat,RAM q1 j ([]=D6 y z/\0=(z:Int)/\n (false=false/\o ((Iv (z<=q1.length))))))/\(∀x:Nat,let g:=D6 y x;let l:=q1.length;let e:=gt (ah.mk 0 [] 0 0 false 0 0 []) q1 (x:Int).toNat;let m:=ah.mk y.op y.r y.mn y.mx y.lz y.cap y.nk g;let h:=lk (D0 m);let b:=lk (BE m);let c:=lk (cQ m);let f:=ah.mk e.op e.r e.mn e.mx e.lz e.cap e.nk e.af;let d:=MP f;let k:=bC g [ah.mk d.op d.r d.mn d.mx d.lz d.cap d.nk d.af];let i:=λp:Prop=>RA0 y (RAL g p);(Iv (x<=l))->ak (ay (x:Int) j) (aH 0 (x:Int)/\ay (x:Int) j/\Iv ((dA f/\rY f)/\dc f<dc y)/\RA0 e (RAL e.af (bx (ag k) 96/\∃z:Nat,aa [q1] (aa [j] (k=D6 y z/\aw .i64 (x:Int) 1=(z:Int)/\n (false=false/\o ((Iv (z<=l/\(l-z)<(l-x)))))))))) (ak (aC y.op 3) (Iv (g.length<=1000000/\(aF 3 g).length<=1000000)/\i (h.op=a.op/\h.r=a.r/\h.mn=a.mn/\h.mx=a.mx/\h.lz=a.lz/\h.cap=a.cap/\h.nk=a.nk/\h.af=a.af/\True)) (ak (aC y.op 4) (Iv (g.length<=1000000/\dF (aF 4 g))/\i (b.op=a.op/\b.r=a.r/\b.mn=a.mn/\b.mx=a.mx/\b.lz=a.lz/\b.cap=a.cap/\b.nk=a.nk/\b.af=a.af/\True)) (ak (aC y.op 5) (Iv (YS m)/\i (c.op=a.op/\c.r=a.r/\c.mn=a.mn/\c.mx=a.mx/\c.lz=a.lz/\c.cap=a.cap/\c.nk=a.nk/\c.af=a.af/\True)) (y.op=a.op/\y.r=a.r/\y.mn=a.mn/\y.mx=a.mx/\y.lz=a.lz/\y.cap=a.cap/\y.nk=a.nk/\g=a.af/\True))))))
def YW:∀y,Ts y=QoJ y:=λy=>by kernel_rfl
theorem jd (t:ah):rY t↔(t.op=5->1<=t.af.length/\0<=t.mn)/\oU t.af:=by cases t;rw[rY];exact ZbW
theorem jP (l:List ah):oU l↔∀t∈l,rY t:=by
 induction l with
 | nil=>simp[oU]
 | cons a l b=>rw[oU,b];simp
theorem pF (l:List ah):(dk l).length=l.length:=by
 induction l with
 | nil=>simp[dk]
 | cons a l b=>simp[dk,b]
theorem MQ (l:List ah):dk l=l.map jJ:=by
 induction l with
 | nil=>simp[dk]
 | cons a l b=>simp[dk,b]
def YX (t:ah):jJ t=xq (.mk t.op t.r t.mn t.mx t.lz t.cap t.nk (dk t.af)):=by cases t;rw[jJ];rfl
theorem D7 {op:Int} (h:op≠5) (hl:oU l):rY (gS op l):=by
 match l,hl with
 | [],_=>rw[gS,rY];exact⟨λh=>ω,by assumption⟩
 | [k],hl=>exact(jP _).mp hl k (by simp)
 | a::b::l,hl=>
  grind [gS,rY]
theorem Aa {op:Int} (hl:oU l):oU (aF op l):=by
 grind [jP,aF,jd]
def YY (hl:oU l):oU (gH l):=by
 rw[jP] at*
 exact λt ht=>hl t (List.mem_filter.mp ht).1
theorem BG:∀(l o:List ah),oU o->oU l->oU (dW o l)
 | [],o,h,_=>by assumption
 | k::l,o,h,h2=>by
  rw[dW];rw[oU] at h2;split
  ·exact BG l o h h2.2
  ·refine BG l _ ?_ h2.2;grind [jP]
theorem Tu (r:List Rg):rY (oT r):=by grind [oT,rY,oU]
theorem Tv (h:oU l) (hk:rY k):oU (dv l k):=by
 grind [jP,dv,Tu]
theorem Ab:∀(l o:List ah),oU o->oU l->oU (bJ o l)
 | [],o,h,_=>by assumption
 | k::l,o,h,h2=>by
  rw[bJ];rw[oU] at h2;exact Ab l _ (Tv h h2.1) h2.2
theorem D8:∀(n:Nat) (l:List ah),oU l->oU (jq n l)
 | 0,l,h=>h
 | n+1,l,h=>by
  rw[jq];split
  ·exact h
  ·exact D8 n _ (Ab _ _ (by grind [oU]) (BG _ _ (by grind [oU]) h))
def NL.to {a b:Nat} {l:List Nd} (h:NL a l) (c:a<=b):NL b l:=⟨Zav h.1 c,h.2⟩
theorem mw (op:Int):∀(l:List ah) (n:Nat),NL n (aA l)->NL n (aA (aF op l))
 | [],n,h=>h
 | k::l,n,h=>by
  obtain⟨p1,p2,p3⟩:=nt h;have e:aF op (k::l)=(if k.op=op then k.af else[k])++aF op l:=rfl;have r:=mw op l _ p2;rw[e,cz];split
  ·rw[bQ] at p1 p3;simp only[Zae] at p3;have q:NL (aA k.af).length (aA k.af):=⟨Zah _,λx a=>p1.2 x (ZaU _ a)⟩;exact(q.app r).to ω
  ·rw[show aA [k]=aD k by grind [aA]];exact(p1.app r).to ω
theorem J7:∀(l:List ah) (n:Nat),NL n (aA l)->NL n (aA (gH l))
 | [],n,h=>h
 | k::l,n,h=>by
  obtain⟨p1,p2,p3⟩:=nt h;have r:=J7 l _ p2;unfold gH at r ⊢;rw[List.filter_cons];split
  ·rw[ei];exact(p1.app r).to ω
  ·exact r.to ω
theorem J8 (op:Int):NL 1 (aD (.mk op [] 0 0 false 0 0 [])):=by
 rw[aD];refine⟨by simp[aA],λx a=>?_⟩;have a:x=⟨op,[],0,0,false,0,0⟩:=by grind [aA]
 rw[a];exact Zaj _
theorem D9 (op:Int) {n:Nat} (h:NL n (aA l)):NL (n+1) (aD (gS op l)):=by
 match l,h with
 | [],_=>exact(J8 1).to ω
 | [k],h=>
  rw[show aA [k]=aD k by grind [aA]] at h;exact h.to ω
 | a::b::l,h=>
  rw[show gS op (a::b::l)=.mk op [] 0 0 false 0 0 (a::b::l) from rfl,aD];refine⟨by have:=h.1;simp only[Zae];omega,λx c=>?_⟩;rcases List.mem_cons.mp c with c | c
  ·rw[c];exact Zaj _
  ·exact h.2 x c
theorem D':∀(n:Nat) (l:List ah) (m:Nat),NL m (aA l)->NL m (aA (jq n l))
 | 0,l,m,h=>h
 | n+1,l,m,h=>by
  rw[jq];split
  ·exact h
  ·have h1:=(pE l [] 0 m BF h).1;have a:=(s8 _ [] 0 _ BF h1).1;exact D' n _ m (a.to ω)
def QaP (l:List ah):Prop:=∀x∈aA l,ik x
theorem Qdd (h:0<l.length) (hl:QaP l) {a:Nd}:NL (a::aA l).length (aD (l.getD 0 bA)):=by
 cases l with
 | nil=>cases h
 | cons k l=>
  have e:(k::l).getD 0 bA=k:=rfl;rw[e,ei];refine⟨by grind,λx b=>hl x (by grind [ei])⟩
def Kept (t u:ah):Prop:=rY u/\NL (aD t).length (aD u)
def YZ (h:rY k) (b:NL (aD k).length (aD k)):Kept k (ur k):=by
 unfold ur;refine⟨?_,?_⟩
 ·rw[jd] at*;exact h
 ·rw[bQ] at b;rw[bQ k];rw[aD];refine⟨Zah _,λx a=>?_⟩;rcases List.mem_cons.mp a with a | a
  ·rw[a];exact b.2 ⟨k.op,k.r,k.mn,k.mx,k.lz,k.cap,k.af.length⟩ Za8
  ·exact b.2 x (ZaU _ a)
theorem Tw (hk:1<=k.af.length) (h:rY k) (a:NL (aD k).length (aD k)):Kept k (bF k):=by
 have c:=(jP _).mp ((jd k).mp h).2;unfold bF;refine⟨by grind,?_⟩;rw[bQ] at a ⊢;have hl:QaP k.af:=λx b=>a.2 x (ZaU _ b)
 exact Qdd hk hl
theorem rZ (t:ah):1<=(aD t).length:=by rw[bQ];simp
theorem Tx (hk:1<=k.af.length) (h0:0<=k.mn) (h:rY k) (b:NL (aD k).length (aD k)):Kept k (cQ k):=by
 have K:=Tw hk h b;unfold cQ;split
 ·exact K
 ·split
  ·exact K
  ·split
   ·exact⟨by grind [rY,oU],(J8 1).to (rZ k)⟩
   ·split
    ·obtain⟨k1,k2⟩:=K;generalize bF k=t at*
     rw[jd] at k1;refine⟨?_,?_⟩
     ·grind [D3,rY,Int.mul_nonneg]
     ·rw[bQ t] at k2;unfold D3;rw[aD];refine⟨by have:=k2.1;simpa using this,λx a=>?_⟩;rcases List.mem_cons.mp a with a | a
      ·rw[a];exact k2.2 ⟨t.op,t.r,t.mn,t.mx,t.lz,t.cap,t.af.length⟩ Za8
      ·exact k2.2 x (ZaU _ a)
    ·exact YZ h b
theorem MR {t:ah} (h:rY t) (a:NL (aD t).length (aD t)):Kept t (xq t):=by
 have hi:=(jd t).mp h;have hl:NL (aA t.af).length (aA t.af):=by
  rw[bQ] at a;exact⟨Zah _,λx b=>a.2 x (ZaU _ b)⟩
 have e:(aD t).length=(aA t.af).length+1:=by rw[bQ];simp
 unfold xq;split
 ·refine⟨D7 ω (YY (Aa hi.2)),?_⟩;grind [D0,D9,J7,mw]
 ·split
  ·refine⟨D7 ω (D8 _ _ (Aa hi.2)),?_⟩;grind [BE,D9,D',mw]
  ·split
   ·grind [Tx]
   ·exact⟨h,a⟩
mutual
theorem pG:∀t:ah,rY t->NL (aD t).length (aD t)->Kept t (jJ t)
 | .mk op r mn mx lz cap nk ks,h,hn=>by
  rw[rY] at h
  rw[aD] at hn
  obtain⟨r1,r2⟩:=nu ks h.2 ⟨Zah _,λx hx=>hn.2 x (ZaU _ hx)⟩
  have hN:NL (aD (.mk op r mn mx lz cap nk ks)).length (aD (.mk op r mn mx lz cap nk (dk ks))):=by
   rw[aD,aD]
   refine⟨by have:=r2.1;simp only[Zae];omega,λx hx=>?_⟩
   rcases List.mem_cons.mp hx with hx | hx
   ·rw[hx];exact hn.2 ⟨op,r,mn,mx,lz,cap,ks.length⟩ Za8
   ·exact r2.2 x hx
  have B:=MR (t:=.mk op r mn mx lz cap nk (dk ks)) (by rw[rY,pF];exact⟨h.1,r1⟩) ⟨Zah _,hN.2⟩
  rw[jJ]
  exact⟨B.1,B.2.to hN.1⟩
theorem nu:∀l:List ah,oU l->NL (aA l).length (aA l)->oU (dk l)/\NL (aA l).length (aA (dk l))
 | [],_,h=>⟨by rw[dk,oU];trivial,by rw[dk];exact h⟩
 | t::l,h,hn=>by
  rw[oU] at h
  obtain⟨p1,p2,p3⟩:=nt hn
  have a:=pG t h.1 p1
  have b:=nu l h.2 p2
  rw[dk,oU,ei (jJ t)]
  exact⟨⟨a.1,b.1⟩,(a.2.app b.2).to p3⟩
end
theorem QoK (y:ah) (u:Hm.pre y):Ts y:=by
 obtain⟨h1,n⟩:dA y/\rY y:=u;have hi:=(jd y).mp n;have hk:=h1.af;have hl:=hk.len;have t:=pF y.af;obtain⟨z,h⟩:=nu y.af hi.2 ⟨Zah _,hk.2⟩;unfold Ts;simp only[bI,bH,av,a7,bm,cS,bO,Zad,MP,D6,aI];refine⟨ω,ω,⟨0,rfl,rfl,Zaj _⟩,λx k=>⟨λe=>?_,λe=>?_⟩⟩
 ·have c:x<y.af.length:=ω;have q:y.af.getD x (ah.mk 0 [] 0 0 false 0 0 [])=y.af.getD x bA:=rfl;rw[q];have ht:(dk y.af).take (x+1)=(dk y.af).take x++[jJ (y.af.getD x bA)]:=by
   rw[cg bA ω,eo (show x<(dk y.af).length by omega),eo c];grind [MQ]
  have f:rY (y.af.getD x bA):=by grind [jP]
  exact⟨ω,e,⟨⟨hk.get c,f⟩,im c⟩,by grind,x+1,ht.symm,bK ω,ω,ω⟩
 ·have k:(dk y.af).take x=dk y.af:=ZaA ω;rw[k,YX y];generalize s:dk y.af=a at*
  have w:∀op,(aF op a).length<=1000000/\dF (aF op a):=λop=>by
   have:=mw op a _ h;have j:dF (aF op a):=⟨Zav this.1 hk.1,this.2⟩;exact⟨j.len,j⟩
  refine⟨λo=>?_,λg=>⟨λo=>?_,λl=>⟨λo=>?_,λv=>?_⟩⟩⟩
  ·rw[show xq (.mk y.op y.r y.mn y.mx y.lz y.cap y.nk a)=D0 (.mk y.op y.r y.mn y.mx y.lz y.cap y.nk a) from Zac o];grind
  ·rw[show xq (.mk y.op y.r y.mn y.mx y.lz y.cap y.nk a)=BE (.mk y.op y.r y.mn y.mx y.lz y.cap y.nk a) from(Zaa g).trans (Zac o)];grind
  ·rw[show xq (.mk y.op y.r y.mn y.mx y.lz y.cap y.nk a)=cQ (.mk y.op y.r y.mn y.mx y.lz y.cap y.nk a) from((Zaa g).trans (Zaa l)).trans (Zac o)];obtain⟨b1,m⟩:=hi.1 o;have d:0<a.length:=ω;have p:dF a:=⟨Zav h.1 hk.1,h.2⟩;have b:rY (a.getD 0 bA):=by grind [jP]
   exact⟨⟨show 1<=a.length by omega,p.get d,m,λi=>⟨(((jd _).mp b).1 i).2,(((jd _).mp b).1 i).1⟩⟩,rfl,rfl,rfl,rfl,rfl,rfl,rfl,rfl⟩
  ·rw[show xq (.mk y.op y.r y.mn y.mx y.lz y.cap y.nk a)=(.mk y.op y.r y.mn y.mx y.lz y.cap y.nk a) from((Zaa g).trans (Zaa l)).trans (Zaa v)];exact⟨rfl,rfl,rfl,rfl,rfl,rfl,rfl,rfl⟩
def Qhy (a:Ok dr):Ok Hm:=Ob dc YW ⟨Qox,QoH a,Qhx⟩ QoK
def cJ (y:List Nd):List Nd:=if dE y=true then aD (jJ (ck y).1) else[]
def nM (y:List Nd):Prop:=∀x∈y,ik x
def D_:br D:=bL 38 (List Nd) X_ nM (λy=>[.list 7 y]) λy=>.list 7 (lk (cJ y))
def Ty (y:List Nd):Prop:=let a:=(ck y).1;let q1:=ah.mk a.op a.r a.mn a.mx a.lz a.cap a.nk a.af;let b:=MP q1;let c:=ah.mk b.op b.r b.mn b.mx b.lz b.cap b.nk b.af;Iv (cx y)/\RAL y (ak (!(dE y)) ([]=lk (cJ y)/\True) (Iv (y.length<=1000000/\Option.isSome (ft y.length y))/\aa [y] (Iv (dA q1/\rY q1)/\aa [a.op] (aa [a.r] (aa [a.mn,a.mx] (aa [a.lz] (aa [a.cap,a.nk] (aa [a.af] (Iv (dA c)/\aa [b.op] (aa [b.r] (aa [b.mn,b.mx] (aa [b.lz] (aa [b.cap,b.nk] (aa [b.af] (cZ c=lk (cJ y)/\True)))))))))))))))
def MS (x:Nd):Prop:=∃g:Nat,(b9 x g).2
mutual
def j3:ah->Prop
 | .mk op r mn mx lz cap nk ks=>MS ⟨op,r,mn,mx,lz,cap,ks.length⟩/\nk=ks.length/\my ks
def my:List ah->Prop
 | []=>True
 | t::l=>j3 t/\my l
end
def iq (t:ah):j3 t↔MS ⟨t.op,t.r,t.mn,t.mx,t.lz,t.cap,t.af.length⟩/\t.nk=t.af.length/\my t.af:=by cases t;rw[j3];exact ZbW
theorem pH (l:List ah):my l↔∀t∈l,j3 t:=by
 induction l with
 | nil=>simp[my]
 | cons a l b=>rw[my,b];simp
mutual
theorem s9:∀(t:ah) (m:Nat) (rest:List Nd),j3 t->(aD t++rest).length<=m->ft m (aD t++rest)=some (t,rest)
 | .mk op r mn mx lz cap nk ks,m,rest,h,hm=>by
  rw[j3] at h
  rw[aD] at hm ⊢
  simp only[Za1,Zae] at hm ⊢
  obtain⟨k,rfl⟩:∃k,m=k+1:=⟨m-1,ω⟩
  rw[ft]
  simp only[Zad]
  rw[xr ks k rest h.2.2 ω,h.2.1]
theorem xr:∀(l:List ah) (m:Nat) (rest:List Nd),my l->(aA l++rest).length<=m->jo (ft m) l.length (aA l++rest)=some (l,rest)
 | [],m,rest,_,_=>by simp[jo,aA]
 | t::l,m,rest,h,hm=>by
  rw[my] at h
  rw[aA,ZaD] at hm ⊢
  rw[Zae,jo,s9 t m _ h.1 hm]
  simp only
  rw[xr l m rest h.2 (by simp only[Zab] at hm ⊢;omega)]
end
variable {L:List Nd}
theorem Ea {x:Nd} {g:Int} (h:(b9 x g).2):(b9 x g).1=x.af/\0<=x.af:=by
 revert h
 grind [b9]
def Gr (L:List Nd) (f:Nat->Nat->Bool×Nat×Nat):Prop:=∀a g b c,f a g=(true,b,c)->∃t,j3 t/\L.drop a=aD t++L.drop b
theorem Ac {f:Nat->Nat->Bool×Nat×Nat} (e:Gr L f):∀(k a g b d:Nat),fl f k a g=(true,b,d)->∃c,my c/\c.length=k/\L.drop a=aA c++L.drop b
 | 0,a,g,b,d,h=>by cases h;exact⟨[],by grind [my],rfl,by rfl⟩
 | k+1,a,g,b,d,h=>by
  rw[fl] at h;split at h
  ·grind
  ·rename_i h1
   obtain⟨t,i,j⟩:=e a g (f a g).2.1 (f a g).2.2 (by
    have:(f a g).1:=by grind
    rw[<-this])
   obtain⟨c,l,m,n⟩:=Ac e k _ _ _ _ h;exact⟨t::c,by grind [my],by grind,by grind [aA]⟩
theorem Eb (L:List Nd):∀n,Gr L (fm L n)
 | 0=>λa g b j h=>by cases h
 | n+1=>λa g b j h=>by
  rw[fm] at h;split at h
  ·cases h
  ·rename_i hl
   have e:L.drop a=L.getD a (nd 0)::L.drop (a+1):=by simp_all
   generalize L.getD a (nd 0)=x at h e;split at h
   ·cases h
   ·rename_i hs
    have c:(b9 x g).2:=by grind
    obtain⟨i,e2⟩:=Ea c;obtain⟨f,h1,k,l⟩:=Ac (Eb L n) _ _ _ _ _ h;rw[i] at k;have d:(f.length:Int)=x.af:=ω;refine⟨.mk x.op x.r x.mn x.mx x.lz x.cap x.af f,by rw[j3,d];exact⟨⟨g,c⟩,rfl,h1⟩,?_⟩;rw[e,l,aD,d];rfl
theorem iU (h:dE L):∃t,j3 t/\L=aD t/\L.length<=480:=by
 unfold dE at h;simp only[ZaW,ZaP,Zb7] at h;obtain⟨⟨⟨h1,a⟩,b⟩,c⟩:=h;obtain⟨t,d,e⟩:=Eb L 241 0 0 (fm L 241 0 0).2.1 (fm L 241 0 0).2.2 (by grind);grind
theorem xt {t:ah} (h:j3 t):ft (aD t).length (aD t)=some (t,[]):=by
 have:=s9 t (aD t).length [] h (by simp);grind
theorem oV {t:ah} (h:j3 t):ck (aD t)=(t,[]):=by
 grind [ck,aI,xt]
theorem MS.rep {x:Nd} (h:MS x) (a:x.op=5):x.af=1/\0<=x.mn/\x.mn<=30/\(x.mx= -1\/(x.mn<=x.mx/\x.mx<=30)):=by
 obtain⟨g,h⟩:=h;grind [b9]
mutual
theorem Ec:∀t:ah,j3 t->rY t
 | .mk op r mn mx lz cap nk ks,h=>by
  rw[j3] at h
  rw[rY]
  refine⟨λh5=>?_,Tz ks h.2.2⟩
  obtain⟨h1,h2,_⟩:=h.1.rep h5
  have h1:(ks.length:Int)=1:=h1
  exact⟨ω,h2⟩
theorem Tz:∀l:List ah,my l->oU l
 | [],_=>by rw[oU];trivial
 | t::l,h=>by rw[my] at h;rw[oU];exact⟨Ec t h.1,Tz l h.2⟩
end
theorem QoM (y:List Nd) (j:D_.pre y):Ty y:=by
 have a:cx y:=j;unfold Ty;simp only[bH,bO,MP,cZ,aI,Zan,Zao];refine⟨a,λh=>?_,λh=>?_⟩
 ·grind [cJ]
 ·obtain⟨t,h1,f,g⟩:=iU h;have d:=Ec t h1;have e:ck y=(t,[]):=by grind [oV]
  have hs:cJ y=aD (jJ t):=by
   grind [cJ]
  have b:NL (aD t).length (aD t):=by rw[<-f];exact⟨Zah _,a⟩
  have i:(aD t).length<=480:=by grind
  obtain⟨_,k2⟩:=pG t d b;rw[e,hs];have k1:(aD (jJ t)).length<=(aD t).length:=k2.1;have c:(aD t).length<=1000000:=Zav i (by decide);refine⟨⟨Zav g (by decide),?_⟩,⟨⟨c,b.2⟩,d⟩,⟨Zav k1 c,k2.2⟩,rfl⟩;grind [xt]
def QaQ (a:Ok dr):Ok D_:=okZ [GP,Hi,Hm,Hj] f38 (λ_=>ew ()) ⟨QaB a,Qha,Qhy a,Qhb⟩ QoM
def oW (op mn mx:Int) (k s:Nat):Nat:=
 if op=2\/op=7\/op=8 then 1 else if op=4 then s+2*(k-1) else if op=6 then s+2
 else if op=5 then(if mx= -1 then mn.toNat*s+s+2 else mn.toNat*s+(mx.toNat-mn.toNat)*(s+1)) else s
mutual
def bp:ah->Nat
 | .mk op _ mn mx _ _ _ ks=>oW op mn mx ks.length (aP ks)
def aP:List ah->Nat
 | []=>0
 | t::l=>bp t+aP l
end
def ey (n:Nat):Int:=min (n:Int) 401
mutual
def jr:ah->List Int
 | .mk op _ mn mx _ _ _ ks=>ey (oW op mn mx ks.length (aP ks))::fC ks
def fC:List ah->List Int
 | []=>[]
 | t::l=>jr t++fC l
end
mutual
def pS:ah->Nat->List Int
 | .mk _ _ _ _ _ _ _ ks,a=>((a+1+(aA ks).length:Nat):Int)::ky ks (a+1)
def ky:List ah->Nat->List Int
 | [],_=>[]
 | t::l,a=>pS t a++ky l (a+(aD t).length)
end
def j4 (o:List Int) (a:Nat) (s:List Int):List Int:=o.take a++s++o.drop (a+s.length)
structure mM where
 l:List Nd
 o:List Int
 a:Int
def mM.t (y:mM):ah:=lk (ck (y.l.drop y.a.toNat)).1
def mM.n (y:mM):Nat:=lk (aD y.t).length
def Qhz (args:List (AV D.E)) (s:St D.E):C mM:=match args with
 | [l,o,a]=>az (aU D s 7 l) λl=>az (aU D s 5 o) λo=>aL (cA a) λ_ a=>.ret ⟨l,o,a⟩
 | _=>.fail
def MT (y:mM):Prop:=0<=y.a/\y.o.length=y.l.length/\y.l.length<=480/\∃t r,j3 t/\y.l.drop y.a.toNat=aD t++r
abbrev Ad (l:List Int):List (Nat×AO D.E):=[(0,.arr 5 l 3 false)]
variable {a:Nat} {o s:List Int}
def E7 (y:mM):List Int:=lk (j4 y.o y.a.toNat (jr y.t))
def szC:br D:=⟨62,mM,Qhz,MT,λy=>[.list 7 y.l,.own 0 1 (ag y.o),QsE y.a],λy=>Ad y.o,λy=>QsE (y.a+y.n),λy=>Ad (E7 y),1,1⟩
def Y1 (y:mM) (k:Nat):List Int:=lk (j4 y.o (y.a.toNat+1) (fC (y.t.af.take k)))
def Of (y:mM) (k:Nat):Int:=lk (y.a+1+(aA (y.t.af.take k)).length)
def szM (y:mM) (k:Nat):Int:=lk (ey (aP (y.t.af.take k)))
def szO (y:szC.Y):cO D:=⟨[],[],[(250,⟨Nat,[0,2,18],λx=>[(1,.own 0 1 (ag (Y1 y x))),(7,.ptr 1 0),(8,QsE (Of y x)),(9,QsE (szM y x)),(19,QsE x)],[1],λx=>Ad (Y1 y x),2,λx=>x<=y.t.af.length,λx=>y.t.af.length-x⟩)],[],1,[]⟩
def szV (y:szC.Y):Prop:=vc [szC.under (λy=>dc y.t) (dc y.t)] f62 szC szO y
def Hn (y:mM):List Int:=lk (j4 y.o y.a.toNat (pS y.t y.a.toNat))
def enC:br D:=⟨63,mM,Qhz,MT,λy=>[.list 7 y.l,.own 0 1 (ag y.o),QsE y.a],λy=>Ad y.o,λy=>QsE (y.a+y.n),λy=>Ad (Hn y),1,1⟩
def Y2 (y:mM) (k:Nat):List Int:=lk (j4 y.o (y.a.toNat+1) (ky (y.t.af.take k) (y.a.toNat+1)))
def enO (y:enC.Y):cO D:=⟨[],[],[(58,⟨Nat,[0,2,14],λx=>[(1,.own 0 1 (ag (Y2 y x))),(7,QsE (Of y x)),(15,QsE x)],[],λx=>Ad (Y2 y x),1,λx=>x<=y.t.af.length,λx=>y.t.af.length-x⟩)],[],1,[]⟩
def enV (y:enC.Y):Prop:=vc [enC.under (λy=>dc y.t) (dc y.t)] f63 enC enO y
def Qdg (y:mM):Prop:=let j:=E7 y;let q1:=y.a.toNat;let g:=lk (ck (List.drop q1 y.l)).1;let b:=gt (Nd.mk 0 [] 0 0 false 0 0) y.l q1;let q:=g.af.length;let u:=iB .i64 2 (cF .i64 b.af 1);let v:=cF .i64 b.mx b.mn;let t:=λp:Prop=>RA6 b p;let A:=y.a+((lk (aD g).length:Nat):Int);aH 0 y.a/\ay y.a (ag y.l)/\(∃z:Nat,RAO y.l y.a b.af (ag y.o=ag (Y1 y z)/\aw .i64 y.a 1=Of y z/\0=szM y z/\0=(z:Int)/\t (y.o=Y1 y z/\(Iv (z<=q)))))/\(∀x:Nat,let f:=Y1 y x;let e:=Of y x;let d:=szM y x;let c:=ag f;let k:=E7 (mM.mk y.l f e);let m:=lk (ck (List.drop e.toNat y.l)).1;let n:=iB .i64 b.mn d;let s:=ay (x:Int) b.af;let h:Prop:=(aH 0 y.a/\ay y.a c/\e=A/\cC f q1 (fK 1 401)=j/\True);let i:Prop:=(ak (aC b.op 4) (aH 0 y.a/\ay y.a c/\e=A/\cC f q1 (fK (aw .i64 d u) 401)=j/\True) (ak (aC b.op 6) (aH 0 y.a/\ay y.a c/\e=A/\cC f q1 (fK (aw .i64 d 2) 401)=j/\True) (ak (aC b.op 5) (ak (aC b.mx (-1)) (aH 0 y.a/\ay y.a c/\e=A/\cC f q1 (fK (aw .i64 (aw .i64 n d) 2) 401)=j/\True) (aH 0 y.a/\ay y.a c/\e=A/\cC f q1 (fK (aw .i64 n (iB .i64 v (aw .i64 d 1))) 401)=j/\True)) (aH 0 y.a/\ay y.a c/\e=A/\cC f q1 (fK d 401)=j/\True))));(Iv (x<=q))->ak s (Iv (MT (mM.mk y.l f e)/\dc m<dc g)/\RAP y.l c e f (aH 0 e/\ay e c/\∃z:Nat,aa [y.l] (aa [y.a,b.af] (c=ag (Y1 y z)/\(e+((lk (aD m).length:Nat):Int))=Of y z/\fK (aw .i64 d (gt 0 k e.toNat)) 401=szM y z/\aw .i64 (x:Int) 1=(z:Int)/\t (k=Y1 y z/\(Iv (z<=q/\(q-z)<(q-x)))))))) (ak (aC b.op 2) (ak (aC b.op 2) (h) (i)) (ak (aC b.op 7) (ak (aC b.op 7) (h) (i)) (ak (aC b.op 8) (h) (i)))))
def Qdh:∀y,Qdg y=szV y:=λy=>by kernel_rfl
def Qdi (y:mM):Prop:=let d:=lk (ck (List.drop y.a.toNat y.l)).1;let q1:=d.af.length;let u:=gt (Nd.mk 0 [] 0 0 false 0 0) y.l y.a.toNat;let f:=λp:Prop=>RAO y.l y.a u.af p;aH 0 y.a/\ay y.a (ag y.l)/\(∃z:Nat,f (ag y.o=ag (Y2 y z)/\aw .i64 y.a 1=Of y z/\0=(z:Int)/\y.o=Y2 y z/\(Iv (z<=q1))))/\(∀x:Nat,let b:=Of y x;let c:=Y2 y x;let e:=lk (ck (List.drop b.toNat y.l)).1;let g:=ay (x:Int) u.af;(Iv (x<=q1))->ak g (Iv (MT (mM.mk y.l c b)/\dc e<dc d)/\RAP y.l (ag c) b c (∃z:Nat,f (ag c=ag (Y2 y z)/\(b+((lk (aD e).length:Nat):Int))=Of y z/\aw .i64 (x:Int) 1=(z:Int)/\Hn (mM.mk y.l c b)=Y2 y z/\(Iv (z<=q1/\(q1-z)<(q1-x)))))) (aH 0 y.a/\ay y.a (ag c)/\b=(y.a+((lk (aD d).length:Nat):Int))/\cC c y.a.toNat b=Hn y/\True))
def Qdj:∀y,Qdi y=enV y:=λy=>by kernel_rfl
theorem Ho {α:Type} {i b:List α} {d:α} (h:i.length<=a):(i++b).getD a d=b.getD (a-i.length) d:=by
 grind
def J9 (o:List Int) (a:Nat):j4 o a []=o:=by simp[j4]
theorem J' (h:a+s.length<=o.length):(j4 o a s).length=o.length:=by
 grind [j4]
theorem J_ {b:Nat} {t:List Int} (h:a+s.length<=o.length) (d:b=a+s.length):j4 (j4 o a s) b t=j4 o a (s++t):=by
 subst d;unfold j4;have c:(o.take a++s++o.drop (a+s.length)).take (a+s.length)=o.take a++s:=ZdF (by grind);have e2:(o.take a++s++o.drop (a+s.length)).drop (a+s.length+t.length)=o.drop (a+s.length+t.length):=by
  rw[<-ZbZ,List.drop_left' (by simp;omega),ZbZ]
 rw[c,e2,Zab,<-Za4];simp
theorem Ka (v:Int) (h:a<o.length):(j4 o (a+1) s).set a v=j4 o a (v::s):=by
 unfold j4;have b:o.take (a+1)=o.take a++[o[a]]:=by simp_all
 have e2:(o.take a).length=a:=by grind
 rw[b,ZaD,ZaD,ZbY _ _ ω,e2,Zb3];grind
theorem Qdk {i:Nat} (h:a<=o.length) (hi:i<s.length):(j4 o a s).getD (a+i) 0=s.getD i 0:=by
 grind [j4]
theorem qI (t:ah):jr t=ey (bp t)::fC t.af:=by cases t;rw[jr,bp];rfl
def size_eq (t:ah):bp t=oW t.op t.mn t.mx t.af.length (aP t.af):=by cases t;rw[bp];rfl
theorem Hq (t:ah) (a:Nat):pS t a=((a+(aD t).length:Nat):Int)::ky t.af (a+1):=by
 rw[bQ];cases t with
 | mk op r mn mx lz cap nk b=>rw[pS];simp[ah.af];omega
mutual
theorem Ed:∀t:ah,(jr t).length=(aD t).length
 | .mk op r mn mx lz cap nk ks=>by rw[jr,aD,Zae,Zae,kz ks]
theorem kz:∀l:List ah,(fC l).length=(aA l).length
 | []=>by simp[fC,aA]
 | t::l=>by rw[fC,aA,Zab,Zab,Ed t,kz l]
end
mutual
theorem Ee:∀(t:ah) (a:Nat),(pS t a).length=(aD t).length
 | .mk op r mn mx lz cap nk ks,a=>by rw[pS,aD,Zae,Zae,oX ks]
theorem oX:∀(l:List ah) (a:Nat),(ky l a).length=(aA l).length
 | [],a=>by simp[ky,aA]
 | t::l,a=>by rw[ky,aA,Zab,Zab,Ee t,oX l]
end
variable {Z:ah} {l Y:List Nd} {a:Nat}
theorem r4 (a b:List ah):fC (a++b)=fC a++fC b:=by
 induction a with
 | nil=>simp[fC]
 | cons x a c=>simp[fC,c]
theorem s_ (a b:List ah):aP (a++b)=aP a+aP b:=by
 induction a with
 | nil=>simp[aP]
 | cons x a c=>simp[aP,c];omega
theorem xu:∀(l m:List ah) (a:Nat),ky (l++m) a=ky l a++ky m (a+(aA l).length)
 | [],m,a=>by rfl
 | t::l,m,a=>by
  rw[Za1,ky,xu l m,ky,aA,Zab,ZaD,Za4]
theorem TB (h:j3 Z) (r:List Nd):ck (aD Z++r)=(Z,r):=by
 grind [ck,aI,s9]
theorem jQ {r:List Nd} (h:j3 Z) (e:l.drop a=aD Z++r):lk (ck (l.drop a)).1=Z:=by
 rw[aI,e,TB h]
theorem vb {x:Nat} (e:l.drop a=aD Z++Y) (d:x<Z.af.length):l.drop (a+1+(aA (Z.af.take x)).length)=aD (Z.af.getD x bA)++(aA (Z.af.drop (x+1))++Y):=by
 have c:Z.af=Z.af.take x++(Z.af.getD x bA::Z.af.drop (x+1)):=by
  simp_all
 have b:aA Z.af=aA (Z.af.take x)++(aD (Z.af.getD x bA)++aA (Z.af.drop (x+1))):=by
  grind [cz,aA]
 rw[show a+1+(aA (Z.af.take x)).length=a+(1+(aA (Z.af.take x)).length) by omega,<-ZbZ,e,bQ,b,Za1,ZaD];grind
theorem pI (e:l.drop a=aD Z++Y):a<l.length/\l.getD a (nd 0)=⟨Z.op,Z.r,Z.mn,Z.mx,Z.lz,Z.cap,Z.af.length⟩/\a+(aD Z).length<=l.length:=by
 grind [bQ,List.length_append,List.drop_eq_getElem_cons]
theorem Hr (n:Nat):0<=ey n/\ey n<=401:=by grind [ey]
theorem kA (a b:Int):fK a b=min a b:=by grind [fK]
theorem Y3 (s u:Nat):fK (aw .i64 (ey s) (ey u)) 401=ey (s+u):=by
 grind [kA,ey]
theorem Kb (s k:Nat) (hk:k<=1000):fK (aw .i64 (ey s) (k:Int)) 401=ey (s+k):=by
 grind [kA,ey]
theorem TC {mn:Int} (s:Nat) (h0:0<=mn) (h1:mn<=30):fK (aw .i64 (aw .i64 (iB .i64 mn (ey s)) (ey s)) 2) 401=ey (mn.toNat*s+s+2):=by
 obtain⟨m,rfl⟩:=Zau h0;by_cases hs:s<=401
 ·have a:m*s<=30*401:=Zci ω hs;grind [kA,ey]
 ·grind [ey,kA]
theorem Y4 {mn mx:Int} (s:Nat) (h0:0<=mn) (h1:mn<=mx) (f:mx<=30):fK (aw .i64 (iB .i64 mn (ey s)) (iB .i64 (cF .i64 mx mn) (aw .i64 (ey s) 1))) 401=ey (mn.toNat*s+(mx.toNat-mn.toNat)*(s+1)):=by
 obtain⟨m,rfl⟩:=Zau h0;have⟨d,i⟩:=Zau (show 0<=mx-m by omega);have c:mx=((m+d:Nat):Int):=ω;subst c;have e:=Hr s;rw[sQ ω ω,show((m+d:Nat):Int) -(m:Int)=(d:Int) by omega,Zad,Zad,ZcN,ba (a:=ey s) (b:=1) ω ω];by_cases hs:s<=401
 ·have g:m*s<=30*401:=Zci ω hs;have h:d*(s+1)<=30*402:=Zci ω ω;grind [kA,ey]
 ·have g1:m*402<=m*s:=Zci ω ω;have g2:d*403<=d*(s+1):=Zci ω ω;grind [kA,ey]
theorem MT.out {y:mM} (h:MT y):∃(a:Nat) (r:List Nd),y.a=a/\j3 y.t/\y.l.drop a=aD y.t++r/\y.o.length=y.l.length/\y.l.length<=480/\y.n=(aD y.t).length:=by
 have⟨h0,h1,b,t,r,c,d⟩:=h;grind [mM.t,jQ,mM.n,aI]
theorem szH (y:mM) (P:szC.pre y):Qdg y:=by
 have⟨a,r,B,hw,n,O,hl,W⟩:=MT.out P;have⟨l,o,U⟩:=y;simp only at B n O hl;subst B;have⟨Z,Q,n3⟩:=pI n;have s:=(iq _).mp hw;have J:lk (ck (List.drop a l)).1=mM.t ⟨l,o,a⟩:=rfl;have E:∀k,Of ⟨l,o,a⟩ k=((a+1+(aA ((mM.t ⟨l,o,a⟩).af.take k)).length:Nat):Int):=λk=>by grind [Of,aI]
 have G:∀k,Y1 ⟨l,o,a⟩ k=j4 o (a+1) (fC ((mM.t ⟨l,o,a⟩).af.take k)):=λk=>by grind [Y1,aI]
 have H:∀k,szM ⟨l,o,a⟩ k=ey (aP ((mM.t ⟨l,o,a⟩).af.take k)):=λk=>by unfold szM;rw[aI]
 have I:E7 ⟨l,o,a⟩=j4 o a (jr (mM.t ⟨l,o,a⟩)):=by grind [E7,aI]
 unfold Qdg;simp only[Zad,J];rw[I];generalize mM.t ⟨l,o,a⟩=t at*
 have K:=bQ t;have L:(aD t).length=(aA t.af).length+1:=by grind
 have p:gt (Nd.mk 0 [] 0 0 false 0 0) l a=⟨t.op,t.r,t.mn,t.mx,t.lz,t.cap,t.af.length⟩:=Q;have C:∀k,(aA (t.af.take k)).length<=(aA t.af).length:=λk=>by
  grind [List.take_append_drop,cz]
 have N:t.af.length<=(aA t.af).length:=by
  have key:∀l:List ah,l.length<=(aA l).length:=λl=>by
   induction l with
   | nil=>simp
   | cons x l Y=>simp only[aA,Zab,Zae];rw[bQ];simp;omega
  exact key _
 have hlen:∀k,(j4 o (a+1) (fC (t.af.take k))).length=o.length:=λk=>J' (by grind [kz])
 rw[p];simp only[E,G,H];simp only[bI,bH,av,cS,Zad,hlen,aI];refine⟨ω,ω,⟨0,by grind [aA],by rfl,rfl,by simp[fC,J9],Zaj _⟩,λx X=>⟨λe=>?_,λe=>?_⟩⟩
 ·have b:x<t.af.length:=ω;have hk:=vb n b;have u:j3 (t.af.getD x bA):=by grind [pH]
  have ht:=cg bA b;have⟨m1,_,m3⟩:=pI hk;have w:MT ⟨l,j4 o (a+1) (fC (t.af.take x)),((a+1+(aA (t.af.take x)).length:Nat):Int)⟩:=⟨by grind,by grind,hl,_,_,u,by assumption⟩;have q:(ck (List.drop (a+1+(aA (t.af.take x)).length) l)).1=t.af.getD x bA:=by grind [aI,jQ]
  have i:E7 ⟨l,j4 o (a+1) (fC (t.af.take x)),((a+1+(aA (t.af.take x)).length:Nat):Int)⟩=j4 o (a+1) (fC (t.af.take (x+1))):=by
   unfold E7 mM.t;grind [aI,J_,kz,r4,fC]
  have F:(j4 o (a+1) (fC (t.af.take (x+1)))).getD (a+1+(aA (t.af.take x)).length) 0=ey (bp (t.af.getD x bA)):=by
   rw[ht,r4,fC,fC,Zaw,<-kz,Qdk ω (by rw[qI];simp),Ho ω,Zb3,qI];rfl
  rw[i,F,q];refine⟨⟨w,im b⟩,ω,ω,x+1,?_,?_,bK ω,rfl,ω,ω⟩
  ·grind [cz,aA]
  ·grind [s_,aP,Y3]
 ·have b:x=t.af.length:=ω;subst b;rw[ZaM];have c:((a+1+(aA t.af).length:Nat):Int)=(a:Int)+(((aD t).length:Nat):Int):=ω;have fin:∀v,v=ey (bp t)->cC (j4 o (a+1) (fC t.af)) a v=j4 o a (jr t):=λv D=>by
   show(j4 o (a+1) (fC t.af)).set a v=_
   grind [Ka,qI]
  have da:=size_eq t;unfold oW at da;have all:∀v,v=ey (bp t)->(0:Int)<=a/\(a:Int)<(o.length:Int)/\((a+1+(aA t.af).length:Nat):Int)=(a:Int)+(((aD t).length:Nat):Int)/\cC (j4 o (a+1) (fC t.af)) a v=j4 o a (jr t):=λv D=>⟨ω,ω,c,fin v D⟩
  have one:t.op=2\/t.op=7\/t.op=8->fK 1 401=ey (bp t):=λh=>by rw[da,Zac h];decide
  have wf:=s.1;have rest:¬(t.op=2\/t.op=7\/t.op=8)->((t.op=4->(0:Int)<=a/\(a:Int)<(o.length:Int)/\((a+1+(aA t.af).length:Nat):Int)=(a:Int)+(((aD t).length:Nat):Int)/\cC (j4 o (a+1) (fC t.af)) a (fK (aw .i64 (ey (aP t.af)) (iB .i64 2 (cF .i64 (t.af.length:Int) 1))) 401)=j4 o a (jr t))/\
    (t.op≠4->(t.op=6->(0:Int)<=a/\(a:Int)<(o.length:Int)/\((a+1+(aA t.af).length:Nat):Int)=(a:Int)+(((aD t).length:Nat):Int)/\cC (j4 o (a+1) (fC t.af)) a (fK (aw .i64 (ey (aP t.af)) 2) 401)=j4 o a (jr t))/\
    (t.op≠6->(t.op=5->(t.mx= -1->(0:Int)<=a/\(a:Int)<(o.length:Int)/\((a+1+(aA t.af).length:Nat):Int)=(a:Int)+(((aD t).length:Nat):Int)/\cC (j4 o (a+1) (fC t.af)) a (fK (aw .i64 (aw .i64 (iB .i64 t.mn (ey (aP t.af))) (ey (aP t.af))) 2) 401)=j4 o a (jr t))/\
     (t.mx≠-1->(0:Int)<=a/\(a:Int)<(o.length:Int)/\((a+1+(aA t.af).length:Nat):Int)=(a:Int)+(((aD t).length:Nat):Int)/\cC (j4 o (a+1) (fC t.af)) a (fK (aw .i64 (iB .i64 t.mn (ey (aP t.af))) (iB .i64 (cF .i64 t.mx t.mn) (aw .i64 (ey (aP t.af)) 1))) 401)=j4 o a (jr t)))/\
    (t.op≠5->(0:Int)<=a/\(a:Int)<(o.length:Int)/\((a+1+(aA t.af).length:Nat):Int)=(a:Int)+(((aD t).length:Nat):Int)/\cC (j4 o (a+1) (fC t.af)) a (fK (ey (aP t.af)) 401)=j4 o a (jr t))))):=λh=>by
   rw[Zaa h] at da;refine⟨λd=>all _ ?_,λd=>⟨λz=>all _ ?_,λz=>⟨λf=>⟨λR=>all _ ?_,λR=>all _ ?_⟩,λf=>all _ ?_⟩⟩⟩
   ·rw[Zac d] at da;have M:1<=t.af.length:=by
     have⟨g,V⟩:=wf;grind [b9]
    rw[da,zO ω ω,Bm ω ω];have:=Kb (aP t.af) (2*(t.af.length-1)) ω;assumption
   ·rw[Zaa d,Zac z] at da;rw[da];exact Kb _ 2 ω
   ·have⟨_,S,T,_⟩:=wf.rep f;grind [TC]
   ·have⟨_,S,T,w4⟩:=wf.rep f;grind [Y4]
   ·rw[Zaa d,Zaa z,Zaa f] at da;rw[da,kA];have:=Hr (aP t.af);omega
  refine⟨λj=>⟨λ_=>all _ (one (.inl j)),λh=>absurd j h⟩,λj=>⟨λm=>⟨λ_=>all _ (one (.inr (.inl m))),λh=>absurd m h⟩,λm=>⟨λA=>all _ (one (.inr (.inr A))),λA=>rest ω⟩⟩⟩
def QoN:Ok szC:=Ob (λy=>dc y.t) Qdh trivial szH
theorem enH (y:mM) (A:enC.pre y):Qdi y:=by
 have⟨a,r,j,hw,d,w,hl,E⟩:=MT.out A;have⟨l,o,C⟩:=y;simp only at j d w hl;subst j;have⟨H,B,I⟩:=pI d;have z:=(iq _).mp hw;have q:lk (ck (List.drop a l)).1=mM.t ⟨l,o,a⟩:=rfl;have n:∀k,Of ⟨l,o,a⟩ k=((a+1+(aA ((mM.t ⟨l,o,a⟩).af.take k)).length:Nat):Int):=λk=>by grind [Of,aI]
 have p:∀k,Y2 ⟨l,o,a⟩ k=j4 o (a+1) (ky ((mM.t ⟨l,o,a⟩).af.take k) (a+1)):=λk=>by grind [Y2,aI]
 have D:Hn ⟨l,o,a⟩=j4 o a (pS (mM.t ⟨l,o,a⟩) a):=by grind [Hn,aI]
 unfold Qdi;simp only[Zad,q];generalize mM.t ⟨l,o,a⟩=t at*
 have s:=bQ t;have u:(aD t).length=(aA t.af).length+1:=by grind
 have f:gt (Nd.mk 0 [] 0 0 false 0 0) l a=⟨t.op,t.r,t.mn,t.mx,t.lz,t.cap,t.af.length⟩:=B;have m:∀k,(aA (t.af.take k)).length<=(aA t.af).length:=λk=>by
  grind [List.take_append_drop,cz]
 have v:t.af.length<=(aA t.af).length:=by
  have key:∀l:List ah,l.length<=(aA l).length:=λl=>by
   induction l with
   | nil=>simp
   | cons x l G=>simp only[aA,Zab,Zae];rw[bQ];simp;omega
  exact key _
 have hlen:∀k,(j4 o (a+1) (ky (t.af.take k) (a+1))).length=o.length:=λk=>J' (by grind [oX])
 rw[f];simp only[n,p];simp only[bI,bH,av,cS,Zad,hlen,aI];refine⟨ω,ω,⟨0,by grind [aA],rfl,by simp[ky,J9],Zaj _⟩,λx F=>⟨λe=>?_,λe=>?_⟩⟩
 ·have b:x<t.af.length:=ω;have hk:=vb d b;have h:j3 (t.af.getD x bA):=by grind [pH]
  have ht:=cg bA b;have i:MT ⟨l,j4 o (a+1) (ky (t.af.take x) (a+1)),((a+1+(aA (t.af.take x)).length:Nat):Int)⟩:=⟨by grind,by grind,hl,_,_,h,by assumption⟩;have g:(ck (List.drop (a+1+(aA (t.af.take x)).length) l)).1=t.af.getD x bA:=by grind [aI,jQ]
  have c:Hn ⟨l,j4 o (a+1) (ky (t.af.take x) (a+1)),((a+1+(aA (t.af.take x)).length:Nat):Int)⟩=j4 o (a+1) (ky (t.af.take (x+1)) (a+1)):=by
   unfold Hn mM.t;grind [aI,J_,oX,xu,ky]
  rw[c,g];refine⟨⟨i,im b⟩,x+1,?_,bK ω,rfl,ω,ω⟩;grind [cz,aA]
 ·have b:x=t.af.length:=ω;subst b;rw[ZaM];refine⟨ω,ω,ω,?_⟩;show(j4 o (a+1) _).set a _=_
  grind [Ka,Hq]
def QoO:Ok enC:=Ob (λy=>dc y.t) Qdj trivial enH
def in0:aS:=⟨0,0,0,[]⟩
def gT (f:Nat->List aS) (sz:Nat):Nat->Nat->List aS
 | 0,_=>[]
 | n+1,b=>f b++gT f sz n (b+sz)
def e_ (g:Nat->aS) (f:Nat->List aS) (sz:Nat):Nat->Nat->List aS
 | 0,_=>[]
 | n+1,b=>g b::(f (b+1)++e_ g f sz n (b+1+sz))
def gI (lz:Bool) (b out:Nat):aS:=if lz=true then⟨2,out,(b+1:Nat),[]⟩ else⟨2,(b+1:Nat),out,[]⟩
def kB (mn mx:Int):Nat:=mx.toNat-mn.toNat
def Hs (f:Nat->List aS) (sz:Nat) (mn mx:Int) (lz:Bool) (b:Nat):List aS:=
 gT f sz mn.toNat b++(if mx= -1 then gI lz (b+mn.toNat*sz) (b+mn.toNat*sz+sz+2)::(f (b+mn.toNat*sz+1)++[⟨3,(b+mn.toNat*sz:Nat),0,[]⟩])
  else e_ (λi=>gI lz i (b+mn.toNat*sz+kB mn mx*(sz+1))) f sz (kB mn mx) (b+mn.toNat*sz))
mutual
def bP:ah->Nat->List aS
 | .mk op r mn mx lz cap _ ks,b=>
  if op=2 then[⟨1,0,0,r⟩] else if op=7 then[⟨5,0,0,[]⟩] else if op=8 then[⟨6,0,0,[]⟩]
  else if op=3 then bq ks b
  else if op=4 then jR ks b (b+aP ks+2*(ks.length-1))
  else if op=5 then Hs (λb=>bq ks b) (aP ks) mn mx lz b
  else if op=6 then⟨4,2*cap,0,[]⟩::(bq ks (b+1)++[⟨4,2*cap+1,0,[]⟩])
  else[]
def bq:List ah->Nat->List aS
 | [],_=>[]
 | t::l,b=>bP t b++bq l (b+bp t)
def jR:List ah->Nat->Nat->List aS
 | [],_,_=>[]
 | t::l,b,e=>if l.isEmpty=true then bP t b else⟨2,(b+1:Nat),(b+2+bp t:Nat),[]⟩::(bP t (b+1)++⟨3,e,0,[]⟩::jR l (b+2+bp t) e)
end
def fo:List ah->Nat->Nat->List aS
 | [],_,_=>[]
 | t::l,b,e=>⟨2,(b+1:Nat),(b+2+bp t:Nat),[]⟩::(bP t (b+1)++⟨3,e,0,[]⟩::fo l (b+2+bp t) e)
def jy:List ah->Nat->List Int
 | [],_=>[]
 | t::l,b=>(b+1+bp t:Nat)::jy l (b+2+bp t)
def js (sz:Nat):Nat->Nat->List Int
 | 0,_=>[]
 | n+1,b=>(b:Int)::js sz n (b+1+sz)
def kC (e:Int) (l:List aS) (j:Int):List aS:=l.set j.toNat ⟨(l.getD j.toNat in0).op,e,(l.getD j.toNat in0).y,(l.getD j.toNat in0).bg⟩
def fe (e:Int) (lz:Bool) (l:List aS) (j:Int):List aS:=l.set j.toNat ⟨(l.getD j.toNat in0).op,if lz=true then e else j+1,if lz=true then j+1 else e,(l.getD j.toNat in0).bg⟩
structure ed where
 ab:List aS
 bt:List Nd
 cy:List Int
 aQ:List Int
abbrev uu:=ed×Int
variable {Z:Nat} {Y:Nat->List aS} {x:Nd} {g:Nat->aS}
def Kc (n:Nat) (y:ed) (ab:List aS):List (Nat×AO D.E):=[(0,.cells [.own n 4 (ag ab),.list 7 y.bt,.list 5 y.cy,.list 5 y.aQ] 143 false),(n,.arr 8 ab 149 false)]
def Qdm (v:AV D.E) (s:St D.E):C ed:=match v with
 | .ptr b _=>az (cN (s.h.get b)) λo=>match o with
  | .cells cs _ _=>match cs with
   | [c,l,x,e]=>az (aU D s 8 c) λc=>az (aU D s 7 l) λl=>az (aU D s 5 x) λx=>az (aU D s 5 e) λe=>.ret ⟨c,l,x,e⟩
   | _=>.fail
  | _=>.fail
 | _=>.fail
def QaR (v:AV D.E):C aS:=az (asAgg v) λcs=>qi D 8 cs
def uv:br D:=⟨64,ed×aS,λa s=>match a with
 | [p,i]=>az (Qdm p s) λy=>az (QaR i) λi=>.ret (y,i)
 | _=>.fail,λy=>y.1.ab.length<=1000,λy=>[.ptr 0 0,.agg (D.bd 8 y.2)],λy=>Kc 1 y.1 y.1.ab,λy=>QsE y.1.ab.length,λy=>Kc 2 y.1 (y.1.ab++[y.2]),2,3⟩
def QoP (_:uv.Y):cO D:=⟨[],[],[],[],1,[]⟩
def Ef:br D:=⟨143,ed×Int×Int×Bool,λa s=>match a with
 | [p,i,o,b]=>az (Qdm p s) λy=>aL (cA i) λ_ i=>aL (cA o) λ_ o=>aL (x_ b) λb _=>.ret (y,i,o,b)
 | _=>.fail,λy=>y.1.ab.length<=1000/\0<=y.2.1/\y.2.1<y.1.ab.length,λy=>[.ptr 0 0,QsE y.2.1,QsE y.2.2.1,.bool y.2.2.2],λy=>Kc 1 y.1 y.1.ab,λ_=>.tuple [],λy=>Kc 1 y.1 (fe y.2.2.1 y.2.2.2 y.1.ab y.2.1),2,2⟩
def ed.t (y:uu):ah:=lk (ck (y.1.bt.drop y.2.toNat)).1
def kD (y:uu):Prop:=0<=y.2/\y.1.bt.length<=480/\(∀x∈y.1.bt,ik x)/\∃t,j3 t/\y.1.ab.length+bp t<=400/\(∃r,y.1.bt.drop y.2.toNat=aD t++r)/\(∃r,y.1.cy.drop y.2.toNat=jr t++r)/\∃r,y.1.aQ.drop y.2.toNat=pS t y.2.toNat++r
def QoS (a:List (AV D.E)) (s:St D.E):C uu:=match a with
 | [p,i]=>az (Qdm p s) λy=>aL (cA i) λ_ i=>.ret (y,i)
 | _=>.fail
def gU (y:uu):List aS:=lk (y.1.ab++bP (ed.t y) y.1.ab.length)
def Qdn (f:FuncId) (pre:uu->Prop):br D:=⟨f,uu,QoS,pre,λy=>[.ptr 0 0,QsE y.2],λy=>Kc 1 y.1 y.1.ab,λ_=>.tuple [],λy=>Kc 2 y.1 (gU y),2,3⟩
def Ht:br D:=Qdn 65 kD
def Qdo (y:uu):Prop:=kD y/\(ed.t y).op=4
def Qdp (y:uu):Prop:=kD y/\(ed.t y).op=5
def MU:br D:=Qdn 104 Qdo
def MV:br D:=Qdn 105 Qdp
def fnM (y:uu) (n:Nat):tI:=[Ht.under (λy=>2*dc (ed.t y)+1) n,MU.under (λy=>2*dc (ed.t y)) n,MV.under (λy=>2*dc (ed.t y)) n]
def uw (y:uu) (k:Nat):Int:=lk (y.2+1+(aA ((ed.t y).af.take k)).length)
def Eg (y:uu) (k:Nat):List aS:=lk (y.1.ab++bq ((ed.t y).af.take k) y.1.ab.length)
def QhA (y:Ht.Y):cO D:=⟨[],[],[(30710,⟨Nat,[0,38],λk=>[(4,.ptr 2 0),(5,QsE (uw y k)),(39,QsE k)],[2],λk=>Kc 3 y.1 (Eg y k),4,λk=>k<=(ed.t y).af.length,λk=>(ed.t y).af.length-k⟩)],[],1,[]⟩
def QoU (y:Ht.Y):Prop:=vc (fnM y (2*dc (ed.t y)+1)++[uv]) f65 Ht QhA y
def Eh (y:uu) (k:Nat):List aS:=lk (y.1.ab++fo ((ed.t y).af.take k) y.1.ab.length 0)
def Ei (y:uu) (k:Nat):List Int:=lk (jy ((ed.t y).af.take k) y.1.ab.length)
def BH (y:uu):List aS:=lk (y.1.ab++jR (ed.t y).af y.1.ab.length 0)
def BI (y:uu):List Int:=lk (jy (ed.t y).af.dropLast y.1.ab.length)
def Ej (y:uu) (j:Nat):List aS:=lk (((BI y).take j).foldl (kC (gU y).length) (BH y))
def ux (n:Nat):Nat×AO D.E:=(n,.tok 5 3)
def QhB (y:MU.Y):cO D:=⟨[],[],[
 (58,⟨Nat,[0,1,19],λk=>[(4,.grow 5 (Ei y k) 3),(5,QsE (uw y k)),(20,QsE k)],[],λk=>Kc 2 y.1 (Eh y k)++[ux 3],4,λk=>k+1<=(ed.t y).af.length,λk=>(ed.t y).af.length-k⟩),
 (62,⟨Nat,[0,66],λj=>[(65,.grow 5 (BI y) 3),(67,QsE j)],[],λj=>Kc 2 y.1 (Ej y j)++[ux 3],4,λj=>j<=(BI y).length,λj=>(BI y).length-j⟩)],
 [(7,⟨Unit,[0],λ_=>[(4,.grow 5 (BI y) 3)],[],λ_=>Kc 2 y.1 (BH y)++[ux 3],4,λ_=>True,λ_=>0⟩)],1,[]⟩
def QoV (y:MU.Y):Prop:=vc (fnM y (2*dc (ed.t y))++[uv,Ef]) f104 MU QhB y
def ndO (n:Nat) (x:ah):Nat×AO D.E:=(n,.cells [.int .i64 x.op,.list 6 x.r,.int .i64 x.mn,.int .i64 x.mx,.bool x.lz,.int .i64 x.cap,.int .i64 x.nk] 152 false)
def r5 (y:uu) (k:Nat):List aS:=lk (y.1.ab++gT (bq (ed.t y).af) (aP (ed.t y).af) k y.1.ab.length)
def MW (y:uu):Nat:=lk (r5 y (ed.t y).mn.toNat).length
def yC (y:uu) (k:Nat):List aS:=lk (r5 y (ed.t y).mn.toNat++e_ (λ_=>⟨2,0,0,[]⟩) (bq (ed.t y).af) (aP (ed.t y).af) k (MW y))
def uy (y:uu) (k:Nat):List Int:=lk (js (aP (ed.t y).af) k (MW y))
def kT (y:uu):Nat:=lk (kB (ed.t y).mn (ed.t y).mx)
def Ek (y:uu) (j:Nat):List aS:=lk (((uy y (kT y)).take j).foldl (fe (gU y).length (ed.t y).lz) (yC y (kT y)))
def QhC (y:MV.Y):cO D:=⟨[],[],[
 (106,⟨Nat,[0,5,28],λk=>[(4,.ptr 2 0),(29,QsE k)],[],λk=>Kc 3 y.1 (r5 y k)++[ndO 2 (ed.t y)],4,λk=>k<=(ed.t y).mn.toNat,λk=>(ed.t y).mn.toNat-k⟩),
 (250,⟨Nat,[0,5,62],λk=>[(4,.ptr 2 0),(7,.grow 5 (uy y k) 4),(63,QsE k)],[],λk=>Kc 3 y.1 (yC y k)++[ndO 2 (ed.t y),ux 4],5,λk=>k<=kT y,λk=>kT y-k⟩),
 (254,⟨Nat,[0,76],λj=>[(4,.ptr 2 0),(75,.grow 5 (uy y (kT y)) 4),(77,QsE j)],[],λj=>Kc 3 y.1 (Ek y j)++[ndO 2 (ed.t y),ux 4],5,λj=>j<=kT y,λj=>kT y-j⟩)],
 [(3,⟨Unit,[0,5],λ_=>[(4,.ptr 2 0)],[],λ_=>Kc 3 y.1 (r5 y (ed.t y).mn.toNat)++[ndO 2 (ed.t y)],4,λ_=>True,λ_=>0⟩)],1,[]⟩
def QoW (y:MV.Y):Prop:=vc (fnM y (2*dc (ed.t y))++[uv,Ef]) f105 MV QhC y
abbrev RAQ {T0 T1 T2 T3 T4:Type} (a:T0) (b:T1) (c:T2) (d:T3) (e:T4) (p:Prop):Prop:=aa [a] (aa [b] (aa [c] (aa [d] (aa [e] p))))
def TD (y:ed×aS):Prop:=let a:=([y.2]:List aS);let q1:=ag (bC y.1.ab a);bx q1 48=true/\RAQ (ag y.1.ab) y.2.op y.2.x y.2.y y.2.bg (cF .i64 q1 1=(y.1.ab.length:Int)/\q1=ag (y.1.ab++a)/\aa [y.1.bt] (aa [y.1.cy,y.1.aQ] (bC y.1.ab a=(y.1.ab++a)/\True)))
abbrev RA4 (v:ed) (p:Prop):Prop:=aa [v.bt] (aa [v.cy] (aa [v.aQ] p))
def TE (y:ed×Int×Int×Bool):Prop:=let a:=ag y.1.ab;let q1:=y.2.1.toNat;let i:=aw .i64 y.2.1 1;let e:=gt (aS.mk 0 0 0 []) y.1.ab q1;let d:=fe y.2.2.1 y.2.2.2 y.1.ab y.2.1;let j:=cC y.1.ab q1 (aS.mk e.op i e.y e.bg);let f:=gt (aS.mk 0 0 0 []) j q1;let g:=cC j q1 (aS.mk f.op f.x y.2.2.1 f.bg);let h:=gt (aS.mk 0 0 0 []) g q1;let k:=cC g q1 (aS.mk h.op y.2.2.1 h.y h.bg);let b:=gt (aS.mk 0 0 0 []) k q1;let c:=λp:Prop=>RA4 y.1 p;aH 0 y.2.1=true/\ay y.2.1 a=true/\aH 0 y.2.1=true/\ay y.2.1 a=true/\RAM a a (ak y.2.2.2 (aH 0 y.2.1=true/\ay y.2.1 a=true/\aH 0 y.2.1=true/\ay y.2.1 a=true/\aa [a,a] (a=ag d/\c (cC k q1 (aS.mk b.op b.x i b.bg)=d/\True))) (a=ag d/\c (g=d/\True)))
def TG (y:ed×Int):Prop:=let f:=gU y;let q1:=ag f;let h:=ag y.1.ab;let o:=aw .i64 y.2 1;let q:=(y.1,y.2);let i:=lk (ck (List.drop y.2.toNat y.1.bt)).1;let a:=gt (Nd.mk 0 [] 0 0 false 0 0) y.1.bt y.2.toNat;let l:=i.af.length;let m:=iB .i64 2 a.cap;let u:=aw .i64 m 1;let B:=y.1.ab++[aS.mk 4 m 0 []];let s:=ag B;let j:=(ed.mk B y.1.bt y.1.cy y.1.aQ,o);let d:=gU j;let b:=λp:Prop=>RA4 y.1 p;let n:=λp:Prop=>RA6 a p;let k:Prop:=(RAM y.2 h (RA4 y.1 (RAL y.1.ab (ag (gU q)=q1/\b (gU q=f/\True)))));let A:=y.1.ab++[aS.mk 1 0 0 a.r];let F:=y.1.ab++[aS.mk 5 0 0 []];let G:=y.1.ab++[aS.mk 6 0 0 []];aH 0 y.2/\ay y.2 (ag y.1.bt)/\ak (aC a.op 2) (bx (ag a.r) 8/\Iv (y.1.ab.length<=1000)/\aa ([1,0,0]:List Int) (RAM a.r h (RA4 y.1 (RAL y.1.ab (ag A=q1/\b (A=f/\True)))))) (ak (aC a.op 7) (Iv (y.1.ab.length<=1000)/\aa ([5,0,0]:List Int) (RAD (RAL h (RA4 y.1 (RAL y.1.ab (ag F=q1/\b (F=f/\True))))))) (ak (aC a.op 8) (Iv (y.1.ab.length<=1000)/\aa ([6,0,0]:List Int) (RAD (RAL h (RA4 y.1 (RAL y.1.ab (ag G=q1/\b (G=f/\True))))))) (ak (aC a.op 3) ((∃z:Nat,RAL a.af (o=uw y z/\0=(z:Int)/\n (h=ag (Eg y z)/\b (y.1.ab=Eg y z/\(Iv (z<=l))))))/\(∀x:Nat,let c:=uw y x;let e:=Eg y x;let g:=(ed.mk e y.1.bt y.1.cy y.1.aQ,c);let t:=ay (x:Int) a.af;(Iv (x<=l))->ak t (Iv (kD g/\((2*dc (lk (ck (List.drop c.toNat y.1.bt)).1))+1)<((2*dc i)+1))/\aa [c,ag e] (RA4 y.1 (RAL e (aH 0 c/\ay c (ag y.1.aQ)/\∃z:Nat,aa [a.af] (gt 0 y.1.aQ c.toNat=uw y z/\aw .i64 (x:Int) 1=(z:Int)/\n (ag (gU g)=ag (Eg y z)/\b (gU g=Eg y z/\(Iv (z<=l/\(l-z)<(l-x)))))))))) (ag e=q1/\b (e=f/\True)))) (ak (aC a.op 4) (Iv (Qdo q/\(2*dc i)<((2*dc i)+1))/\k) (ak (aC a.op 5) (Iv (Qdp q/\(2*dc i)<((2*dc i)+1))/\k) (ak (aC a.op 6) (Iv (y.1.ab.length<=1000)/\aa ([4,m,0]:List Int) (RAD (RAL h (RA4 y.1 (RAL y.1.ab (Iv (kD j/\((2*dc (lk (ck (List.drop o.toNat y.1.bt)).1))+1)<((2*dc i)+1))/\aa [o,s] (aa [y.1.bt] (aa [y.1.cy,y.1.aQ] (aa [y.1.ab++[aS.mk 4 m 0 []]] (Iv (d.length<=1000)/\aa ([4,u,0]:List Int) (aa ([[]]:List (List (Int×Int))) (aa [ag d] (aa [y.1.bt] (aa [y.1.cy,y.1.aQ] (aa [d] (ag (d++[aS.mk 4 u 0 []])=q1/\b ((d++[aS.mk 4 u 0 []])=f/\True))))))))))))))))) (h=q1/\b (y.1.ab=f/\True))))))))
def Y7:∀y,TG y=QoU y:=λy=>by kernel_rfl
def TH (y:ed×Int):Prop:=let d:=BI y;let q1:=ag (BH y);let A:=lk (ck (List.drop y.2.toNat y.1.bt)).1;let s:=A.af.length;let F:=gt (Nd.mk 0 [] 0 0 false 0 0) y.1.bt y.2.toNat;let C:=λp:Prop=>RAM y.2 F.af p;let k:=λp:Prop=>RA4 y.1 p;(aH 0 y.2/\ay y.2 (ag y.1.bt)/\(∃z:Nat,C ([]=Ei y z/\aw .i64 y.2 1=uw y z/\0=(z:Int)/\ag y.1.ab=ag (Eh y z)/\k (y.1.ab=Eh y z/\(Iv ((z+1)<=s)))))/\(∀x:Nat,let h:=uw y x;let c:=Eh y x;let t:=(c.length:Int);let B:=(ed.mk c y.1.bt y.1.cy y.1.aQ,h);let u:=ag (c++[aS.mk 2 0 0 []]);let v:=ay (x:Int) F.af;let w:=aC (x:Int) (cF .i64 F.af 1);let m:=(ed.mk (c++[aS.mk 2 0 0 []]) y.1.bt y.1.cy y.1.aQ,h);let a:=gU m;let n:=bC (Ei y x) [(a.length:Int)];let i:=ag (a++[aS.mk 3 0 0 []]);let o:=(a++[aS.mk 3 0 0 []]).length;let q:=fe i false (a++[aS.mk 3 0 0 []]) t;(Iv ((x+1)<=s))->ak v (aH 0 y.2/\ay y.2 (ag y.1.bt)/\ak w (Iv (kD B/\((2*dc (lk (ck (List.drop h.toNat y.1.bt)).1))+1)<(2*dc A))/\aa [h,ag c] (RA4 y.1 (RAL c (∃z:Unit,Ei y x=d/\ag (gU B)=q1/\k (gU B=BH y/\(Iv True)))))) (Iv (c.length<=1000)/\aa ([2,0,0]:List Int) (RAD (aa [ag c] (RA4 y.1 (RAL c (Iv (kD m/\((2*dc (lk (ck (List.drop h.toNat y.1.bt)).1))+1)<(2*dc A))/\aa [h,u] (aa [y.1.bt] (aa [y.1.cy,y.1.aQ] (aa [c++[aS.mk 2 0 0 []]] (Iv (a.length<=1000)/\aa ([3,0,0]:List Int) (aa ([[]]:List (List (Int×Int))) (aa [ag a] (aa [y.1.bt] (aa [y.1.cy,y.1.aQ] (aa [a] (bx (ag n) 8/\Iv (o<=1000/\0<=t/\t<(o:Int))/\aa [t,i] (false=false/\aa [i] (aa [y.1.bt] (aa [y.1.cy,y.1.aQ] (aa [a++[aS.mk 3 0 0 []]] (aH 0 h/\ay h (ag y.1.aQ)/\∃z:Nat,C (n=Ei y z/\gt 0 y.1.aQ h.toNat=uw y z/\aw .i64 (x:Int) 1=(z:Int)/\ag q=ag (Eh y z)/\k (q=Eh y z/\(Iv ((z+1)<=s/\(s-z)<(s-x))))))))))))))))))))))))))) (∃z:Unit,Ei y x=d/\ag c=q1/\k (c=BH y/\(Iv True)))))/\(∀x:Unit,(Iv True)->(∃z:Nat,RAM (ag d) d (0=(z:Int)/\q1=ag (Ej y z)/\k (BH y=Ej y z/\(Iv (z<=d.length)))))/\(∀l:Nat,let e:=Ej y l;let f:=d.length;let b:=ag e;let r:=ay (l:Int) (ag d);let g:=gt 0 d (l:Int).toNat;let j:=gt (aS.mk 0 0 0 []) e g.toNat;(Iv (l<=f))->ak r (aH 0 (l:Int)/\r/\aH 0 g/\ay g b/\RAM b b (∃z:Nat,aa [ag d] (aa [d] (aw .i64 (l:Int) 1=(z:Int)/\b=ag (Ej y z)/\k (cC e g.toNat (aS.mk j.op b j.y j.bg)=Ej y z/\(Iv (z<=f/\(f-z)<(f-l)))))))) (b=ag (gU y)/\k (e=gU y/\True))))
def Y8:∀y,TH y=QoV y:=λy=>by kernel_rfl
abbrev RAU {T0 T1 T2 T3 T4 T5 T6 T7:Type} (a:T0) (b:T1) (c:T2) (d:T3) (e:T4) (f:T5) (g:T6) (h:T7) (p:Prop):Prop:=aa [a] (aa [b] (aa [c] (aa [d] (aa [e] (aa [f] (aa [g] (aa [h] p)))))))
def TI (y:ed×Int):Prop:=let E:=uy y (kT y);let q1:=aw .i64 y.2 1;let a:=lk (ck (List.drop y.2.toNat y.1.bt)).1;let K:=ay 0 (gt 0 y.1.cy q1.toNat);let d:=gt (Nd.mk 0 [] 0 0 false 0 0) y.1.bt y.2.toNat;let v:=a.mn.toNat;let j:=r5 y v;let F:=ag j;let m:=(j.length:Int);let L:=ag (j++[aS.mk 2 0 0 []]);let q:=cF .i64 a.mx a.mn;let w:=(ed.mk (j++[aS.mk 2 0 0 []]) y.1.bt y.1.cy y.1.aQ,q1);let e:=gU w;let k:=ag (e++[aS.mk 3 m 0 []]);let A:=(e++[aS.mk 3 m 0 []]).length;let B:=fe k a.lz (e++[aS.mk 3 m 0 []]) m;let b:=λp:Prop=>RA4 y.1 p;let i:=λp:Prop=>RAS a.op a.r a.mn a.mx a.lz a.cap a.nk p;let N:=((2*dc (lk (ck (List.drop q1.toNat y.1.bt)).1))+1)<(2*dc a);aH 0 y.2=true/\ay y.2 (ag y.1.bt)=true/\(aH 0 q1=true/\ay q1 (ag y.1.cy)=true/\ak K ((∃z:Nat,RAM q1 d.mn (0=(z:Int)/\d.op=a.op/\d.r=a.r/\d.mn=a.mn/\d.mx=a.mx/\d.lz=a.lz/\d.cap=a.cap/\d.af=a.nk/\ag y.1.ab=ag (r5 y z)/\b (y.1.ab=r5 y z/\(Iv (z<=v)))))/\(∀x:Nat,let g:=r5 y x;let s:=(ed.mk g y.1.bt y.1.cy y.1.aQ,q1);let G:=ay (x:Int) d.mn;(Iv (x<=v))->ak G (Iv (kD s/\N)/\aa [q1,ag g] (RA4 y.1 (RAL g (∃z:Nat,aa [q1,d.mn] (aw .i64 (x:Int) 1=(z:Int)/\i (ag (gU s)=ag (r5 y z)/\b (gU s=r5 y z/\(Iv (z<=v/\(v-z)<(v-x)))))))))) (∃z:Unit,RAU q1 a.op a.r a.mn a.mx a.lz a.cap a.nk (ag g=F/\b (g=j/\(Iv True)))))) (∃z:Unit,RAL q1 (d.op=a.op/\d.r=a.r/\d.mn=a.mn/\d.mx=a.mx/\d.lz=a.lz/\d.cap=a.cap/\d.af=a.nk/\ag y.1.ab=F/\b (y.1.ab=j/\(Iv True)))))/\(∀x:Unit,(Iv True)->ak (aC a.mx (-1)) (Iv (j.length<=1000)/\aa ([2,0,0]:List Int) (RAD (RAL F (RA4 y.1 (RAL j (Iv (kD w/\N)/\aa [q1,L] (aa [y.1.bt] (aa [y.1.cy,y.1.aQ] (aa [j++[aS.mk 2 0 0 []]] (Iv (e.length<=1000)/\aa ([3,m,0]:List Int) (aa ([[]]:List (List (Int×Int))) (aa [ag e] (aa [y.1.bt] (aa [y.1.cy,y.1.aQ] (aa [e] (Iv (A<=1000/\0<=m/\m<(A:Int))/\aa [m,k] (aa [a.lz] (aa [k] (aa [y.1.bt] (aa [y.1.cy,y.1.aQ] (aa [e++[aS.mk 3 m 0 []]] (aa [k] (aa [a.lz] (ag B=ag (gU y)/\b (B=gU y/\True))))))))))))))))))))))))) ((∃z:Nat,RAM q1 q ([]=uy y z/\0=(z:Int)/\i (F=ag (yC y z)/\b (j=yC y z/\(Iv (z<=kT y))))))/\(∀n:Nat,let c:=yC y n;let t:=ag (uy y n);let C:=bC (uy y n) [(c.length:Int)];let H:=ag (c++[aS.mk 2 0 0 []]);let u:=(ed.mk (c++[aS.mk 2 0 0 []]) y.1.bt y.1.cy y.1.aQ,q1);let I:=ay (n:Int) q;(Iv (n<=kT y))->ak I (Iv (c.length<=1000)/\aa ([2,0,0]:List Int) (RAD (aa [ag c] (RA4 y.1 (RAL c (bx (ag C) 8=true/\Iv (kD u/\N)/\aa [q1,H] (aa [y.1.bt] (aa [y.1.cy,y.1.aQ] (aa [c++[aS.mk 2 0 0 []]] (∃z:Nat,aa [q1,q] (C=uy y z/\aw .i64 (n:Int) 1=(z:Int)/\i (ag (gU u)=ag (yC y z)/\b (gU u=yC y z/\(Iv (z<=kT y/\(kT y-z)<(kT y-n)))))))))))))))) ((∃z:Nat,RAL t (uy y n=E/\0=(z:Int)/\i (ag c=ag (Ek y z)/\b (c=Ek y z/\(Iv (z<=kT y))))))/\(∀o:Nat,let f:=Ek y o;let h:=ag f;let J:=ay (o:Int) t;let l:=gt 0 E (o:Int).toNat;let D:=fe h a.lz f l;(Iv (o<=kT y))->ak J (aH 0 (o:Int)=true/\ay (o:Int) (ag E)=true/\Iv (f.length<=1000/\0<=l/\l<(f.length:Int))/\RAP l h a.lz h (RA4 y.1 (RAO f h a.lz (∃z:Nat,aa [t] (aa [E] (aw .i64 (o:Int) 1=(z:Int)/\i (ag D=ag (Ek y z)/\b (D=Ek y z/\(Iv (z<=kT y/\(kT y-z)<(kT y-o))))))))))) (h=ag (gU y)/\b (f=gU y/\True)))))))
def Y9:∀y,TI y=QoW y:=λy=>by kernel_rfl
def kE (t:ah) (b:Nat):bP t b=if t.op=2 then[⟨1,0,0,t.r⟩] else if t.op=7 then[⟨5,0,0,[]⟩] else if t.op=8 then[⟨6,0,0,[]⟩]
  else if t.op=3 then bq t.af b
  else if t.op=4 then jR t.af b (b+aP t.af+2*(t.af.length-1))
  else if t.op=5 then Hs (λb=>bq t.af b) (aP t.af) t.mn t.mx t.lz b
  else if t.op=6 then⟨4,2*t.cap,0,[]⟩::(bq t.af (b+1)++[⟨4,2*t.cap+1,0,[]⟩])
  else[]:=by cases t;rw[bP];rfl
theorem oY (a:∀b,(Y b).length=Z):∀(n b:Nat),(gT Y Z n b).length=n*Z
 | 0,b=>by simp[gT]
 | n+1,b=>by rw[gT,Zab,a,oY a n,ZaV,Zc1]
theorem oZ (a:∀b,(Y b).length=Z):∀(n b:Nat),(e_ g Y Z n b).length=n*(Z+1)
 | 0,b=>by simp[e_]
 | n+1,b=>by rw[e_,Zae,Zab,a,oZ a n,ZaV];omega
theorem Ae:∀(n b:Nat),gT Y Z (n+1) b=gT Y Z n b++Y (b+n*Z)
 | 0,b=>by simp[gT]
 | n+1,b=>by
  rw[gT,Ae n,gT,ZaD,ZaV];congr 3;omega
theorem Af:∀(n b:Nat),e_ g Y Z (n+1) b=e_ g Y Z n b++(g (b+n*(Z+1))::Y (b+n*(Z+1)+1))
 | 0,b=>by simp[e_]
 | n+1,b=>by
  rw[e_,Af n,e_,Za1,ZaD,ZaV,show b+1+Z+n*(Z+1)=b+(n*(Z+1)+(Z+1)) by omega]
theorem Ag:∀(n b:Nat),js Z (n+1) b=js Z n b++[((b+n*(Z+1):Nat):Int)]
 | 0,b=>by simp[js]
 | n+1,b=>by
  rw[js,Ag n,js,Za1,ZaV,show b+1+Z+n*(Z+1)=b+(n*(Z+1)+(Z+1)) by omega]
theorem Em:∀(n b:Nat),(js Z n b).length=n
 | 0,b=>rfl
 | n+1,b=>by rw[js,Zae,Em n]
theorem MS.op (h:MS x) (h1:x.op≠1):x.op=2\/x.op=7\/x.op=8\/x.op=3\/x.op=4\/x.op=5\/x.op=6:=by
 have⟨g,h⟩:=h;grind [b9]
theorem MS.none (h:MS x) (h1:x.op=1):x.af=0:=by
 have⟨g,h⟩:=h;grind [b9]
theorem MS.aG (h:MS x) (h1:x.op=4):2<=x.af:=by
 obtain⟨g,h⟩:=h;grind [b9]
theorem MS.uk (h:MS x) (h1:x.op=6):x.af=1/\1<=x.cap/\x.cap<=4:=by
 have⟨g,h⟩:=h;grind [b9]
mutual
theorem ir:∀(t:ah) (b:Nat),j3 t->(bP t b).length=bp t
 | .mk op r mn mx lz cap nk ks,b,h=>by
  rw[j3] at h
  have hl:=λb=>mz ks b h.2.2
  have ha:=λb e=>kF ks b e h.2.2
  rw[bP,bp]
  unfold oW
  by_cases h1:op=1
  ·have h0:(ks.length:Int)=0:=h.1.none h1
   have:ks=[]:=Zap ω
   subst this
   subst h1
   simp[aP]
  ·by_cases h2:op=2
   ·simp[h2]
   ·by_cases h7:op=7
    ·simp[h7]
    ·by_cases h8:op=8
     ·simp[h8]
     ·by_cases h3:op=3
      ·simp[h3,hl]
      ·by_cases h4:op=4
       ·simp[h4,ha]
       ·by_cases h5:op=5
        ·simp only[h5]
         simp only[show ¬((5:Int)=2) by decide,show ¬((5:Int)=7) by decide,show ¬((5:Int)=8) by decide,show ¬((5:Int)=3) by decide,show ¬((5:Int)=4) by decide,show ¬((5:Int)=6) by decide,Za0,Zbv,or_self]
         unfold Hs
         rw[Zab,oY hl]
         split
         ·simp[hl];omega
         ·rw[oZ hl];rfl
        ·have h6:op=6:=by
          have:=h.1.op h1
          simp only at this
          omega
         simp[h6,hl]
theorem mz:∀(l:List ah) (b:Nat),my l->(bq l b).length=aP l
 | [],b,_=>by simp[bq,aP]
 | t::l,b,h=>by
  rw[my] at h
  rw[bq,aP,Zab,ir t b h.1,mz l _ h.2]
theorem kF:∀(l:List ah) (b e:Nat),my l->(jR l b e).length=aP l+2*(l.length-1)
 | [],b,e,_=>by simp[jR,aP]
 | t::l,b,e,h=>by
  rw[my] at h
  have h1:=λb=>ir t b h.1
  have h2:=λb=>kF l b e h.2
  rw[jR,aP]
  cases l with
  | nil=>simp[h1,aP]
  | cons u l=>
   simp only[List.isEmpty_cons,ZaE,Za0,Zae,Zab,h1,h2]
   omega
end
variable {b:Nat} {l:List ah} {p q:List aS}
theorem my.mem (h:my l) (a:b<l.length):j3 (l.getD b bA):=by grind [pH]
theorem my.take (h:my l) (n:Nat):my (l.take n):=by grind [pH]
theorem Y' (h:my l) (b e:Nat):(fo l b e).length=aP l+2*l.length:=by
 induction l generalizing b with
 | nil=>simp[fo,aP]
 | cons t l a=>
  grind [my,fo,ir,aP]
theorem Hu (l:List ah) (t:ah) (b:Nat):bq (l++[t]) b=bq l b++bP t (b+aP l):=by
 induction l generalizing b with
 | nil=>simp[bq,aP]
 | cons a l c=>rw[Za1,bq,c,bq,aP,ZaD,Za4]
theorem MX (l:List ah) (t:ah) (b e:Nat):fo (l++[t]) b e=fo l b e++(⟨2,(b+(aP l+2*l.length)+1:Nat),(b+(aP l+2*l.length)+2+bp t:Nat),[]⟩::(bP t (b+(aP l+2*l.length)+1)++[⟨3,e,0,[]⟩])):=by
 induction l generalizing b with
 | nil=>simp[fo,aP]
 | cons a l c=>
  rw[Za1,fo,c,fo,aP,Zae,Za1,ZaD,Za1,show b+2+bp a+(aP l+2*l.length)=b+(bp a+aP l+2*(l.length+1)) by omega]
theorem MY (l:List ah) (t:ah) (b:Nat):jy (l++[t]) b=jy l b++[((b+(aP l+2*l.length)+1+bp t:Nat):Int)]:=by
 induction l generalizing b with
 | nil=>simp[jy,aP]
 | cons a l c=>
  rw[Za1,jy,c,jy,aP,Zae,Za1,show b+2+bp a+(aP l+2*l.length)=b+(bp a+aP l+2*(l.length+1)) by omega]
theorem En (l:List ah) (b:Nat):(jy l b).length=l.length:=by
 induction l generalizing b with
 | nil=>rfl
 | cons a l c=>rw[jy,Zae,c,Zae]
theorem pJ (l:List ah) (t:ah) (b e:Nat):jR (l++[t]) b e=fo l b e++bP t (b+(aP l+2*l.length)):=by
 induction l generalizing b with
 | nil=>simp[jR,fo,aP]
 | cons a l c=>
  grind [jR,fo,aP,List.length_cons]
theorem TJ {x:aS} {e:Int} (a:p.length=b):kC e (p++x::q) (b:Int)=p++⟨x.op,e,x.y,x.bg⟩::q:=by
 grind [kC]
theorem r6 {x:aS} {e:Int} {lz:Bool} (a:p.length=b):fe e lz (p++x::q) (b:Int)=p++⟨x.op,if lz=true then e else(b:Int)+1,if lz=true then(b:Int)+1 else e,x.bg⟩::q:=by
 grind [fe]
theorem iu (e:Int) (l:List aS) (j:Int):(kC e l j).length=l.length:=by grind [kC]
theorem dX (e:Int) (lz:Bool) (l:List aS) (j:Int):(fe e lz l j).length=l.length:=by grind [fe]
theorem Ah (e:Int):∀(a:List Int) (l:List aS),(a.foldl (kC e) l).length=l.length
 | [],l=>rfl
 | j::a,l=>by rw[Zb2,Ah e a,iu]
theorem Ai (e:Int) (lz:Bool):∀(a:List Int) (l:List aS),(a.foldl (fe e lz) l).length=l.length
 | [],l=>rfl
 | j::a,l=>by rw[Zb2,Ai e lz a,dX]
theorem BJ {e:Nat}:∀(l:List ah) (p q:List aS) (b:Nat),my l->p.length=b->(jy l b).foldl (kC e) (p++(fo l b 0++q))=p++(fo l b e++q)
 | [],p,q,b,_,_=>by rfl
 | t::l,p,q,b,h,hb=>by
  have h1:=ir t (b+1) h.1;rw[jy,fo,fo,Zb2];have a:p++((⟨2,(b+1:Nat),(b+2+bp t:Nat),[]⟩::(bP t (b+1)++⟨3,(0:Nat),0,[]⟩::fo l (b+2+bp t) 0))++q)=(p++(⟨2,(b+1:Nat),(b+2+bp t:Nat),[]⟩::bP t (b+1)))++(⟨3,(0:Nat),0,[]⟩::(fo l (b+2+bp t) 0++q)):=by simp
  rw[a,TJ (by grind)];have e2:∀x:aS,(p++(⟨2,(b+1:Nat),(b+2+bp t:Nat),[]⟩::bP t (b+1)))++(x::(fo l (b+2+bp t) 0++q))=((p++(⟨2,(b+1:Nat),(b+2+bp t:Nat),[]⟩::bP t (b+1)))++[x])++(fo l (b+2+bp t) 0++q):=λx=>by simp
  rw[e2,BJ l _ q (b+2+bp t) h.2 (by simp;omega)];simp
theorem BK {lz:Bool} {f:Nat->List aS} {sz:Nat} (c:∀e,(f e).length=sz):∀(n:Nat) (p:List aS) (e:Nat),p.length=e->(js sz n e).foldl (fe b lz) (p++e_ (λ_=>⟨2,0,0,[]⟩) f sz n e)=p++e_ (λi=>gI lz i b) f sz n e
 | 0,p,e,_=>by rfl
 | n+1,p,e,a=>by
  rw[js,e_,e_,Zb2,r6 a];have e2:∀x:aS,p++x::(f (e+1)++e_ (λ_=>⟨2,0,0,[]⟩) f sz n (e+1+sz))=(p++x::f (e+1))++e_ (λ_=>⟨2,0,0,[]⟩) f sz n (e+1+sz):=λx=>by simp
  rw[e2,BK c n _ (e+1+sz) (by grind)];grind [gI]
theorem QoX (y:ed×aS) (a:uv.pre y):TD y:=by
 have h:y.1.ab.length<=1000:=a;grind [TD]
def Kd:Ok uv:=okZ [] f64 QoP trivial QoX
theorem BL {α:Type} {l:List α} {v d:α} (h:b<l.length):gt d (cC l b v) b=v:=by
 grind [cC]
theorem tc {α:Type} (l:List α) (i:Nat) (a b:α):cC (cC l i a) i b=cC l i b:=by grind [cC,List.set_set]
def QoY (y:ed×Int×Int×Bool) (f:Ef.pre y):TE y:=by
 have⟨m,a,o,lz⟩:=y;obtain⟨h1,b,c⟩:m.ab.length<=1000/\0<=a/\a<m.ab.length:=f;have hi:a.toNat<m.ab.length:=ω;unfold TE;simp only[bH,km,gk,av,dX,BL hi,tc];have e:aw .i64 a 1=a+1:=ba ω ω;have d:gt (aS.mk 0 0 0 []) m.ab a.toNat=m.ab.getD a.toNat in0:=rfl;refine⟨b,c,b,c,λh=>⟨b,c,b,c,?_⟩,λh=>?_⟩
 ·simp only[e,d,h,fe,Zbv];rfl
 ·simp only[e,d,h,fe,ZaE,Za0];rfl
def QaS:Ok Ef:=okZ [] f143 (λ_=>ew ()) trivial QoY
structure AtK (m:ed) (a:Nat) (t:ah):Prop where
 len:m.bt.length<=480
 nds:∀x∈m.bt,ik x
 wf:j3 t
 fit:m.ab.length+bp t<=400
 nd:∃r,m.bt.drop a=aD t++r
 sz:∃r,m.cy.drop a=jr t++r
 en:∃r,m.aQ.drop a=pS t a++r
variable {a x:Nat} {m:ed} {Z:ah}
theorem kD.out {i:Int} (h:kD (m,i)):∃a:Nat,i=a/\AtK m a (ed.t (m,i)):=by
 have⟨h0,h1,b,t,c,d,⟨r,f⟩,g,j⟩:=h;obtain⟨a,rfl⟩:=Zau h0;have e:ed.t (m,(a:Int))=t:=by grind [ed.t,jQ]
 exact⟨a,rfl,by rw[e];exact⟨h1,b,c,d,⟨r,f⟩,g,j⟩⟩
theorem AtK.t (h:AtK m a Z):ed.t (m,(a:Int))=Z:=by
 have⟨r,b⟩:=h.nd;exact jQ h.wf b
def AtK.nda (h:AtK m a Z):kD (m,(a:Int)):=
 ⟨ω,h.len,h.nds,Z,h.wf,h.fit,by simp only[Zad];exact h.nd,by simp only[Zad];exact h.sz,by simp only[Zad];exact h.en⟩
def AtK.cod (h:AtK m a Z):gU (m,(a:Int))=m.ab++bP Z m.ab.length:=by
 unfold gU;rw[aI,h.t]
def fu (t:ah) (a x:Nat):Nat:=a+1+(aA (t.af.take x)).length
theorem Aj (l:List ah) (x:Nat) (a:x<l.length):aP l=aP (l.take x)+bp (l.getD x bA)+aP (l.drop (x+1)):=by
 grind [List.drop_eq_getElem_cons,List.take_append_drop,s_,aP]
theorem xw {α:Type} {l:List α} {b:Nat} {u v w r:List α} (h:l.drop a=(u++(v++w))++r) (c:b=a+u.length):l.drop b=v++(w++r):=by
 subst c;rw[<-ZbZ,h];simp
theorem AtK.TK (h:AtK m a Z) (b:x<Z.af.length) (c:List aS) (d:c.length+bp (Z.af.getD x bA)<=400):AtK ⟨c,m.bt,m.cy,m.aQ⟩ (fu Z a x) (Z.af.getD x bA):=by
 have⟨r,h1⟩:=h.nd;have⟨g,j⟩:=h.sz;have⟨i,k⟩:=h.en;have e:Z.af=Z.af.take x++(Z.af.getD x bA::Z.af.drop (x+1)):=by
  simp_all
 have hk:=vb h1 b;refine⟨h.len,h.nds,((iq _).mp h.wf).2.2.mem b,d,⟨_,hk⟩,⟨fC (Z.af.drop (x+1))++g,?_⟩,ky (Z.af.drop (x+1)) (fu Z a x+(aD (Z.af.getD x bA)).length)++i,?_⟩
 ·have f:jr Z=(ey (bp Z)::fC (Z.af.take x))++(jr (Z.af.getD x bA)++fC (Z.af.drop (x+1))):=by
   grind [qI,r4,fC]
  grind [xw,fu,kz]
 ·have f:pS Z a=(((a+(aD Z).length:Nat):Int)::ky (Z.af.take x) (a+1))++(pS (Z.af.getD x bA) (fu Z a x)++ky (Z.af.drop (x+1)) (fu Z a x+(aD (Z.af.getD x bA)).length)):=by
   rw[Hq]
   conv=>lhs;rw[e]
   rw[xu,ky];rfl
  grind [xw,fu,oX]
theorem Ak (b:x<Z.af.length):fu Z a (x+1)=fu Z a x+(aD (Z.af.getD x bA)).length:=by
 grind [fu,cg,cz,aA]
theorem Ke {α:Type} {l r:List α} {x d:α} (h:l.drop a=x::r):a<l.length/\l.getD a d=x:=by
 grind [List.drop_of_length_le,List.drop_eq_getElem_cons]
theorem AtK.enx (h:AtK m a Z):a<m.aQ.length/\m.aQ.getD a 0=((a+(aD Z).length:Nat):Int):=by
 have⟨r,b⟩:=h.en;grind [Hq,Ke]
theorem AtK.ndx (h:AtK m a Z):a<m.bt.length/\gt (Nd.mk 0 [] 0 0 false 0 0) m.bt a=⟨Z.op,Z.r,Z.mn,Z.mx,Z.lz,Z.cap,Z.af.length⟩:=by
 have⟨r,b⟩:=h.nd;grind [pI]
end
end sx
end Go.Proofs.YtklaonhcplaofaaGreat
