/- StreamRises: a part of the proof. -/
import Derived.Test.YtadfknojfbmjgaaGreatC22
set_option linter.all false
namespace Go.Proofs.YtadfknojfbmjgaaGreat
set_option maxRecDepth 100000
set_option maxHeartbeats 4000000
namespace sx
noncomputable section
open Go Go.RowKit cls syn
def in0:Ins:=⟨0,0,0,[]⟩
def gB (f:Nat->List Ins) (sz:Nat):Nat->Nat->List Ins
 | 0,_=>[]
 | n+1,b=>f b++gB f sz n (b+sz)
def eP (g:Nat->Ins) (f:Nat->List Ins) (sz:Nat):Nat->Nat->List Ins
 | 0,_=>[]
 | n+1,b=>g b::(f (b+1)++eP g f sz n (b+1+sz))
def gU (lz:Bool) (b out:Nat):Ins:=if lz=true then⟨2,out,(b+1:Nat),[]⟩ else⟨2,(b+1:Nat),out,[]⟩
def kY (mn mx:Int):Nat:=mx.toNat-mn.toNat
def IB (f:Nat->List Ins) (sz:Nat) (mn mx:Int) (lz:Bool) (b:Nat):List Ins:=
 gB f sz mn.toNat b++(if mx= -1 then gU lz (b+mn.toNat*sz) (b+mn.toNat*sz+sz+2)::(f (b+mn.toNat*sz+1)++[⟨3,(b+mn.toNat*sz:Nat),0,[]⟩])
  else eP (λi=>gU lz i (b+mn.toNat*sz+kY mn mx*(sz+1))) f sz (kY mn mx) (b+mn.toNat*sz))
mutual
def bH:Tree->Nat->List Ins
 | .mk op r mn mx lz cap _ ks,b=>
  if op=2 then[⟨1,0,0,r⟩] else if op=7 then[⟨5,0,0,[]⟩] else if op=8 then[⟨6,0,0,[]⟩]
  else if op=3 then a7 ks b
  else if op=4 then kk ks b (b+aG ks+2*(ks.length-1))
  else if op=5 then IB (λb=>a7 ks b) (aG ks) mn mx lz b
  else if op=6 then⟨4,2*cap,0,[]⟩::(a7 ks (b+1)++[⟨4,2*cap+1,0,[]⟩])
  else[]
def a7:List Tree->Nat->List Ins
 | [],_=>[]
 | t::l,b=>bH t b++a7 l (b+bd t)
def kk:List Tree->Nat->Nat->List Ins
 | [],_,_=>[]
 | t::l,b,e=>if l.isEmpty=true then bH t b else⟨2,(b+1:Nat),(b+2+bd t:Nat),[]⟩::(bH t (b+1)++⟨3,e,0,[]⟩::kk l (b+2+bd t) e)
end
def fw:List Tree->Nat->Nat->List Ins
 | [],_,_=>[]
 | t::l,b,e=>⟨2,(b+1:Nat),(b+2+bd t:Nat),[]⟩::(bH t (b+1)++⟨3,e,0,[]⟩::fw l (b+2+bd t) e)
def jm:List Tree->Nat->List Int
 | [],_=>[]
 | t::l,b=>(b+1+bd t:Nat)::jm l (b+2+bd t)
def jo (sz:Nat):Nat->Nat->List Int
 | 0,_=>[]
 | n+1,b=>(b:Int)::jo sz n (b+1+sz)
def kZ (e:Int) (l:List Ins) (j:Int):List Ins:=l.set j.toNat ⟨(l.getD j.toNat in0).op,e,(l.getD j.toNat in0).y,(l.getD j.toNat in0).a_⟩
def fx (e:Int) (lz:Bool) (l:List Ins) (j:Int):List Ins:=l.set j.toNat ⟨(l.getD j.toNat in0).op,if lz=true then e else j+1,if lz=true then j+1 else e,(l.getD j.toNat in0).a_⟩
structure ep where
 code:List Ins
 nodes:List Nd
 cq:List Int
 ends:List Int
abbrev uW:=ep×Int
variable {Z:Nat} {Y:Nat->List Ins} {x:Nd} {g:Nat->Ins}
def K9 (n:Nat) (y:ep) (code:List Ins):List (Nat×AO D.E):=[(0,.cells [.own n 4 (ab code),.list 7 y.nodes,.list 5 y.cq,.list 5 y.ends] 122 false),(n,.arr 8 code 128 false)]
def Qe8 (v:AV D.E) (s:St D.E):C ep:=match v with
 | .ptr b _=>av (cE (s.h.get b)) λo=>match o with
  | .cells cs _ _=>match cs with
   | [c,l,x,e]=>av (rowsOf D s 8 c) λc=>av (rowsOf D s 7 l) λl=>av (rowsOf D s 5 x) λx=>av (rowsOf D s 5 e) λe=>.ret ⟨c,l,x,e⟩
   | _=>.fail
  | _=>.fail
 | _=>.fail
def QcE (v:AV D.E):C Ins:=av (asAgg v) λcs=>uK D 8 cs
def uX:bf D:=⟨47,ep×Ins,λa s=>match a with
 | [p,i]=>av (Qe8 p s) λy=>av (QcE i) λi=>.ret (y,i)
 | _=>.fail,λy=>y.1.code.length<=1000,λy=>[.ptr 0 0,.agg (D.aX 8 y.2)],λy=>K9 1 y.1 y.1.code,λy=>Qu9 y.1.code.length,λy=>K9 2 y.1 (y.1.code++[y.2]),2,3⟩
def QrV (_:uX.Y):cH D:=⟨[],[],[],[],1,[]⟩
def E7:bf D:=⟨111,ep×Int×Int×Bool,λa s=>match a with
 | [p,i,o,b]=>av (Qe8 p s) λy=>aI (cT i) λ_ i=>aI (cT o) λ_ o=>aI (yR b) λb _=>.ret (y,i,o,b)
 | _=>.fail,λy=>y.1.code.length<=1000/\0<=y.2.1/\y.2.1<y.1.code.length,λy=>[.ptr 0 0,Qu9 y.2.1,Qu9 y.2.2.1,.bool y.2.2.2],λy=>K9 1 y.1 y.1.code,λ_=>.tuple [],λy=>K9 1 y.1 (fx y.2.2.1 y.2.2.2 y.1.code y.2.1),2,2⟩
def ep.t (y:uW):Tree:=lk (bS (y.1.nodes.drop y.2.toNat)).1
def k_ (y:uW):Prop:=0<=y.2/\y.1.nodes.length<=480/\(∀x∈y.1.nodes,iK x)/\∃t,kz t/\y.1.code.length+bd t<=400/\(∃r,y.1.nodes.drop y.2.toNat=ay t++r)/\(∃r,y.1.cq.drop y.2.toNat=jO t++r)/\∃r,y.1.ends.drop y.2.toNat=qw t y.2.toNat++r
def QrY (a:List (AV D.E)) (s:St D.E):C uW:=match a with
 | [p,i]=>av (Qe8 p s) λy=>aI (cT i) λ_ i=>.ret (y,i)
 | _=>.fail
def kb (y:uW):List Ins:=lk (y.1.code++bH (ep.t y) y.1.code.length)
def Qe9 (f:FuncId) (pre:uW->Prop):bf D:=⟨f,uW,QrY,pre,λy=>[.ptr 0 0,Qu9 y.2],λy=>K9 1 y.1 y.1.code,λ_=>.tuple [],λy=>K9 2 y.1 (kb y),2,3⟩
def IC:bf D:=Qe9 48 k_
def Qfa (y:uW):Prop:=k_ y/\(ep.t y).op=4
def Qfb (y:uW):Prop:=k_ y/\(ep.t y).op=5
def NN:bf D:=Qe9 79 Qfa
def NO:bf D:=Qe9 80 Qfb
def fnM (y:uW) (n:Nat):vE:=[IC.under (λy=>2*cZ (ep.t y)+1) n,NN.under (λy=>2*cZ (ep.t y)) n,NO.under (λy=>2*cZ (ep.t y)) n]
def uY (y:uW) (k:Nat):Int:=lk (y.2+1+(au ((ep.t y).kids.take k)).length)
def E9 (y:uW) (k:Nat):List Ins:=lk (y.1.code++a7 ((ep.t y).kids.take k) y.1.code.length)
def Qkb (y:IC.Y):cH D:=⟨[],[],[(30710,⟨Nat,[0,38],λk=>[(4,.ptr 2 0),(5,Qu9 (uY y k)),(39,Qu9 k)],[2],λk=>K9 3 y.1 (E9 y k),4,λk=>k<=(ep.t y).kids.length,λk=>(ep.t y).kids.length-k⟩)],[],1,[]⟩
def Qr0 (y:IC.Y):Prop:=vc (fnM y (2*cZ (ep.t y)+1)++[uX]) Tryz.f48 IC Qkb y
def E' (y:uW) (k:Nat):List Ins:=lk (y.1.code++fw ((ep.t y).kids.take k) y.1.code.length 0)
def E_ (y:uW) (k:Nat):List Int:=lk (jm ((ep.t y).kids.take k) y.1.code.length)
def Cj (y:uW):List Ins:=lk (y.1.code++kk (ep.t y).kids y.1.code.length 0)
def Ck (y:uW):List Int:=lk (jm (ep.t y).kids.dropLast y.1.code.length)
def Fa (y:uW) (j:Nat):List Ins:=lk (((Ck y).take j).foldl (kZ (kb y).length) (Cj y))
def uZ (n:Nat):Nat×AO D.E:=(n,.tok 5 3)
def Qkc (y:NN.Y):cH D:=⟨[],[],[
 (58,⟨Nat,[0,1,19],λk=>[(4,.grow 5 (E_ y k) 3),(5,Qu9 (uY y k)),(20,Qu9 k)],[],λk=>K9 2 y.1 (E' y k)++[uZ 3],4,λk=>k+1<=(ep.t y).kids.length,λk=>(ep.t y).kids.length-k⟩),
 (62,⟨Nat,[0,66],λj=>[(65,.grow 5 (Ck y) 3),(67,Qu9 j)],[],λj=>K9 2 y.1 (Fa y j)++[uZ 3],4,λj=>j<=(Ck y).length,λj=>(Ck y).length-j⟩)],
 [(7,⟨Unit,[0],λ_=>[(4,.grow 5 (Ck y) 3)],[],λ_=>K9 2 y.1 (Cj y)++[uZ 3],4,λ_=>True,λ_=>0⟩)],1,[]⟩
def Qr1 (y:NN.Y):Prop:=vc (fnM y (2*cZ (ep.t y))++[uX,E7]) Tryz.f79 NN Qkc y
def ndO (n:Nat) (x:Tree):Nat×AO D.E:=(n,.cells [.int .i64 x.op,.list 6 x.r,.int .i64 x.mn,.int .i64 x.mx,.bool x.lz,.int .i64 x.cap,.int .i64 x.nk] 131 false)
def sI (y:uW) (k:Nat):List Ins:=lk (y.1.code++gB (a7 (ep.t y).kids) (aG (ep.t y).kids) k y.1.code.length)
def NP (y:uW):Nat:=lk (sI y (ep.t y).mn.toNat).length
def zh (y:uW) (k:Nat):List Ins:=lk (sI y (ep.t y).mn.toNat++eP (λ_=>⟨2,0,0,[]⟩) (a7 (ep.t y).kids) (aG (ep.t y).kids) k (NP y))
def u0 (y:uW) (k:Nat):List Int:=lk (jo (aG (ep.t y).kids) k (NP y))
def lE (y:uW):Nat:=lk (kY (ep.t y).mn (ep.t y).mx)
def Fb (y:uW) (j:Nat):List Ins:=lk (((u0 y (lE y)).take j).foldl (fx (kb y).length (ep.t y).lz) (zh y (lE y)))
def Qkd (y:NO.Y):cH D:=⟨[],[],[
 (106,⟨Nat,[0,5,28],λk=>[(4,.ptr 2 0),(29,Qu9 k)],[],λk=>K9 3 y.1 (sI y k)++[ndO 2 (ep.t y)],4,λk=>k<=(ep.t y).mn.toNat,λk=>(ep.t y).mn.toNat-k⟩),
 (250,⟨Nat,[0,5,62],λk=>[(4,.ptr 2 0),(7,.grow 5 (u0 y k) 4),(63,Qu9 k)],[],λk=>K9 3 y.1 (zh y k)++[ndO 2 (ep.t y),uZ 4],5,λk=>k<=lE y,λk=>lE y-k⟩),
 (254,⟨Nat,[0,76],λj=>[(4,.ptr 2 0),(75,.grow 5 (u0 y (lE y)) 4),(77,Qu9 j)],[],λj=>K9 3 y.1 (Fb y j)++[ndO 2 (ep.t y),uZ 4],5,λj=>j<=lE y,λj=>lE y-j⟩)],
 [(3,⟨Unit,[0,5],λ_=>[(4,.ptr 2 0)],[],λ_=>K9 3 y.1 (sI y (ep.t y).mn.toNat)++[ndO 2 (ep.t y)],4,λ_=>True,λ_=>0⟩)],1,[]⟩
def Qr2 (y:NO.Y):Prop:=vc (fnM y (2*cZ (ep.t y))++[uX,E7]) Tryz.f80 NO Qkd y
def T8 (y:ep×Ins):Prop:=let a:=([y.2]:List Ins);let b:=ab (aZ y.1.code a);fits b 48/\aa [ab y.1.code,y.2.op,y.2.x,y.2.y] (aa [y.2.a_] (da .i64 b 1=(y.1.code.length:Int)/\b=ab (y.1.code++a)/\aa [y.1.nodes] (aa [y.1.cq,y.1.ends] (aZ y.1.code a=(y.1.code++a)/\True))))
def T9 (y:ep×Int×Int×Bool):Prop:=let a:=ab y.1.code;let b:=y.2.1.toNat;let j:=an .i64 y.2.1 1;let f:=gt (Ins.mk 0 0 0 []) y.1.code b;let e:=fx y.2.2.1 y.2.2.2 y.1.code y.2.1;let k:=cA y.1.code b (Ins.mk f.op j f.y f.a_);let g:=gt (Ins.mk 0 0 0 []) k b;let h:=cA k b (Ins.mk g.op g.x y.2.2.1 g.a_);let i:=gt (Ins.mk 0 0 0 []) h b;let l:=cA h b (Ins.mk i.op y.2.2.1 i.y i.a_);let c:=gt (Ins.mk 0 0 0 []) l b;let d:=λp:Prop=>aa [y.1.nodes] (aa [y.1.cq,y.1.ends] p);aC 0 y.2.1/\ax y.2.1 a/\aC 0 y.2.1/\ax y.2.1 a/\aa [a,a] (ag y.2.2.2 (aC 0 y.2.1/\ax y.2.1 a/\aC 0 y.2.1/\ax y.2.1 a/\aa [a,a] (a=ab e/\d (cA l b (Ins.mk c.op c.x j c.a_)=e/\True))) (a=ab e/\d (h=e/\True)))
def T_ (y:ep×Int):Prop:=let f:=kb y;let g:=ab f;let i:=ab y.1.code;let q:=an .i64 y.2 1;let s:=(y.1,y.2);let j:=lk (bS (List.drop y.2.toNat y.1.nodes)).1;let a:=gt (Nd.mk 0 [] 0 0 false 0 0) y.1.nodes y.2.toNat;let m:=j.kids.length;let n:=iR .i64 2 a.cap;let v:=an .i64 n 1;let t:=ab (y.1.code++[Ins.mk 4 n 0 []]);let k:=(ep.mk (y.1.code++[Ins.mk 4 n 0 []]) y.1.nodes y.1.cq y.1.ends,q);let d:=kb k;let b:=λp:Prop=>aa [y.1.nodes] (aa [y.1.cq,y.1.ends] p);let o:=λp:Prop=>aa [a.op] (aa [a.r] (aa [a.mn,a.mx] (aa [a.lz] (aa [a.cap,a.kids] p))));let l:Prop:=(aa [y.2,i] (aa [y.1.nodes] (aa [y.1.cq,y.1.ends] (aa [y.1.code] (ab (kb s)=g/\b (kb s=f/\True))))));aC 0 y.2/\ax y.2 (ab y.1.nodes)/\ag (az a.op 2) (fits (ab a.r) 8/\Iv (y.1.code.length<=1000)/\aa ([1,0,0]:List Int) (aa [a.r] (aa [i] (aa [y.1.nodes] (aa [y.1.cq,y.1.ends] (aa [y.1.code] (ab (y.1.code++[Ins.mk 1 0 0 a.r])=g/\b ((y.1.code++[Ins.mk 1 0 0 a.r])=f/\True)))))))) (ag (az a.op 7) (Iv (y.1.code.length<=1000)/\aa ([5,0,0]:List Int) (aa ([[]]:List (List (Int×Int))) (aa [i] (aa [y.1.nodes] (aa [y.1.cq,y.1.ends] (aa [y.1.code] (ab (y.1.code++[Ins.mk 5 0 0 []])=g/\b ((y.1.code++[Ins.mk 5 0 0 []])=f/\True)))))))) (ag (az a.op 8) (Iv (y.1.code.length<=1000)/\aa ([6,0,0]:List Int) (aa ([[]]:List (List (Int×Int))) (aa [i] (aa [y.1.nodes] (aa [y.1.cq,y.1.ends] (aa [y.1.code] (ab (y.1.code++[Ins.mk 6 0 0 []])=g/\b ((y.1.code++[Ins.mk 6 0 0 []])=f/\True)))))))) (ag (az a.op 3) ((∃z:Nat,aa [a.kids] (q=uY y z/\0=(z:Int)/\o (i=ab (E9 y z)/\b (y.1.code=E9 y z/\(Iv (z<=m))))))/\(∀x:Nat,let c:=uY y x;let e:=E9 y x;let h:=(ep.mk e y.1.nodes y.1.cq y.1.ends,c);let u:=ax (x:Int) a.kids;(Iv (x<=m))->ag u (Iv (k_ h/\((2*cZ (lk (bS (List.drop c.toNat y.1.nodes)).1))+1)<((2*cZ j)+1))/\aa [c,ab e] (aa [y.1.nodes] (aa [y.1.cq,y.1.ends] (aa [e] (aC 0 c/\ax c (ab y.1.ends)/\∃z:Nat,aa [a.kids] (gt 0 y.1.ends c.toNat=uY y z/\an .i64 (x:Int) 1=(z:Int)/\o (ab (kb h)=ab (E9 y z)/\b (kb h=E9 y z/\(Iv (z<=m/\(m-z)<(m-x))))))))))) (ab e=g/\b (e=f/\True)))) (ag (az a.op 4) (Iv (Qfa s/\(2*cZ j)<((2*cZ j)+1))/\l) (ag (az a.op 5) (Iv (Qfb s/\(2*cZ j)<((2*cZ j)+1))/\l) (ag (az a.op 6) (Iv (y.1.code.length<=1000)/\aa ([4,n,0]:List Int) (aa ([[]]:List (List (Int×Int))) (aa [i] (aa [y.1.nodes] (aa [y.1.cq,y.1.ends] (aa [y.1.code] (Iv (k_ k/\((2*cZ (lk (bS (List.drop q.toNat y.1.nodes)).1))+1)<((2*cZ j)+1))/\aa [q,t] (aa [y.1.nodes] (aa [y.1.cq,y.1.ends] (aa [y.1.code++[Ins.mk 4 n 0 []]] (Iv (d.length<=1000)/\aa ([4,v,0]:List Int) (aa ([[]]:List (List (Int×Int))) (aa [ab d] (aa [y.1.nodes] (aa [y.1.cq,y.1.ends] (aa [d] (ab (d++[Ins.mk 4 v 0 []])=g/\b ((d++[Ins.mk 4 v 0 []])=f/\True)))))))))))))))))) (i=g/\b (y.1.code=f/\True))))))))
def η:∀y,T_ y=Qr0 y:=λy=>by kernel_rfl
def Ua (y:ep×Int):Prop:=let d:=Ck y;let t:=ab (Cj y);let A:=lk (bS (List.drop y.2.toNat y.1.nodes)).1;let r:=A.kids.length;let C:=λp:Prop=>aa [y.2,(gt (Nd.mk 0 [] 0 0 false 0 0) y.1.nodes y.2.toNat).kids] p;let k:=λp:Prop=>aa [y.1.nodes] (aa [y.1.cq,y.1.ends] p);(aC 0 y.2/\ax y.2 (ab y.1.nodes)/\(∃z:Nat,C ([]=E_ y z/\an .i64 y.2 1=uY y z/\0=(z:Int)/\ab y.1.code=ab (E' y z)/\k (y.1.code=E' y z/\(Iv ((z+1)<=r)))))/\(∀x:Nat,let h:=uY y x;let c:=E' y x;let s:=(c.length:Int);let B:=(ep.mk c y.1.nodes y.1.cq y.1.ends,h);let u:=ab (c++[Ins.mk 2 0 0 []]);let v:=ax (x:Int) (gt (Nd.mk 0 [] 0 0 false 0 0) y.1.nodes y.2.toNat).kids;let w:=az (x:Int) (da .i64 (gt (Nd.mk 0 [] 0 0 false 0 0) y.1.nodes y.2.toNat).kids 1);let l:=(ep.mk (c++[Ins.mk 2 0 0 []]) y.1.nodes y.1.cq y.1.ends,h);let a:=kb l;let m:=aZ (E_ y x) [(a.length:Int)];let i:=ab (a++[Ins.mk 3 0 0 []]);let n:=(a++[Ins.mk 3 0 0 []]).length;let o:=fx i false (a++[Ins.mk 3 0 0 []]) s;(Iv ((x+1)<=r))->ag v (aC 0 y.2/\ax y.2 (ab y.1.nodes)/\ag w (Iv (k_ B/\((2*cZ (lk (bS (List.drop h.toNat y.1.nodes)).1))+1)<(2*cZ A))/\aa [h,ab c] (aa [y.1.nodes] (aa [y.1.cq,y.1.ends] (aa [c] (∃z:Unit,E_ y x=d/\ab (kb B)=t/\k (kb B=Cj y/\(Iv True))))))) (Iv (c.length<=1000)/\aa ([2,0,0]:List Int) (aa ([[]]:List (List (Int×Int))) (aa [ab c] (aa [y.1.nodes] (aa [y.1.cq,y.1.ends] (aa [c] (Iv (k_ l/\((2*cZ (lk (bS (List.drop h.toNat y.1.nodes)).1))+1)<(2*cZ A))/\aa [h,u] (aa [y.1.nodes] (aa [y.1.cq,y.1.ends] (aa [c++[Ins.mk 2 0 0 []]] (Iv (a.length<=1000)/\aa ([3,0,0]:List Int) (aa ([[]]:List (List (Int×Int))) (aa [ab a] (aa [y.1.nodes] (aa [y.1.cq,y.1.ends] (aa [a] (fits (ab m) 8/\Iv (n<=1000/\0<=s/\s<(n:Int))/\aa [s,i] (false=false/\aa [i] (aa [y.1.nodes] (aa [y.1.cq,y.1.ends] (aa [a++[Ins.mk 3 0 0 []]] (aC 0 h/\ax h (ab y.1.ends)/\∃z:Nat,C (m=E_ y z/\gt 0 y.1.ends h.toNat=uY y z/\an .i64 (x:Int) 1=(z:Int)/\ab o=ab (E' y z)/\k (o=E' y z/\(Iv ((z+1)<=r/\(r-z)<(r-x)))))))))))))))))))))))))))) (∃z:Unit,E_ y x=d/\ab c=t/\k (c=Cj y/\(Iv True)))))/\(∀x:Unit,(Iv True)->(∃z:Nat,aa [ab d] (aa [d] (0=(z:Int)/\t=ab (Fa y z)/\k (Cj y=Fa y z/\(Iv (z<=d.length))))))/\(∀x1:Nat,let e:=Fa y x1;let f:=d.length;let b:=ab e;let q:=ax (x1:Int) (ab d);let g:=gt 0 d (x1:Int).toNat;let j:=gt (Ins.mk 0 0 0 []) e g.toNat;(Iv (x1<=f))->ag q (aC 0 (x1:Int)/\q/\aC 0 g/\ax g b/\aa [b,b] (∃z:Nat,aa [ab d] (aa [d] (an .i64 (x1:Int) 1=(z:Int)/\b=ab (Fa y z)/\k (cA e g.toNat (Ins.mk j.op b j.y j.a_)=Fa y z/\(Iv (z<=f/\(f-z)<(f-x1)))))))) (b=ab (kb y)/\k (e=kb y/\True))))
def θ:∀y,Ua y=Qr1 y:=λy=>by kernel_rfl
def Ub (y:ep×Int):Prop:=let E:=u0 y (lE y);let d:=an .i64 y.2 1;let a:=lk (bS (List.drop y.2.toNat y.1.nodes)).1;let K:=ax 0 (gt 0 y.1.cq d.toNat);let e:=gt (Nd.mk 0 [] 0 0 false 0 0) y.1.nodes y.2.toNat;let v:=a.mn.toNat;let k:=sI y v;let F:=ab k;let n:=(k.length:Int);let L:=ab (k++[Ins.mk 2 0 0 []]);let q:=da .i64 a.mx a.mn;let w:=(ep.mk (k++[Ins.mk 2 0 0 []]) y.1.nodes y.1.cq y.1.ends,d);let f:=kb w;let l:=ab (f++[Ins.mk 3 n 0 []]);let A:=(f++[Ins.mk 3 n 0 []]).length;let B:=fx l a.lz (f++[Ins.mk 3 n 0 []]) n;let b:=λp:Prop=>aa [y.1.nodes] (aa [y.1.cq,y.1.ends] p);let j:=λp:Prop=>aa [a.op] (aa [a.r] (aa [a.mn,a.mx] (aa [a.lz] (aa [a.cap,a.nk] p))));aC 0 y.2/\ax y.2 (ab y.1.nodes)/\(aC 0 d/\ax d (ab y.1.cq)/\ag K ((∃z:Nat,aa [d,e.mn] (0=(z:Int)/\e.op=a.op/\e.r=a.r/\e.mn=a.mn/\e.mx=a.mx/\e.lz=a.lz/\e.cap=a.cap/\e.kids=a.nk/\ab y.1.code=ab (sI y z)/\b (y.1.code=sI y z/\(Iv (z<=v)))))/\(∀x:Nat,let h:=sI y x;let s:=(ep.mk h y.1.nodes y.1.cq y.1.ends,d);let G:=ax (x:Int) e.mn;(Iv (x<=v))->ag G (Iv (k_ s/\((2*cZ (lk (bS (List.drop d.toNat y.1.nodes)).1))+1)<(2*cZ a))/\aa [d,ab h] (aa [y.1.nodes] (aa [y.1.cq,y.1.ends] (aa [h] (∃z:Nat,aa [d,e.mn] (an .i64 (x:Int) 1=(z:Int)/\j (ab (kb s)=ab (sI y z)/\b (kb s=sI y z/\(Iv (z<=v/\(v-z)<(v-x))))))))))) (∃z:Unit,aa [d,a.op] (aa [a.r] (aa [a.mn,a.mx] (aa [a.lz] (aa [a.cap,a.nk] (ab h=F/\b (h=k/\(Iv True)))))))))) (∃z:Unit,aa [d] (e.op=a.op/\e.r=a.r/\e.mn=a.mn/\e.mx=a.mx/\e.lz=a.lz/\e.cap=a.cap/\e.kids=a.nk/\ab y.1.code=F/\b (y.1.code=k/\(Iv True)))))/\(∀x:Unit,(Iv True)->ag (az a.mx (-1)) (Iv (k.length<=1000)/\aa ([2,0,0]:List Int) (aa ([[]]:List (List (Int×Int))) (aa [F] (aa [y.1.nodes] (aa [y.1.cq,y.1.ends] (aa [k] (Iv (k_ w/\((2*cZ (lk (bS (List.drop d.toNat y.1.nodes)).1))+1)<(2*cZ a))/\aa [d,L] (aa [y.1.nodes] (aa [y.1.cq,y.1.ends] (aa [k++[Ins.mk 2 0 0 []]] (Iv (f.length<=1000)/\aa ([3,n,0]:List Int) (aa ([[]]:List (List (Int×Int))) (aa [ab f] (aa [y.1.nodes] (aa [y.1.cq,y.1.ends] (aa [f] (Iv (A<=1000/\0<=n/\n<(A:Int))/\aa [n,l] (aa [a.lz] (aa [l] (aa [y.1.nodes] (aa [y.1.cq,y.1.ends] (aa [f++[Ins.mk 3 n 0 []]] (aa [l] (aa [a.lz] (ab B=ab (kb y)/\b (B=kb y/\True)))))))))))))))))))))))))) ((∃z:Nat,aa [d,q] ([]=u0 y z/\0=(z:Int)/\j (F=ab (zh y z)/\b (k=zh y z/\(Iv (z<=lE y))))))/\(∀x1:Nat,let c:=zh y x1;let t:=ab (u0 y x1);let C:=aZ (u0 y x1) [(c.length:Int)];let H:=ab (c++[Ins.mk 2 0 0 []]);let u:=(ep.mk (c++[Ins.mk 2 0 0 []]) y.1.nodes y.1.cq y.1.ends,d);let I:=ax (x1:Int) q;(Iv (x1<=lE y))->ag I (Iv (c.length<=1000)/\aa ([2,0,0]:List Int) (aa ([[]]:List (List (Int×Int))) (aa [ab c] (aa [y.1.nodes] (aa [y.1.cq,y.1.ends] (aa [c] (fits (ab C) 8/\Iv (k_ u/\((2*cZ (lk (bS (List.drop d.toNat y.1.nodes)).1))+1)<(2*cZ a))/\aa [d,H] (aa [y.1.nodes] (aa [y.1.cq,y.1.ends] (aa [c++[Ins.mk 2 0 0 []]] (∃z:Nat,aa [d,q] (C=u0 y z/\an .i64 (x1:Int) 1=(z:Int)/\j (ab (kb u)=ab (zh y z)/\b (kb u=zh y z/\(Iv (z<=lE y/\(lE y-z)<(lE y-x1))))))))))))))))) ((∃z:Nat,aa [t] (u0 y x1=E/\0=(z:Int)/\j (ab c=ab (Fb y z)/\b (c=Fb y z/\(Iv (z<=lE y))))))/\(∀o:Nat,let g:=Fb y o;let i:=ab g;let J:=ax (o:Int) t;let m:=gt 0 E (o:Int).toNat;let D:=fx i a.lz g m;(Iv (o<=lE y))->ag J (aC 0 (o:Int)/\ax (o:Int) (ab E)/\Iv (g.length<=1000/\0<=m/\m<(g.length:Int))/\aa [m,i] (aa [a.lz] (aa [i] (aa [y.1.nodes] (aa [y.1.cq,y.1.ends] (aa [g] (aa [i] (aa [a.lz] (∃z:Nat,aa [t] (aa [E] (an .i64 (o:Int) 1=(z:Int)/\j (ab D=ab (Fb y z)/\b (D=Fb y z/\(Iv (z<=lE y/\(lE y-z)<(lE y-o)))))))))))))))) (i=ab (kb y)/\b (g=kb y/\True)))))))
def ι:∀y,Ub y=Qr2 y:=λy=>by kernel_rfl
def la (t:Tree) (b:Nat):bH t b=if t.op=2 then[⟨1,0,0,t.r⟩] else if t.op=7 then[⟨5,0,0,[]⟩] else if t.op=8 then[⟨6,0,0,[]⟩]
  else if t.op=3 then a7 t.kids b
  else if t.op=4 then kk t.kids b (b+aG t.kids+2*(t.kids.length-1))
  else if t.op=5 then IB (λb=>a7 t.kids b) (aG t.kids) t.mn t.mx t.lz b
  else if t.op=6 then⟨4,2*t.cap,0,[]⟩::(a7 t.kids (b+1)++[⟨4,2*t.cap+1,0,[]⟩])
  else[]:=by cases t;rw[bH];rfl
theorem pv (a:∀b,(Y b).length=Z):∀(n b:Nat),(gB Y Z n b).length=n*Z
 | 0,b=>by simp[gB]
 | n+1,b=>by rw[gB,Zab,a,pv a n,ZaV,Zc1]
theorem pw (a:∀b,(Y b).length=Z):∀(n b:Nat),(eP g Y Z n b).length=n*(Z+1)
 | 0,b=>by simp[eP]
 | n+1,b=>by rw[eP,Zae,Zab,a,pw a n,ZaV];omega
theorem AR:∀(n b:Nat),gB Y Z (n+1) b=gB Y Z n b++Y (b+n*Z)
 | 0,b=>by simp[gB]
 | n+1,b=>by
  rw[gB,AR n,gB,ZaD,ZaV];congr 3;omega
theorem AS:∀(n b:Nat),eP g Y Z (n+1) b=eP g Y Z n b++(g (b+n*(Z+1))::Y (b+n*(Z+1)+1))
 | 0,b=>by simp[eP]
 | n+1,b=>by
  rw[eP,AS n,eP,Za1,ZaD,ZaV,show b+1+Z+n*(Z+1)=b+(n*(Z+1)+(Z+1)) by omega]
theorem AT:∀(n b:Nat),jo Z (n+1) b=jo Z n b++[((b+n*(Z+1):Nat):Int)]
 | 0,b=>by simp[jo]
 | n+1,b=>by
  rw[jo,AT n,jo,Za1,ZaV,show b+1+Z+n*(Z+1)=b+(n*(Z+1)+(Z+1)) by omega]
theorem Fc:∀(n b:Nat),(jo Z n b).length=n
 | 0,b=>rfl
 | n+1,b=>by rw[jo,Zae,Fc n]
theorem NK.op (h:NK x) (h1:x.op≠1):x.op=2\/x.op=7\/x.op=8\/x.op=3\/x.op=4\/x.op=5\/x.op=6:=by
 obtain⟨g,h⟩:=h;grind [bw]
theorem NK.none (h:NK x) (h1:x.op=1):x.kids=0:=by
 obtain⟨g,h⟩:=h;grind [bw]
theorem NK.alt (h:NK x) (h1:x.op=4):2<=x.kids:=by
 obtain⟨g,h⟩:=h;grind [bw]
theorem NK.uT (h:NK x) (h1:x.op=6):x.kids=1/\1<=x.cap/\x.cap<=4:=by
 obtain⟨g,h⟩:=h;grind [bw]
mutual
theorem iN:∀(t:Tree) (b:Nat),kz t->(bH t b).length=bd t
 | .mk op r mn mx lz cap nk ks,b,h=>by
  rw[kz] at h
  have hl:=λb=>m_ ks b h.2.2
  have ha:=λb e=>lb ks b e h.2.2
  rw[bH,bd]
  unfold pq
  by_cases h1:op=1
  ·have h0:(ks.length:Int)=0:=h.1.none h1
   have:ks=[]:=Zap ω
   subst this
   subst h1
   simp[aG]
  ·by_cases h2:op=2
   ·simp[h2]
   ·by_cases h7:op=7
    ·simp[h7]
    ·by_cases h8:op=8
     ·simp[h8]
     ·by_cases h3:op=3
      ·simp[h3,hl]
      ·by_cases h4:op=4
       ·simp[h4,ha]
       ·by_cases h5:op=5
        ·simp only[h5]
         simp only[show ¬((5:Int)=2) by decide,show ¬((5:Int)=7) by decide,show ¬((5:Int)=8) by decide,show ¬((5:Int)=3) by decide,show ¬((5:Int)=4) by decide,show ¬((5:Int)=6) by decide,Za0,Zbv,or_self]
         unfold IB
         rw[Zab,pv hl]
         split
         ·simp[hl];omega
         ·rw[pw hl];rfl
        ·have h6:op=6:=by
          have:=h.1.op h1
          simp only at this
          omega
         simp[h6,hl]
theorem m_:∀(l:List Tree) (b:Nat),mm l->(a7 l b).length=aG l
 | [],b,_=>by simp[a7,aG]
 | t::l,b,h=>by
  rw[mm] at h
  rw[a7,aG,Zab,iN t b h.1,m_ l _ h.2]
theorem lb:∀(l:List Tree) (b e:Nat),mm l->(kk l b e).length=aG l+2*(l.length-1)
 | [],b,e,_=>by simp[kk,aG]
 | t::l,b,e,h=>by
  rw[mm] at h
  have h1:=λb=>iN t b h.1
  have h2:=λb=>lb l b e h.2
  rw[kk,aG]
  cases l with
  | nil=>simp[h1,aG]
  | cons u l=>
   simp only[List.isEmpty_cons,ZaE,Za0,Zae,Zab,h1,h2]
   omega
end
variable {b:Nat} {l:List Tree} {p q:List Ins}
theorem mm.mem (h:mm l) (a:b<l.length):kz (l.getD b bn):=by grind [qf]
theorem mm.take (h:mm l) (n:Nat):mm (l.take n):=by grind [qf]
theorem κ (h:mm l) (b e:Nat):(fw l b e).length=aG l+2*l.length:=by
 induction l generalizing b with
 | nil=>simp[fw,aG]
 | cons t l a=>
  grind [mm,fw,iN,aG]
theorem ID (l:List Tree) (t:Tree) (b:Nat):a7 (l++[t]) b=a7 l b++bH t (b+aG l):=by
 induction l generalizing b with
 | nil=>simp[a7,aG]
 | cons a l c=>rw[Za1,a7,c,a7,aG,ZaD,Za4]
theorem NQ (l:List Tree) (t:Tree) (b e:Nat):fw (l++[t]) b e=fw l b e++(⟨2,(b+(aG l+2*l.length)+1:Nat),(b+(aG l+2*l.length)+2+bd t:Nat),[]⟩::(bH t (b+(aG l+2*l.length)+1)++[⟨3,e,0,[]⟩])):=by
 induction l generalizing b with
 | nil=>simp[fw,aG]
 | cons a l c=>
  rw[Za1,fw,c,fw,aG,Zae,Za1,ZaD,Za1,show b+2+bd a+(aG l+2*l.length)=b+(bd a+aG l+2*(l.length+1)) by omega]
theorem NR (l:List Tree) (t:Tree) (b:Nat):jm (l++[t]) b=jm l b++[((b+(aG l+2*l.length)+1+bd t:Nat):Int)]:=by
 induction l generalizing b with
 | nil=>simp[jm,aG]
 | cons a l c=>
  rw[Za1,jm,c,jm,aG,Zae,Za1,show b+2+bd a+(aG l+2*l.length)=b+(bd a+aG l+2*(l.length+1)) by omega]
theorem Fe (l:List Tree) (b:Nat):(jm l b).length=l.length:=by
 induction l generalizing b with
 | nil=>rfl
 | cons a l c=>rw[jm,Zae,c,Zae]
theorem na (l:List Tree) (t:Tree) (b e:Nat):kk (l++[t]) b e=fw l b e++bH t (b+(aG l+2*l.length)):=by
 induction l generalizing b with
 | nil=>simp[kk,fw,aG]
 | cons a l c=>
  grind [kk,fw,aG,List.length_cons]
theorem Uc {x:Ins} {e:Int} (a:p.length=b):kZ e (p++x::q) (b:Int)=p++⟨x.op,e,x.y,x.a_⟩::q:=by
 grind [kZ]
theorem sJ {x:Ins} {e:Int} {lz:Bool} (a:p.length=b):fx e lz (p++x::q) (b:Int)=p++⟨x.op,if lz=true then e else(b:Int)+1,if lz=true then(b:Int)+1 else e,x.a_⟩::q:=by
 grind [fx]
theorem iO (e:Int) (l:List Ins) (j:Int):(kZ e l j).length=l.length:=by grind [kZ]
theorem ef (e:Int) (lz:Bool) (l:List Ins) (j:Int):(fx e lz l j).length=l.length:=by grind [fx]
theorem AU (e:Int):∀(a:List Int) (l:List Ins),(a.foldl (kZ e) l).length=l.length
 | [],l=>rfl
 | j::a,l=>by rw[Zb2,AU e a,iO]
theorem AW (e:Int) (lz:Bool):∀(a:List Int) (l:List Ins),(a.foldl (fx e lz) l).length=l.length
 | [],l=>rfl
 | j::a,l=>by rw[Zb2,AW e lz a,ef]
theorem Cl {e:Nat}:∀(l:List Tree) (p q:List Ins) (b:Nat),mm l->p.length=b->(jm l b).foldl (kZ e) (p++(fw l b 0++q))=p++(fw l b e++q)
 | [],p,q,b,_,_=>by rfl
 | t::l,p,q,b,h,hb=>by
  rw[mm] at h;have h1:=iN t (b+1) h.1;rw[jm,fw,fw,Zb2];have a:p++((⟨2,(b+1:Nat),(b+2+bd t:Nat),[]⟩::(bH t (b+1)++⟨3,(0:Nat),0,[]⟩::fw l (b+2+bd t) 0))++q)=(p++(⟨2,(b+1:Nat),(b+2+bd t:Nat),[]⟩::bH t (b+1)))++(⟨3,(0:Nat),0,[]⟩::(fw l (b+2+bd t) 0++q)):=by simp
  rw[a,Uc (by grind)];have e2:∀x:Ins,(p++(⟨2,(b+1:Nat),(b+2+bd t:Nat),[]⟩::bH t (b+1)))++(x::(fw l (b+2+bd t) 0++q))=((p++(⟨2,(b+1:Nat),(b+2+bd t:Nat),[]⟩::bH t (b+1)))++[x])++(fw l (b+2+bd t) 0++q):=λx=>by simp
  rw[e2,Cl l _ q (b+2+bd t) h.2 (by simp;omega)];simp
theorem Cm {lz:Bool} {f:Nat->List Ins} {sz:Nat} (c:∀e,(f e).length=sz):∀(n:Nat) (p:List Ins) (e:Nat),p.length=e->(jo sz n e).foldl (fx b lz) (p++eP (λ_=>⟨2,0,0,[]⟩) f sz n e)=p++eP (λi=>gU lz i b) f sz n e
 | 0,p,e,_=>by rfl
 | n+1,p,e,a=>by
  rw[jo,eP,eP,Zb2,sJ a];have e2:∀x:Ins,p++x::(f (e+1)++eP (λ_=>⟨2,0,0,[]⟩) f sz n (e+1+sz))=(p++x::f (e+1))++eP (λ_=>⟨2,0,0,[]⟩) f sz n (e+1+sz):=λx=>by simp
  rw[e2,Cm c n _ (e+1+sz) (by grind)];grind [gU]
theorem Qr3 (y:ep×Ins) (a:uX.pre y):T8 y:=by
 have h:y.1.code.length<=1000:=a;grind [T8]
def K_:Ok uX:=okZ [] Tryz.f47 QrV trivial Qr3
theorem Cn {α:Type} {l:List α} {v d:α} (h:b<l.length):gt d (cA l b v) b=v:=by
 grind [cA]
theorem tK {α:Type} (l:List α) (i:Nat) (a b:α):cA (cA l i a) i b=cA l i b:=by grind [cA,List.set_set]
def Qr4 (y:ep×Int×Int×Bool) (f:E7.pre y):T9 y:=by
 obtain⟨m,a,o,lz⟩:=y;obtain⟨h1,b,c⟩:m.code.length<=1000/\0<=a/\a<m.code.length:=f;have hi:a.toNat<m.code.length:=ω;unfold T9;simp only[dq,dP,gf,aj,ef,Cn hi,tK];have e:an .i64 a 1=a+1:=aV ω ω;have d:gt (Ins.mk 0 0 0 []) m.code a.toNat=m.code.getD a.toNat in0:=rfl;refine⟨b,c,b,c,λh=>⟨b,c,b,c,?_⟩,λh=>?_⟩
 ·simp only[e,d,h,fx,Zbv];rfl
 ·simp only[e,d,h,fx,ZaE,Za0];rfl
def QcF:Ok E7:=okZ [] Tryz.f111 (λ_=>cX ()) trivial Qr4
structure AtK (m:ep) (a:Nat) (t:Tree):Prop where
 len:m.nodes.length<=480
 nds:∀x∈m.nodes,iK x
 wf:kz t
 fit:m.code.length+bd t<=400
 nd:∃r,m.nodes.drop a=ay t++r
 sz:∃r,m.cq.drop a=jO t++r
 en:∃r,m.ends.drop a=qw t a++r
variable {a x:Nat} {Z:Tree} {m:ep}
theorem k_.out {i:Int} (h:k_ (m,i)):∃a:Nat,i=a/\AtK m a (ep.t (m,i)):=by
 obtain⟨h0,h1,f,t,g,j,⟨r,b⟩,c,d⟩:=h;obtain⟨a,rfl⟩:=Zau h0;simp only[Zad] at b c d;have e:ep.t (m,(a:Int))=t:=by grind [ep.t,kj]
 exact⟨a,rfl,by rw[e];exact⟨h1,f,g,j,⟨r,b⟩,c,d⟩⟩
theorem AtK.t (h:AtK m a Z):ep.t (m,(a:Int))=Z:=by
 obtain⟨r,b⟩:=h.nd;unfold ep.t;simp only[Zad];exact kj h.wf b
def AtK.nda (h:AtK m a Z):k_ (m,(a:Int)):=
 ⟨ω,h.len,h.nds,Z,h.wf,h.fit,by simp only[Zad];exact h.nd,by simp only[Zad];exact h.sz,by simp only[Zad];exact h.en⟩
def AtK.cod (h:AtK m a Z):kb (m,(a:Int))=m.code++bH Z m.code.length:=by
 unfold kb;rw[aq,h.t]
def fI (t:Tree) (a x:Nat):Nat:=a+1+(au (t.kids.take x)).length
theorem AX (l:List Tree) (x:Nat) (a:x<l.length):aG l=aG (l.take x)+bd (l.getD x bn)+aG (l.drop (x+1)):=by
 grind [List.drop_eq_getElem_cons,List.take_append_drop,tJ,aG]
theorem x9 {α:Type} {l:List α} {b:Nat} {u v w r:List α} (h:l.drop a=(u++(v++w))++r) (c:b=a+u.length):l.drop b=v++(w++r):=by
 subst c;rw[<-ZbZ,h];simp
theorem AtK.Ud (h:AtK m a Z) (b:x<Z.kids.length) (c:List Ins) (d:c.length+bd (Z.kids.getD x bn)<=400):AtK ⟨c,m.nodes,m.cq,m.ends⟩ (fI Z a x) (Z.kids.getD x bn):=by
 obtain⟨r,h1⟩:=h.nd;obtain⟨g,j⟩:=h.sz;obtain⟨i,k⟩:=h.en;have e:Z.kids=Z.kids.take x++(Z.kids.getD x bn::Z.kids.drop (x+1)):=by
  simp_all
 have hk:=vO h1 b;refine⟨h.len,h.nds,((iM _).mp h.wf).2.2.mem b,d,⟨_,hk⟩,⟨fR (Z.kids.drop (x+1))++g,?_⟩,⟨ki (Z.kids.drop (x+1)) (fI Z a x+(ay (Z.kids.getD x bn)).length)++i,?_⟩⟩
 ·have f:jO Z=(dI (bd Z)::fR (Z.kids.take x))++(jO (Z.kids.getD x bn)++fR (Z.kids.drop (x+1))):=by
   grind [ri,sH,fR]
  grind [x9,fI,kW]
 ·have f:qw Z a=(((a+(ay Z).length:Nat):Int)::ki (Z.kids.take x) (a+1))++(qw (Z.kids.getD x bn) (fI Z a x)++ki (Z.kids.drop (x+1)) (fI Z a x+(ay (Z.kids.getD x bn)).length)):=by
   rw[Iz]
   conv=>lhs;rw[e]
   rw[x8,ki];rfl
  grind [x9,fI,pr]
theorem AY (b:x<Z.kids.length):fI Z a (x+1)=fI Z a x+(ay (Z.kids.getD x bn)).length:=by
 grind [fI,take_one,ct,au]
theorem La {α:Type} {l r:List α} {x d:α} (h:l.drop a=x::r):a<l.length/\l.getD a d=x:=by
 grind [List.drop_of_length_le,List.drop_eq_getElem_cons]
theorem AtK.enx (h:AtK m a Z):a<m.ends.length/\m.ends.getD a 0=((a+(ay Z).length:Nat):Int):=by
 obtain⟨r,b⟩:=h.en;grind [Iz,La]
theorem AtK.ndx (h:AtK m a Z):a<m.nodes.length/\gt (Nd.mk 0 [] 0 0 false 0 0) m.nodes a=⟨Z.op,Z.r,Z.mn,Z.mx,Z.lz,Z.cap,Z.kids.length⟩:=by
 obtain⟨r,b⟩:=h.nd;grind [qg]
theorem AtK.num (h:AtK m a Z):a<=480/\Z.kids.length<=480:=by
 obtain⟨r,h1⟩:=h.nd;have b:=qg h1;have c:=h.len;have key:∀l:List Tree,l.length<=(au l).length:=λl=>by
  induction l with
  | nil=>simp
  | cons x l d=>simp only[au,Zab,Zae];rw[bJ];simp;omega
 grind [bJ]
def Lb (h:AtK m a Z) (k:Nat):uY (m,(a:Int)) k=(fI Z a k:Nat):=by
 unfold uY fI;rw[aq,h.t];omega
theorem kB (t:Tree) (a:Nat):fI t a 0=a+1:=by rfl
def Ue (h:a<Z.kids.length):2*cZ (Z.kids.getD a bn)+1<2*cZ Z:=by have:=gY h;omega
def AtK.go (h:AtK m a Z) (b:x<Z.kids.length) (c:List Ins) (e:c.length+bd (Z.kids.getD x bn)<=400):
  k_ (⟨c,m.nodes,m.cq,m.ends⟩,(fI Z a x:Nat))/\ep.t (⟨c,m.nodes,m.cq,m.ends⟩,(fI Z a x:Nat))=Z.kids.getD x bn/\kb (⟨c,m.nodes,m.cq,m.ends⟩,(fI Z a x:Nat))=c++bH (Z.kids.getD x bn) c.length/\(bH (Z.kids.getD x bn) c.length).length=bd (Z.kids.getD x bn)/\(fI Z a x:Nat)<m.ends.length/\m.ends.getD (fI Z a x) 0=(fI Z a (x+1):Nat):=by
 have hk:=h.Ud b c e;obtain⟨d,e2⟩:=hk.enx;exact⟨hk.nda,hk.t,hk.cod,iN _ _ hk.wf,d,by rw[e2,AY b]⟩
theorem Qr7 (y:uW) (n:IC.pre y):T_ y:=by
 obtain⟨m,i⟩:=y;obtain⟨a,rfl,h⟩:=k_.out n;have d:k_ (m,(a:Int)):=n;have C:lk (bS (List.drop a m.nodes)).1=ep.t (m,(a:Int)):=rfl;have z:=h.cod;have A:∀k,E9 (m,(a:Int)) k=m.code++a7 ((ep.t (m,(a:Int))).kids.take k) m.code.length:=λk=>by grind [E9,aq]
 have B:∀k,uY (m,(a:Int)) k=(fI (ep.t (m,(a:Int))) a k:Nat):=Lb h;unfold T_ Qfa Qfb;simp only[Zad,C,A,B,z];generalize ep.t (m,(a:Int))=t at*
 obtain⟨g1,g2⟩:=h.ndx;obtain⟨b1,J⟩:=h.num;rw[g2];have wf:=(iM _).mp h.wf;have l:=h.fit;have g:=la t m.code.length;have cI:=size_eq t;unfold pq at cI;have D:m.code.length<=400:=ω;have K:t.r.length<=1000000:=by
  obtain⟨r,h1⟩:=h.nd;have:(⟨t.op,t.r,t.mn,t.mx,t.lz,t.cap,t.kids.length⟩:Nd)∈m.nodes:=Zc5 (i:=a) (by grind [bJ]);exact h.nds _ this
 simp only[QaU,dq,aj,dA,aU,Zad];refine⟨ω,ω,λF=>⟨ω,ω,?_⟩,λF=>⟨λH=>⟨ω,?_⟩,λH=>⟨λI=>⟨ω,?_⟩,λI=>⟨λG=>⟨⟨0,by grind [kB],rfl,by simp[a7],by simp[a7],Zaj _⟩,λx L=>⟨λe=>?_,λe=>?_⟩⟩,λG=>⟨λo=>⟨⟨d,o⟩,ω⟩,λo=>⟨λp=>⟨⟨d,p⟩,ω⟩,λp=>⟨λf=>?_,λf=>?_⟩⟩⟩⟩⟩⟩⟩
 ·grind
 ·grind
 ·grind
 ·have c:x<t.kids.length:=ω;rw[Zaa ω,Zaa ω,Zaa ω,Zaa ω] at cI;have j:=AX t.kids x c;have hl:=m_ (t.kids.take x) m.code.length (wf.2.2.take x);obtain⟨c1,c2,c3,c4,c5,c6⟩:=h.go c (m.code++a7 (t.kids.take x) m.code.length) (by grind);have b:lk (bS (List.drop (fI t a x) m.nodes)).1=t.kids.getD x bn:=c2;have ht:=take_one bn c;rw[b,c3];have hs:m.code++a7 (t.kids.take x) m.code.length++bH (t.kids.getD x bn) (m.code++a7 (t.kids.take x) m.code.length).length=m.code++a7 (t.kids.take (x+1)) m.code.length:=by
   grind [ID]
  exact⟨⟨c1,by have:=Ue c;omega⟩,ω,ω,x+1,c6,bz ω,by rw[hs],hs,ω,ω⟩
 ·grind
 ·rw[Zaa ω,Zaa ω,Zac f] at cI;obtain⟨q,s,u⟩:=wf.1.uT f;have q:(t.kids.length:Int)=1:=q;have s:1<=t.cap:=s;have u:t.cap<=4:=u;have c:0<t.kids.length:=ω;have E:t.kids=[t.kids.getD 0 bn]:=by
   match hk:t.kids,(show t.kids.length=1 by omega) with
   | [k],_=>rfl
  have rB:aG t.kids=bd (t.kids.getD 0 bn):=by grind [aG]
  have e8:iR .i64 2 t.cap=2*t.cap:=BX ω ω;have w:an .i64 (2*t.cap) 1=2*t.cap+1:=aV ω ω;have v:an .i64 (a:Int) 1=(fI t a 0:Nat):=by grind [kB]
  simp only[e8,w,v,Zad];obtain⟨c1,c2,c3,c4,c5,c6⟩:=h.go c (m.code++[Ins.mk 4 (2*t.cap) 0 []]) (by grind);have b:lk (bS (List.drop (fI t a 0) m.nodes)).1=t.kids.getD 0 bn:=c2;rw[b,c3];have hs:m.code++[Ins.mk 4 (2*t.cap) 0 []]++bH (t.kids.getD 0 bn) (m.code++[Ins.mk 4 (2*t.cap) 0 []]).length++[Ins.mk 4 (2*t.cap+1) 0 []]=m.code++bH t m.code.length:=by
   grind [a7]
  refine⟨ω,⟨c1,by have:=Ue c;omega⟩,?_,by rw[hs],hs⟩;grind
 ·grind
theorem Qr8 (y:uW) (hy:NN.pre y):Ua y:=by
 obtain⟨m,i⟩:=y;obtain⟨C,F⟩:k_ (m,i)/\(ep.t (m,i)).op=4:=hy;obtain⟨a,rfl,h⟩:=k_.out C;have S:lk (bS (List.drop a m.nodes)).1=ep.t (m,(a:Int)):=rfl;have N:=h.cod;have P:∀k,E' (m,(a:Int)) k=m.code++fw ((ep.t (m,(a:Int))).kids.take k) m.code.length 0:=λk=>by grind [E',aq]
 have O:∀k,E_ (m,(a:Int)) k=jm ((ep.t (m,(a:Int))).kids.take k) m.code.length:=λk=>by grind [E_,aq]
 have R:Cj (m,(a:Int))=m.code++kk (ep.t (m,(a:Int))).kids m.code.length 0:=by unfold Cj;rw[aq]
 have eA:Ck (m,(a:Int))=jm (ep.t (m,(a:Int))).kids.dropLast m.code.length:=by unfold Ck;rw[aq]
 have T:∀j,Fa (m,(a:Int)) j=((Ck (m,(a:Int))).take j).foldl (kZ (kb (m,(a:Int))).length) (Cj (m,(a:Int))):=λj=>by unfold Fa;rw[aq]
 have Q:∀k,uY (m,(a:Int)) k=(fI (ep.t (m,(a:Int))) a k:Nat):=Lb h;unfold Ua;simp only[Zad,S,P,O,T,Q,N,R,eA];generalize ep.t (m,(a:Int))=t at*
 obtain⟨g1,g2⟩:=h.ndx;obtain⟨b1,b2⟩:=h.num;rw[g2];have wf:=(iM _).mp h.wf;have J:=h.fit;have s:=la t m.code.length;rw[Zaa ω,Zaa ω,Zaa ω,Zaa ω,Zac F] at s;have cI:=size_eq t;unfold pq at cI;rw[Zaa ω,Zac F] at cI;have X:2<=t.kids.length:=by have h:=wf.1.alt F;simp only at h;omega
 have U:m.code.length<=400:=ω;have d:t.kids=t.kids.dropLast++[t.kids.getD (t.kids.length-1) bn]:=by
  rw[Zcz]
  conv=>lhs;rw[<-ZaM (l:=t.kids),show t.kids.length=(t.kids.length-1)+1 by omega]
  grind [take_one]
 have w:t.kids.take (t.kids.length-1)=t.kids.dropLast:=by grind
 have E:mm t.kids.dropLast:=by rw[<-w];exact wf.2.2.take _
 simp only[QaU,dq,aj,dA,aU,Zad,aO,ZaX,ZaY,ZaZ];have B:an .i64 (a:Int) 1=(fI t a 0:Nat):=by rw[aV ω ω,kB];rfl
 have K:da .i64 (t.kids.length:Int) 1=((t.kids.length-1:Nat):Int):=xK ω ω;refine⟨⟨ω,ω,⟨0,by rfl,B,rfl,by simp[fw],by simp[fw],ω⟩,λx hx=>⟨λe=>?_,λe=>ω⟩⟩,⟨0,rfl,by simp,rfl,Zaj _⟩,λj hj=>⟨λe=>?_,λe=>?_⟩⟩
 ·have c:x<t.kids.length:=ω;have H:=AX t.kids x c;have hl:=κ (wf.2.2.take x) m.code.length 0;have n:(t.kids.take x).length=x:=by grind
  rw[n] at hl;have f:(m.code++fw (t.kids.take x) m.code.length 0).length=m.code.length+(aG (t.kids.take x)+2*x):=by grind
  refine⟨ω,ω,λel=>?_,λel=>?_⟩
  ·have z:x=t.kids.length-1:=ω;obtain⟨c1,c2,c3,c4,c5,c6⟩:=h.go c (m.code++fw (t.kids.take x) m.code.length 0) ω;have g:lk (bS (List.drop (fI t a x) m.nodes)).1=t.kids.getD x bn:=c2;rw[g,c3];have hs:m.code++fw (t.kids.take x) m.code.length 0++bH (t.kids.getD x bn) (m.code++fw (t.kids.take x) m.code.length 0).length=m.code++kk t.kids m.code.length 0:=by
    conv=>rhs;rw[d,na]
    rw[f,z,w,ZaD,show t.kids.dropLast.length=t.kids.length-1 by simp]
   exact⟨⟨c1,by have:=Ue c;omega⟩,by grind,by rw[hs],hs⟩
  ·have z:x+1<t.kids.length:=by
    omega
   obtain⟨c1,c2,c3,c4,c5,c6⟩:=h.go c (m.code++fw (t.kids.take x) m.code.length 0++[Ins.mk 2 0 0 []]) (by grind);have g:lk (bS (List.drop (fI t a x) m.nodes)).1=t.kids.getD x bn:=c2;rw[g,c3];have hs:fx (((m.code++fw (t.kids.take x) m.code.length 0++[Ins.mk 2 0 0 []]++bH (t.kids.getD x bn) (m.code++fw (t.kids.take x) m.code.length 0++[Ins.mk 2 0 0 []]).length++[Ins.mk 3 0 0 []]).length:Nat):Int) false (m.code++fw (t.kids.take x) m.code.length 0++[Ins.mk 2 0 0 []]++bH (t.kids.getD x bn) (m.code++fw (t.kids.take x) m.code.length 0++[Ins.mk 2 0 0 []]).length++[Ins.mk 3 0 0 []]) ((m.code++fw (t.kids.take x) m.code.length 0).length:Nat)=m.code++fw (t.kids.take (x+1)) m.code.length 0:=by
    rw[take_one bn c,NQ,n];have M:∀(p:List Ins) (u v:Ins) (q:List Ins),p++[u]++q++[v]=p++u::(q++[v]):=λp u v q=>by simp
    rw[M,sJ rfl,ZaD,f];have A:(m.code++fw (t.kids.take x) m.code.length 0++[(Ins.mk 2 0 0 []:Ins)]).length=m.code.length+(aG (t.kids.take x)+2*x)+1:=by grind
    rw[A] at c4;rw[A];have n2:(m.code++(fw (t.kids.take x) m.code.length 0++(Ins.mk 2 0 0 []:Ins)::(bH (t.kids.getD x bn) (m.code.length+(aG (t.kids.take x)+2*x)+1)++[Ins.mk 3 0 0 []]))).length=m.code.length+(aG (t.kids.take x)+2*x)+2+bd (t.kids.getD x bn):=by
     grind
    simp only[ZaD,n2];rfl
   have n3:(m.code++fw (t.kids.take x) m.code.length 0++[Ins.mk 2 0 0 []]++bH (t.kids.getD x bn) (m.code++fw (t.kids.take x) m.code.length 0++[Ins.mk 2 0 0 []]).length).length=m.code.length+(aG (t.kids.take x)+2*x)+1+bd (t.kids.getD x bn):=by
    grind
   refine⟨ω,⟨c1,Ue c⟩,ω,?_,⟨?_,ω,?_⟩,ω,ω,x+1,?_,c6,bz ω,by rw[hs],hs,ω,ω⟩
   ·grind [Fe]
   ·grind
   ·grind
   ·rw[take_one bn c,NR,n,n3]
 ·have c:j<(jm t.kids.dropLast m.code.length).length:=ω;have L:(List.foldl (kZ ((m.code++bH t m.code.length).length:Nat)) (m.code++kk t.kids m.code.length 0) ((jm t.kids.dropLast m.code.length).take j)).length=(m.code++bH t m.code.length).length:=by
   grind [AU,lb]
  have Y:∀(l:List Tree) (b:Nat) (v:Int),v∈jm l b->0<=v/\v<(b+aG l+2*l.length:Nat):=λl=>by
   induction l with
   | nil=>intro b v r;cases r
   | cons u l ih=>
    intro b v r;rw[jm] at r;rw[aG,Zae];rcases List.mem_cons.mp r with r | r
    ·omega
    ·grind
  have V:(jm t.kids.dropLast m.code.length).getD j 0∈jm t.kids.dropLast m.code.length:=by grind
  obtain⟨v1,v2⟩:=Y _ _ _ V;have Z:aG t.kids.dropLast<=aG t.kids:=by
   grind [tJ]
  have A:(m.code++bH t m.code.length).length=m.code.length+(aG t.kids+2*(t.kids.length-1)):=by grind [lb]
  have I:t.kids.dropLast.length=t.kids.length-1:=by simp
  have D:∀(o:List Int) (l:List Ins) (e:Int),o.take (j+1)=o.take j++[o.getD j 0]->List.foldl (kZ e) l (o.take (j+1))=kZ e (List.foldl (kZ e) l (o.take j)) (o.getD j 0):=λo l e h=>by grind
  have G:=D _ (m.code++kk t.kids m.code.length 0) ((m.code++bH t m.code.length).length:Nat) (take_one 0 c);have W:=Fe t.kids.dropLast m.code.length;rw[L];refine⟨ω,e,v1,ω,j+1,bz ω,?_,?_,ω,ω⟩
  ·rw[G,iO,L]
  ·rw[G];rfl
 ·have c:j=(jm t.kids.dropLast m.code.length).length:=ω;subst c;rw[ZaM];have hs:List.foldl (kZ ((m.code++bH t m.code.length).length:Nat)) (m.code++kk t.kids m.code.length 0) (jm t.kids.dropLast m.code.length)=m.code++bH t m.code.length:=by
   have A:(m.code++bH t m.code.length).length=m.code.length+aG t.kids+2*(t.kids.length-1):=by grind [lb]
   rw[A]
   conv=>lhs;rw[d,na]
   have:=Cl (e:=m.code.length+aG t.kids+2*(t.kids.length-1)) t.kids.dropLast m.code (bH (t.kids.getD (t.kids.length-1) bn) (m.code.length+(aG t.kids.dropLast+2*t.kids.dropLast.length))) m.code.length E rfl;grind [na]
  grind
theorem AtK.Qr9 (h:AtK m a Z) (g:x<Z.kids.length):fI Z a x<m.cq.length/\m.cq.getD (fI Z a x) 0=dI (bd (Z.kids.getD x bn)):=by
 obtain⟨i,c⟩:=h.sz;have f:Z.kids=Z.kids.take x++(Z.kids.getD x bn::Z.kids.drop (x+1)):=by
  simp_all
 have d:jO Z=(dI (bd Z)::fR (Z.kids.take x))++(jO (Z.kids.getD x bn)++fR (Z.kids.drop (x+1))):=by
  grind [ri,sH,fR]
 rw[d] at c;have e:=x9 (b:=fI Z a x) c (by grind [fI,kW]);grind [ri,La]
theorem Qsa (y:uW) (hy:NO.pre y):Ub y:=by
 obtain⟨m,i⟩:=y;obtain⟨L,S⟩:k_ (m,i)/\(ep.t (m,i)).op=5:=hy;obtain⟨a,rfl,h⟩:=k_.out L;have eT:lk (bS (List.drop a m.nodes)).1=ep.t (m,(a:Int)):=rfl;have eC:=h.cod;have eK:∀k,sI (m,(a:Int)) k=m.code++gB (a7 (ep.t (m,(a:Int))).kids) (aG (ep.t (m,(a:Int))).kids) k m.code.length:=λk=>by grind [sI,aq]
 have Z:NP (m,(a:Int))=(sI (m,(a:Int)) (ep.t (m,(a:Int))).mn.toNat).length:=by grind [NP,aq]
 have eS:∀k,zh (m,(a:Int)) k=sI (m,(a:Int)) (ep.t (m,(a:Int))).mn.toNat++eP (λ_=>Ins.mk 2 0 0 []) (a7 (ep.t (m,(a:Int))).kids) (aG (ep.t (m,(a:Int))).kids) k (NP (m,(a:Int))):=λk=>by unfold zh;rw[aq]
 have eJ:∀k,u0 (m,(a:Int)) k=jo (aG (ep.t (m,(a:Int))).kids) k (NP (m,(a:Int))):=λk=>by unfold u0;rw[aq]
 have eM:lE (m,(a:Int))=kY (ep.t (m,(a:Int))).mn (ep.t (m,(a:Int))).mx:=by unfold lE;rw[aq]
 have eX:∀j,Fb (m,(a:Int)) j=((u0 (m,(a:Int)) (lE (m,(a:Int)))).take j).foldl (fx (kb (m,(a:Int))).length (ep.t (m,(a:Int))).lz) (zh (m,(a:Int)) (lE (m,(a:Int)))):=λj=>by unfold Fb;rw[aq]
 unfold Ub;simp only[Zad,eT,eX,eC,eJ,eS,Z,eM,eK];generalize ep.t (m,(a:Int))=t at*
 obtain⟨g1,g2⟩:=h.ndx;obtain⟨b1,b2⟩:=h.num;rw[g2];have wf:=(iM _).mp h.wf;have U:=h.fit;have d:=la t m.code.length;rw[Zaa ω,Zaa ω,Zaa ω,Zaa ω,Zaa ω,Zac S] at d;unfold IB at d;have cI:=size_eq t;unfold pq at cI;rw[Zaa ω,Zaa ω,Zaa ω,Zac S] at cI;obtain⟨W,X,Y,w4⟩:=wf.1.rep S;have W:(t.kids.length:Int)=1:=W;have X:0<=t.mn:=X;have Y:t.mn<=30:=Y;have w4:t.mx= -1\/(t.mn<=t.mx/\t.mx<=30):=w4;have E:0<t.kids.length:=ω;have hks:t.kids=[t.kids.getD 0 bn]:=by
  match hk:t.kids,(show t.kids.length=1 by omega) with
  | [k],_=>rfl
 have rB:aG t.kids=bd (t.kids.getD 0 bn):=by grind [aG]
 have hcl:∀b,a7 t.kids b=bH (t.kids.getD 0 bn) b:=λb=>by grind [a7]
 have f:∀b,(a7 t.kids b).length=aG t.kids:=λb=>m_ _ b wf.2.2
 have hrl:=λn=>pv f n m.code.length
 have J:an .i64 (a:Int) 1=(fI t a 0:Nat):=by grind [kB]
 obtain⟨s1,V⟩:=h.Qr9 E;rw[<-rB] at V;have O:(t.kids.length:Int)=t.nk:=wf.2.1.symm;have hk1:=kB t a;have z:=Ue E;have hN:t.mn=(t.mn.toNat:Int):=ω
 
 have go:∀c:List Ins,c.length+aG t.kids<=400->k_ (⟨c,m.nodes,m.cq,m.ends⟩,(fI t a 0:Nat))/\kb (⟨c,m.nodes,m.cq,m.ends⟩,(fI t a 0:Nat))=c++a7 t.kids c.length:=λc s=>by
  rw[rB] at s;obtain⟨c1,c2,c3,c4,c5,c6⟩:=h.go E c s;grind
 have c2:∀c:List Ins,c.length+aG t.kids<=400->lk (bS (List.drop (fI t a 0) m.nodes)).1=t.kids.getD 0 bn:=λc s=>by
  rw[rB] at s;exact(h.go E c s).2.1
 simp only[QaU,dq,J,aj,dA,aU,Zad,aO,ZaX,ZaY,ZaZ,O,V];generalize aG t.kids=sz at*
 generalize hNn:t.mn.toNat=N at*
 refine⟨ω,ω,⟨ω,ω,λe=>⟨⟨0,rfl,by simp[gB],by simp[gB],Zaj _⟩,λx hx=>⟨λG=>?_,λG=>?_⟩⟩,λe=>?_⟩,λem=>?_,λem=>?_⟩
 ·have o:x+1<=N:=ω;have hle:x*sz+sz<=N*sz:=by rw[<-ZaV];exact Zbc _ o
  have I:m.code.length+N*sz<=400:=by grind
  have A:(m.code++gB (a7 t.kids) sz x m.code.length).length=m.code.length+x*sz:=by grind
  obtain⟨B,C⟩:=go (m.code++gB (a7 t.kids) sz x m.code.length) ω;have D:=c2 (m.code++gB (a7 t.kids) sz x m.code.length) ω;have hs:m.code++gB (a7 t.kids) sz x m.code.length++a7 t.kids (m.code++gB (a7 t.kids) sz x m.code.length).length=m.code++gB (a7 t.kids) sz (x+1) m.code.length:=by
   grind [AR]
  grind [bz]
 ·grind
 ·have hz:sz=0:=by unfold dI at e;omega
  have:gB (a7 t.kids) sz N m.code.length=[]:=Zap (by grind);grind
 ·rw[Zac em] at cI d;have A:(m.code++gB (a7 t.kids) sz N m.code.length).length=m.code.length+N*sz:=by grind
  have F:m.code++bH t m.code.length=(m.code++gB (a7 t.kids) sz N m.code.length)++gU t.lz (m.code.length+N*sz) (m.code.length+N*sz+sz+2)::(a7 t.kids (m.code.length+N*sz+1)++[⟨3,(m.code.length+N*sz:Nat),0,[]⟩]):=by
   grind
  rw[F,<-A];generalize m.code++gB (a7 t.kids) sz N m.code.length=c0 at*
  obtain⟨B,C⟩:=go (c0++[Ins.mk 2 0 0 []]) (by grind);have D:=c2 (c0++[Ins.mk 2 0 0 []]) (by grind);have Q:(c0++[Ins.mk 2 0 0 []]).length=c0.length+1:=by simp
  rw[D,C,Q];have R:(c0++[Ins.mk 2 0 0 []]++a7 t.kids (c0.length+1)++[Ins.mk 3 c0.length 0 []]).length=c0.length+sz+2:=by grind
  have hs:fx ((c0++[Ins.mk 2 0 0 []]++a7 t.kids (c0.length+1)++[Ins.mk 3 c0.length 0 []]).length:Nat) t.lz (c0++[Ins.mk 2 0 0 []]++a7 t.kids (c0.length+1)++[Ins.mk 3 c0.length 0 []]) (c0.length:Nat)=c0++gU t.lz c0.length (c0.length+sz+2)::(a7 t.kids (c0.length+1)++[Ins.mk 3 c0.length 0 []]):=by
   rw[R];have G:∀(p:List Ins) (u v:Ins) (q:List Ins),p++[u]++q++[v]=p++u::(q++[v]):=λp u v q=>by simp
   rw[G,sJ rfl];congr 2;unfold gU;cases t.lz<;>simp
  have n4:(c0++[Ins.mk 2 0 0 []]++a7 t.kids (c0.length+1)).length=c0.length+sz+1:=by grind
  exact⟨ω,⟨B,z⟩,ω,⟨ω,ω,ω⟩,by rw[hs],hs⟩
 ·rw[Zaa em] at cI d;have A:(m.code++gB (a7 t.kids) sz N m.code.length).length=m.code.length+N*sz:=by grind
  have F:m.code++bH t m.code.length=(m.code++gB (a7 t.kids) sz N m.code.length)++eP (λi=>gU t.lz i (m.code.length+N*sz+kY t.mn t.mx*(sz+1))) (a7 t.kids) sz (kY t.mn t.mx) (m.code.length+N*sz):=by
   grind
  have hM:da .i64 t.mx t.mn=((kY t.mn t.mx:Nat):Int):=by
   grind [kY]
  have H:t.mx.toNat-N=kY t.mn t.mx:=by unfold kY;omega
  have hMb:kY t.mn t.mx<=30:=ω;rw[H] at cI;rw[F,hM,<-A];generalize kY t.mn t.mx=M at*
  rw[<-A] at F;generalize m.code++gB (a7 t.kids) sz N m.code.length=c0 at*
  have P:∀(g:Nat->Ins) (k:Nat),(eP g (a7 t.kids) sz k c0.length).length=k*(sz+1):=λg k=>pw f k _
  have w:∀k,(jo sz k c0.length).length=k:=λk=>Fc k _
  refine⟨⟨0,by rfl,rfl,by simp[eP],by simp[eP],Zaj _⟩,λx hx=>⟨λe=>?_,λe=>⟨⟨0,?_,rfl,?_,?_,Zaj _⟩,λj hj=>⟨λe2=>?_,λe2=>?_⟩⟩⟩⟩
  ·have o:x+1<=M:=ω;have hle:x*(sz+1)+(sz+1)<=M*(sz+1):=by rw[<-ZaV];exact Zbc _ o
   have Q:(c0++eP (λ_=>Ins.mk 2 0 0 []) (a7 t.kids) sz x c0.length).length=c0.length+x*(sz+1):=by grind
   have R:(c0++eP (λ_=>Ins.mk 2 0 0 []) (a7 t.kids) sz x c0.length++[Ins.mk 2 0 0 []]).length=c0.length+x*(sz+1)+1:=by grind
   obtain⟨B,C⟩:=go (c0++eP (λ_=>Ins.mk 2 0 0 []) (a7 t.kids) sz x c0.length++[Ins.mk 2 0 0 []]) ω;have D:=c2 (c0++eP (λ_=>Ins.mk 2 0 0 []) (a7 t.kids) sz x c0.length++[Ins.mk 2 0 0 []]) ω;have hs:c0++eP (λ_=>Ins.mk 2 0 0 []) (a7 t.kids) sz x c0.length++[Ins.mk 2 0 0 []]++a7 t.kids (c0++eP (λ_=>Ins.mk 2 0 0 []) (a7 t.kids) sz x c0.length++[Ins.mk 2 0 0 []]).length=c0++eP (λ_=>Ins.mk 2 0 0 []) (a7 t.kids) sz (x+1) c0.length:=by
    rw[AS,R];simp
   rw[D,C];refine⟨ω,?_,⟨B,z⟩,x+1,?_,bz ω,by rw[hs],hs,ω,ω⟩
   ·grind
   ·rw[AT,Q]
  ·grind
  ·grind
  ·grind
  ·have r:x=M:=ω;subst r;rw[w] at e2;have e3:j<(jo sz x c0.length).length:=by grind
   have n0:(List.foldl (fx ((c0++eP (λi=>gU t.lz i (c0.length+x*(sz+1))) (a7 t.kids) sz x c0.length).length:Nat) t.lz) (c0++eP (λ_=>Ins.mk 2 0 0 []) (a7 t.kids) sz x c0.length) ((jo sz x c0.length).take j)).length=c0.length+x*(sz+1):=by grind [AW]
   have n5:(c0++eP (λi=>gU t.lz i (c0.length+x*(sz+1))) (a7 t.kids) sz x c0.length).length=c0.length+x*(sz+1):=by grind
   have hp:∀(k b:Nat) (v:Int),v∈jo sz k b->0<=v/\v<(b+k*(sz+1):Nat):=λk=>by
    induction k with
    | zero=>intro b v hv;cases hv
    | succ k ih=>
     grind [jo]
   obtain⟨v1,v2⟩:=hp _ _ _ (show(jo sz x c0.length).getD j 0∈jo sz x c0.length by grind);have T:∀(l:List Ins) (e:Int),List.foldl (fx e t.lz) l ((jo sz x c0.length).take (j+1))=fx e t.lz (List.foldl (fx e t.lz) l ((jo sz x c0.length).take j)) ((jo sz x c0.length).getD j 0):=λl e=>by grind [take_one]
   rw[n0];rw[n5] at*
   refine⟨ω,ω,⟨ω,v1,v2⟩,j+1,bz ω,?_,?_,ω,ω⟩
   ·rw[T,ef]
   ·rw[T]
  ·have r:x=M:=ω;subst r;rw[w] at e2;have K:j=x:=ω;subst K;have hs:List.foldl (fx ((c0++eP (λi=>gU t.lz i (c0.length+j*(sz+1))) (a7 t.kids) sz j c0.length).length:Nat) t.lz) (c0++eP (λ_=>Ins.mk 2 0 0 []) (a7 t.kids) sz j c0.length) ((jo sz j c0.length).take j)=c0++eP (λi=>gU t.lz i (c0.length+j*(sz+1))) (a7 t.kids) sz j c0.length:=by
    rw[ZaA (by grind),Zab,P];exact Cm f j c0 c0.length rfl
   grind
def nV (l:List Nd):Tree:=lk (bS l).1
def qy (t:Tree) (r b:Nat):List Ins:=⟨4,0,0,[]⟩::(bH t (b+1)++[⟨4,1,0,[]⟩,⟨7,r,0,[]⟩])
def lf:List (List Nd)->Nat->List Ins->List Int->(List Ins×List Int)×Int×Int
 | [],_,c,s=>((c,s),0,0)
 | l::ls,r,c,s=>if cR l=false then(([],[]),1,r) else if 400<c.length+bd (nV l)+3 then(([],[]),12,r) else lf ls (r+1) (c++qy (nV l) r c.length) (s++[(c.length:Int)])
def Co (y:List (List Nd)):(List Ins×List Int)×Int×Int:=if 8<y.length then(([],[]),13,8) else lf y 0 [] []
def bI (y:List (List Nd)):(List Ins×List Int)×Int×Int:=lk (Co y)
def Qke (args:List (AV D.E)) (s:St D.E):C (List (List Nd)):=match args with
 | [a]=>av (rowsOf D s 9 a) λl=>.ret (l:List (List Nd))
 | _=>.fail
def px (y:List (List Nd)):Prop:=y.length<=1000000/\∀l∈y,∀x∈l,iK x
def IE:bf D:=bZ 20 (List (List Nd)) Qke px (λy=>[.list 9 y]) λy=>.tuple [.agg [.list 8 (bI y).1.1,.list 5 (bI y).1.2],Qu9 (bI y).2.1,Qu9 (bI y).2.2]
structure CmX where
 c:List Ins
 s:List Int
 n:List Nd
 z:List Int
 e:List Int
 r:Nat
def μ (y:List (List Nd)) (x:CmX):Prop:=x.r<=y.length/\y.length<=8/\x.c.length<=400/\x.s.length=x.r/\lf (y.drop x.r) x.r x.c x.s=bI y
def Qsb (y:IE.Y):cH D:=⟨[],[],[(250,⟨CmX,[15,16],λx=>[(2,.ptr 0 0),(3,.num .i64 0),(4,.num .i64 0),(5,.ptr 1 0),(6,.grow 5 x.s 3),(17,Qu9 x.r)],[],λx=>[(0,.cells [.cF,.cF] 74 false),(1,.cells [.own 2 4 (ab x.c),.list 7 x.n,.list 5 x.z,.list 5 x.e] 122 false),(2,.arr 8 x.c 128 false),(3,.tok 5 3)],4,μ y,λx=>y.length-x.r⟩)],[],1,[]⟩
end
end sx
end Go.Proofs.YtadfknojfbmjgaaGreat
