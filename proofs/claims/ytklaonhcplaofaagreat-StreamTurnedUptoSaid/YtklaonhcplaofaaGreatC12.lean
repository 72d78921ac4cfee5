/- StreamTurned: a part of the proof. -/
import Derived.Test.YtklaonhcplaofaaGreatC11
import Derived.Test.YtklaonhcplaofaaGreatC10
import Derived.Test.YtklaonhcplaofaaGreatC5
import Derived.Test.YtklaonhcplaofaaGreatC9
import Derived.Test.YtklaonhcplaofaaGreatC4
set_option linter.all false
namespace Go.Proofs.YtklaonhcplaofaaGreat
open Go.Proofs.Tryz
set_option maxRecDepth 100000
set_option maxHeartbeats 4000000
namespace sx
noncomputable section
open Go Go.RowKit cls syn
def Qbf (y:lG):Prop:=aa [ag y.s.r] (qU y (True))
abbrev RA1 (v:vu) (p:Prop):Prop:=aa [v.h] (aa [v.m] (aa [v.L] p))
abbrev RA8 (v:yI) (p:Prop):Prop:=aa [v.st.aQ] (aa [v.st.aQ] (aa [v.st.size] (aa [v.st.size] p)))
def Vn (y:yI):Prop:=let B:=ag y.ru.s.r;let q1:=ay y.st.pos y.st.bu;let i:=!(seq y.ru.s.c []);let j:=cF .i64 y.st.pos y.st.bu;let C:=ay 500 y.st.size;let H:=ay 1099511627776 y.st.pos;let D:=aw .i64 y.st.size 1;let E:=aC (ag y.st.aQ) 0;let w:=B8.mk (n9.mk y.ru.p y.aX.m y.aX.L) y.aX.h;let x:=B8.mk (n9.mk y.ru.q y.aZ.m y.aZ.L) y.aZ.h;let e:=B8.mk (n9.mk y.ru.p y.aG.m y.aG.L) y.aG.h;let k:=fY (NC.mk y.st.aQ B y.st.size);let l:=aw .i64 D 0;let z:=!(pO y.st.bR (ay 200 j));let n:=!(aC y.st.aT (cF .i64 (cF .i64 y.st.bu y.st.size) 1));let o:=aw .i64 D j;let A:=!(mG (e,j));let f:=λp:Prop=>RA1 y.aG (RA1 y.aG (RA2 y.ru.q (RA1 y.aZ p)));let t:=λp:Prop=>RA1 y.aZ (RA1 y.aG (RA1 y.aG (RA1 y.aZ p)));let g:=λp:Prop=>RA1 y.aG (RA1 y.aG p);let u:=λp:Prop=>RAO y.st.aQ B y.st.size p;let v:=λp:Prop=>RA1 y.aZ (RA1 y.aG (RA1 y.aG (RA2 y.ru.q (RA1 y.aZ (RA1 y.aZ p)))));let a:Prop:=(false=nF y/\qU y.ru (True));let I:=ak (aC y.st.aT 0) (ak (aC y.st.size 0) (ak E (Iv True/\RA1 y.aX (kM y.aX=nF y/\qU y.ru (True))) (a)) (a)) (a);let b:Prop:=(ak (!y.st.ea) I (ak (!i) (a) (ak y.st.bR (a) (ak (ay y.st.size 0) (a) (ak C (a) (ak (ay y.st.aT 0) (a) (ak n (a) (Iv True/\qU y.ru (Iv (y.st.aQ.length<=1000)/\u (ak k (Iv (M6 y.ru)/\qU y.ru (Iv (EO w)/\RA2 y.ru.p (RA1 y.aX (RAL l (RA8 y (RA1 y.aX (RA1 y.aX (RAM y.st.size y.st.size (mG (w,l)=nF y/\qU y.ru (True)))))))))) (RA8 y (a))))))))))));let d:Prop:=(ak (!y.st.ea) I (ak (!i) (a) (ak y.st.bR (a) (ak (ay y.st.size 0) (a) (ak C (a) (ak (ay y.st.aT 0) (a) (ak n (a) (Iv True/\qU y.ru (Iv (y.st.aQ.length<=1000)/\u (ak k (Iv (M6 y.ru)/\qU y.ru (Iv (EO w)/\RA2 y.ru.p (RA1 y.aX (RAL o (RA8 y (RA1 y.aX (RA1 y.aX (RAM y.st.size y.st.size (mG (w,o)=nF y/\qU y.ru (True)))))))))) (RA8 y (a))))))))))));let F:Prop:=(RA1 y.aZ (ak (!(kM y.aZ)) (a) (b)));let G:Prop:=(RA1 y.aZ (ak (!(kM y.aZ)) (a) (d)));ak (ay y.st.bu 0) (a) (ak q1 (a) (ak H (a) (ak z (a) (ak y.st.bR (Iv (Zg y.ru)/\qU y.ru (Iv (M6 y.ru)/\qU y.ru (Iv (EO e)/\RA2 y.ru.p (RA1 y.aG (RAC (ak (!(mG (e,0))) (g (a)) (ak i (Iv (EO x)/\aa [y.ru.q.ab] (aa [y.ru.q.aj] (aa [y.aZ.h] (aa [y.aZ.m] (aa [y.aZ.L] (aa ([0]:List Int) (ak (!(mG (x,0))) (f (a)) (ak (!i) (Iv True/\v (ak (!(kM y.aZ)) (a) (b))) (f (b)))))))))) (ak (!i) (Iv True/\t (ak (!(kM y.aZ)) (a) (b))) (g (b)))))))))) (Iv (Zg y.ru)/\qU y.ru (Iv (M6 y.ru)/\qU y.ru (Iv (EO e)/\RA2 y.ru.p (RA1 y.aG (RAL j (ak A (g (a)) (ak i (Iv (EO x)/\aa [y.ru.q.ab] (aa [y.ru.q.aj] (aa [y.aZ.h] (aa [y.aZ.m] (aa [y.aZ.L] (aa [j] (ak (!(mG (x,j))) (f (a)) (ak (!i) (Iv True/\v (ak (!(kM y.aZ)) (a) (d))) (f (d)))))))))) (ak (!i) (Iv True/\t (ak (!(kM y.aZ)) (a) (d))) (g (d))))))))))))))
def Qjh:Ok Δ:=okZ (V:=Qbf) [] f30 (λ_=>ew ()) trivial λ(y:lG) _=>by
 unfold Qbf;simp only[ie,qg]
theorem Qji (a b:Int):aH a b=!(ay b a):=by
 grind
theorem QqO (y:yI) (f:wsP y):Vn y:=by
 have⟨h1,a,b,d,g⟩:=f;have i:M6 y.ru:=h1.1.pg;have e:nF y=_:=aI _;unfold Vn;simp only[fU,qg,lf];unfold Vm wsM Θ wsT Cl NG at e;unfold NG at h1 a d;have h:nN y.ru=!(seq y.ru.s.c []):=rfl;have j:Zg y.ru:=b
 with_reducible repeat' first | assumption | apply And.intro | intro _
 all_goals simp_all [pO,Qji]
def Qjj (a:Ok dr):Ok Λ:=okZ [Zh,Zi,Δ,Vh,Vk,NF] f10 (λ_=>ew ()) ⟨QhY,QhZ,Qjh,Qjc a,Qje,Qjf⟩ QqO
def Ψ (y:B5):Int->Bool:=UX y.p.ab (kR y.p.ab (ZZ y)) y.p.ab.length λk=>if k=ZZ y then true else false
def We (y:B5) (s:List Bool) (k:Int):Bool:=Ψ y k&&!(s.getD k.toNat false)
def Oh (y:n9) (k:Nat):B5:=⟨y.p,k,y.L.getD k fA,y.m⟩
def dwI (y:n9) (k:Nat) (x:List Bool×Nat):Prop:=k<y.L.length/\fI y k/\x.2<=(y.L.getD k fA).aB.length/\x.1.length=y.p.ab.length/\tY y k=Wc y.m ((y.L.getD k fA).aB.drop x.2) (We (Oh y k) x.1)
def mcO (y:n9):Nat×AO D.E:=(1,.cells [.int .i64 y.m,.list 2 y.L] 35 false)
def Vo:br D:={ Nz with f:=96 }
def QqP (y:Vo.Y):cO D:=⟨[],[10],[(58,⟨Nat,[],λk=>[(2,.ptr 0 0),(3,.ptr 1 0),(5,QsE k)],[],λ_=>[Od (n9.p y),mcO y],2,λk=>k<=(n9.L y).length/\fI y k,λk=>(n9.L y).length-k⟩)],[],1,
 [(59710,⟨Nat,λk=>⟨List Bool×Nat,[5,7],λx=>[(2,.ptr 0 0),(3,.ptr 1 0),(6,.ptr 2 0),(8,.own 3 1 (ag x.1)),(9,QsE x.2)],[],λx=>[Od (n9.p y),mcO y,(2,.cells (D.bd 2 ((n9.L y).getD k fA)) 128 false),(3,.arr 17 x.1 4 false)],4,dwI y k,λx=>((n9.L y).getD k fA).aB.length-x.2⟩,none⟩)]⟩
def Ω:br D:={ Vg with f:=53 }
def Qjk:br D:={ Vh with f:=31 }
def Qjl:br D:={ Vk with f:=32 }
def KZ (y:lG):List (Nat×AO D.E):=[ruO 0 y.s ⟨y.p.ab,y.p.aj,y.q.ab,y.q.aj,0,0⟩]
def NH (v:AV D.E) (s:St D.E):C lG:=match v with
 | .ptr b _=>az (cN (s.h.get b)) λo=>match o with
  | .cells cs _ _=>match cs with
   | [r,c,p,q,a,b,_]=>az (aU D s 3 r) λr=>az (gz c) λc=>az (aU D s 8 p) λp=>az (aU D s 5 q) λq=>az (aU D s 8 a) λa=>az (aU D s 5 b) λb=>.ret ⟨⟨r,c⟩,⟨p,q⟩,⟨a,b⟩,[]⟩
   | _=>.fail
  | _=>.fail
 | _=>.fail
structure DnY where
 r:lG
 l:List dh
 z:Int
def nQ (y:DnY):NC:=⟨y.l,ag y.r.p.aj,y.z⟩
def Vp:br D:=⟨33,DnY,λa s=>match a with
 | [r,l,z]=>az (NH r s) λr=>az (aU D s 2 l) λl=>aL (cA z) λ_ z=>.ret ⟨r,(l:List dh),z⟩
 | _=>.fail,λy=>y.l.length<=1000,λy=>[.ptr 0 0,.list 2 y.l,QsE y.z],λy=>KZ y.r,λy=>.bool (fY (nQ y)),λy=>KZ y.r,1,1⟩
def QqS (y:Vp.Y):cO D:=⟨[],[],[(58,⟨Nat,[0,1,2],λk=>[(7,QsE k)],[],λ_=>KZ (DnY.r y),1,λk=>k<=(DnY.l y).length/\lK (nQ y) k,λk=>(DnY.l y).length-k⟩)],[],11,[]⟩
def QqU (r x:AV D.E) (s:St D.E):C yI:=az (NH r s) λr=>az (asAgg x) λcs=>match cs with
  | [p,l,g,o,e,z,n,h1,p1,h,b,p2,i,f,p3,j]=>aL (cA p) λ_ p=>aL (cA l) λ_ l=>aL (x_ g) λg _=>aL (x_ o) λo _=>aL (cA e) λ_ e=>aL (cA z) λ_ z=>az (aU D s 2 n) λn=>az (xZ h1 p1 h s) λc=>az (xZ b p2 i s) λa=>az (xZ f p3 j s) λd=>.ret ⟨r,⟨p,l,g,o,e,z,n⟩,c,a,d⟩
  | _=>.fail
def QdN (y:yI):Prop:=wsP y/\y.ru.p.aj.length=y.ru.s.r.length
def Vq:br D:=⟨11,yI,λa s=>match a with
 | [r,x]=>QqU r x s
 | _=>.fail,QdN,λy=>[.ptr 0 0,wsA y],λy=>KZ y.ru,λy=>.bool (nF y),λy=>KZ y.ru,1,1⟩
def wsO (y:yI):Nat×AO D.E:=(1,.cells ([.int .i64 y.st.pos,.int .i64 y.st.bu,.bool y.st.bR,.bool y.st.ea,.int .i64 y.st.aT,.int .i64 y.st.size,.list 2 y.st.aQ]++KV y.aX++KV y.aG++KV y.aZ) 39 false)
def wsE (y:yI):Prop:= -9223372036854775808<=y.st.aT/\y.st.aT<=9223372036854775807
def Qjm (y:yI) (p:Prop):iG D:=⟨Unit,[0],λ_=>[(3,.ptr 1 0),(5,.int .i64 (Cl y))],[],λ_=>KZ y.ru++[wsO y],2,λ_=>p,λ_=>0⟩
def QqV (y:Vq.Y):cO D:=⟨[(0,.fact 1)],[],[],[(15,Qjm y (Vm y/\wsE y)),(31,Qjm y (Vm y/\wsM y/\wsE y))],1,[]⟩
def pY (l:List aK) (t:aK):List aK:=if l.any (λx=>decide (x.pc=t.pc))=true then l else l++[t]
def tkT (n:Nat):List (Nat×AO D.E):=[(n,.tok 1 187)]
def EP:br D:=⟨92,List aK×aK,λa s=>match a with
 | [l,t]=>az (aU D s 1 l) λl=>az (asAgg t) λcs=>az (qi D 1 cs) λt=>.ret ((l:List aK),(t:aK))
 | _=>.fail,λy=>y.1.length<=1000000,λy=>[.grow 1 y.1 0,.agg (D.bd 1 y.2)],λ_=>tkT 0,λy=>.grow 1 (pY y.1 y.2) 1,λ_=>tkT 1,1,2⟩
def Qjn (y:EP.Y):cO D:=⟨[],[],[(26,{ X:=Nat,aN:=[0,3],sl:=λk=>[(5,QsE k)],kp:=[0,1],pc:=λ_=>[],nx:=2,inv:=λk=>k<=(Prod.fst (α:=List aK) y).length/\∀j,j<k->((Prod.fst (α:=List aK) y).getD j ⟨0,0,0,0,0,0,0,0,0,0,0⟩).pc≠(Prod.snd (β:=aK) y).pc,me:=λk=>(Prod.fst (α:=List aK) y).length-k })],[],1,[]⟩
def QdP (a b c n:Nat) (p:eu) (m:Int) (sn:List Bool) (k:kS):List (Nat×AO D.E):=[(a,.cells [.list 8 p.ab,.list 5 p.aj,.ptr b 0,.own c 1 (ag sn),.int .i64 m,.bool k.e,.grow 1 k.rd n] 239 false),
 (b,.cells [.bool k.w.done,.int .i64 k.w.c0,.int .i64 k.w.c1,.int .i64 k.w.c2,.int .i64 k.w.c3,.int .i64 k.w.c4,.int .i64 k.w.c5,.int .i64 k.w.c6,.int .i64 k.w.c7,.int .i64 k.w.c8,.int .i64 k.w.c9,.dd] 128 false),
 (c,.arr 17 sn 4 false),(n,.tok 1 187)]
structure yf where
 p:eu
 sn:List Bool
 k:kS
 m:Int
 t:aK
def QqX (a:List (AV D.E)) (s:St D.E):C yf:=match a with
 | [w,pc,d]=>match w with
  | .ptr b _=>az (cN (s.h.get b)) λo=>match o with
   | .cells cs _ _=>match cs with
    | [c,st,l,sn,m,e,rd]=>az (aU D s 8 c) λc=>az (aU D s 5 st) λst=>az (Ql0 l s) λl=>az (aU D s 17 sn) λsn=>aL (cA m) λ_ m=>aL (x_ e) λe _=>az (aU D s 1 rd) λrd=>az (asAgg d) λcs=>az (qi D 1 (pc::cs)) λt=>.ret ⟨⟨(c:List aS),(st:List Int)⟩,(sn:List Bool),⟨l,(rd:List aK),e⟩,m,(t:aK)⟩
    | _=>.fail
   | _=>.fail
  | _=>.fail
 | _=>.fail
def pZ (ab:List aS) (m:Int):Nat->List Bool->kS->aK->Bool×List Bool×kS
 | 0,s,k,_=>(false,s,k)
 | n+1,s,k,t=>
  if s.getD t.pc.toNat false=true then(false,s,k) else
  let a:=s.set t.pc.toNat true
  let x:=ab.getD t.pc.toNat Br
  if x.op=7 then(true,a,{ k with w:=Ra k.w t })
  else if x.op=2 then
   let r:=pZ ab m n a k { t with pc:=x.x }
   if r.1=true then r else pZ ab m n r.2.1 r.2.2 { t with pc:=x.y }
  else if x.op=3 then pZ ab m n a k { t with pc:=x.x }
  else if x.op=4 then pZ ab m n a k (Xp { t with pc:=t.pc+1 } x.x m)
  else if x.op=5 then if m=0 then pZ ab m n a k { t with pc:=t.pc+1 } else(false,a,k)
  else if x.op=6 then if k.e=true then pZ ab m n a k { t with pc:=t.pc+1 } else(false,a,k)
  else if x.op=1 then(false,a,{ k with rd:=k.rd++[t] })
  else(false,a,k)
def cK (s:List Bool):Nat:=s.countP λb=>!b
def K0 (ab:List aS) (t:aK):Prop:=0<=t.pc/\t.pc<ab.length
def B' (y:yf):Prop:=Xm y.p.ab/\Rb y.p.ab/\y.sn.length=y.p.ab.length/\y.k.rd.length+cK y.sn<=1000000/\y.k.w.aB=[]/\K0 y.p.ab y.t
def gh (y:yf):Bool×List Bool×kS:=pZ y.p.ab y.m (cK y.sn+1) y.sn y.k y.t
def Ip:br D:=⟨129,yf,QqX,B',λy=>[.ptr 0 0,QsE y.t.pc,.agg [QsE y.t.c0,QsE y.t.c1,QsE y.t.c2,QsE y.t.c3,QsE y.t.c4,QsE y.t.c5,QsE y.t.c6,QsE y.t.c7,QsE y.t.c8,QsE y.t.c9]],λy=>QdP 0 1 2 3 y.p y.m y.sn y.k,λy=>.bool (gh y).1,λy=>QdP 0 1 2 4 y.p y.m (gh y).2.1 (gh y).2.2,4,5⟩
def AE (y:Ip.Y):Nat:=cK (yf.sn y)
def QqY (_:Ip.Y):cO D:=⟨[(15,.IU 5 1 9)],[],[],[],1,[]⟩
def QqZ (y:Ip.Y):Prop:=vc [Ip.under AE (AE y)] f129 Ip QqY y
def yJ (ab:List aS) (m:Int):List aK->List Bool->kS->List Bool×kS
 | [],s,k=>(s,k)
 | t::l,s,k=>let r:=pZ ab m (cK s+1) s k t;if r.1=true then r.2 else yJ ab m l r.2.1 r.2.2
structure E' where
 p:eu
 l:dh
 m:Int
 e:Bool
variable {y:n9} {k:Nat} {i:Int} {s:List Bool}
def dxK (y:E'):kS:=⟨{ y.l with aB:=[] },[],y.e⟩
def Oi (y:E'):List Bool:=List.replicate y.p.ab.length false
def fJ (y:E'):List Bool×kS:=yJ y.p.ab y.m y.l.aB (Oi y) (dxK y)
def dxP (y:E'):Prop:=Xm y.p.ab/\Rb y.p.ab/\y.l.aB.length<=1000000/\∀t∈y.l.aB,K0 y.p.ab t
def Qq1 (a:List (AV D.E)) (s:St D.E):C E':=match a with
 | [p,l,m,e]=>az (sS p s) λp=>az (asAgg l) λcs=>az (qi D 2 cs) λl=>aL (cA m) λ_ m=>aL (x_ e) λe _=>.ret ⟨p,(l:dh),m,e⟩
 | _=>.fail
def NI:br D:=bL 90 E' Qq1 dxP (λy=>[yc y.p,.agg (D.bd 2 y.l),QsE y.m,.bool y.e]) λy=>.tuple [lsA (fJ y).2.w,.list 1 (fJ y).2.rd]
def dxI (y:E') (x:Nat×List Bool×kS):Prop:=x.1<=y.l.aB.length/\x.2.1.length=y.p.ab.length/\x.2.2.rd.length+cK x.2.1<=1000/\x.2.2.w.aB=[]/\yJ y.p.ab y.m (y.l.aB.drop x.1) x.2.1 x.2.2=fJ y
def Qq2 (y:NI.Y):cO D:=⟨[],[2],[(122,⟨Nat×List Bool×kS,[4,5,8,10,11],λx=>[(12,QsE x.1)],[0,1,2],λx=>QdP 5 3 4 6 (E'.p y) (E'.m y) x.2.1 x.2.2,7,dxI y,λx=>(E'.l y).aB.length-x.1⟩)],[],1,[]⟩
def Vr (y:n9):Prop:=let i:=y.L.length;let q1:=ag y.p.ab;let C:=ag y.p.aj;let E:=ay 1099511627776 y.m;let F:=!(aC (ag y.L) C);let B:=λp:Prop=>RAM y.m y.L (RA2 y.p p);let G:=dh.mk false 0 0 0 0 0 0 0 0 0 0 [];Iv (Ck y.p)/\RA2 y.p (ak (ay y.m 0) (false=gx y/\True) (ak E (false=gx y/\True) (ak F (false=gx y/\True) ((∃z:Nat,0=(z:Int)/\B ((Iv (z<=i/\fI y z))))/\(∀x:Nat,let D:=ay (x:Int) (ag y.L);let w:=kR y.p.ab (uF (y.p,(x:Int)));let o:=gt 0 y.p.aj (x:Int).toNat;let b:=gt G y.L (x:Int).toNat;let r:=!(fp (aK.mk 0 b.c0 b.c1 b.c2 b.c3 b.c4 b.c5 b.c6 b.c7 b.c8 b.c9) y.m);let s:=!((aC b.c0 (-1))&&((aC b.c1 (-1))&&((aC b.c2 (-1))&&((aC b.c3 (-1))&&((aC b.c4 (-1))&&((aC b.c5 (-1))&&((aC b.c6 (-1))&&((aC b.c7 (-1))&&((aC b.c8 (-1))&&(aC b.c9 (-1)))))))))));let q:=λp:Prop=>aa [(x:Int)] (aa [w] p);let n:Prop:=(Iv (κ (y.p,(x:Int)))/\aa [y.p.ab] (aa [y.p.aj] (aa [(x:Int)] (aH 0 q1/\aH q1 q1/\bx q1 1/\∃z:Nat,let c:=List.getD y.L z G;let j:=c.aB.length;let A:=λp:Prop=>aa [c.aB] (aa [y.m] (aa [y.L] (aa [y.p.ab] (aa [y.p.aj] p))));(∃e:(List Bool)×Nat,q (ag (kO q1 false)=ag e.1/\0=(e.2:Int)/\kO q1 false=e.1/\b.done=c.done/\sr b c (b.aB=c.aB/\B ((Iv (dwI y z e))))))/\(∀g:(List Bool)×Nat,let f:=(g.2:Int);let k:=ay f (ag c.aB);let a:=gt (aK.mk 0 0 0 0 0 0 0 0 0 0 0) c.aB f.toNat;let d:=cF .i64 a.pc 1;let t:=gt false g.1 a.pc.toNat;let h:=gt false w d.toNat;let u:=!(aC (gt (aS.mk 0 0 0 []) y.p.ab d.toNat).op 1);let v:=!(fp (aK.mk 0 a.c0 a.c1 a.c2 a.c3 a.c4 a.c5 a.c6 a.c7 a.c8 a.c9) y.m);let l:Prop:=(aH 0 a.pc/\ay a.pc (ag g.1)/\∃e:(List Bool)×Nat,q (ag g.1=ag e.1/\aw .i64 f 1=(e.2:Int)/\cC g.1 a.pc.toNat true=e.1/\aa [c.done] (nS c (A ((Iv (dwI y z e/\(j-e.2)<(j-g.2))))))));(Iv (dwI y z g))->ak k (aH 0 f/\k/\ak (ay a.pc 0) (false=gx y/\True) (ak (aH q1 a.pc) (false=gx y/\True) (aH 0 a.pc/\ay a.pc (ag g.1)/\ak t (false=gx y/\True) (Iv True/\Gv a (aa [y.m] (ak v (false=gx y/\True) (aH 0 (x:Int)/\ay (x:Int) C/\ak (!(aC a.pc o)) (ak (aC a.pc 0) (aa [a.pc] (aa [y.p.aj] (aa [o,a.pc] (false=gx y/\True)))) (aH 0 d/\ay d (ag w)/\ak (!h) (aa [a.pc] (aa [y.p.aj] (aa [o,a.pc,a.pc] (aa [h] (false=gx y/\True))))) (aH 0 d/\ay d q1/\aa [a.pc] (aa [y.p.aj] (aa [o,a.pc,a.pc] (aa [h] (aa [y.p.ab] (aa [a.pc,(gt (aS.mk 0 0 0 []) y.p.ab d.toNat).op] (ak u (false=gx y/\True) (l)))))))))) (aa [a.pc] (aa [y.p.aj] (aa [o] (l))))))))))) (∃e:Nat,aw .i64 (x:Int) 1=(e:Int)/\B ((Iv ((e<=i/\fI y e)/\(i-e)<(i-x))))))))));(Iv (x<=i/\fI y x))->ak D (aH 0 (x:Int)/\D/\Iv True/\nS b (aa [y.m] (ak r (nS b (aa [y.m] (false=gx y/\True))) (ak (!b.done) (Iv True/\nS b (aa [y.m] (aa [b.done] (nS b (nS b (ak s (false=gx y/\True) (n))))))) (nS b (aa [y.m] (aa [b.done] (n)))))))) (true=gx y/\True))))))
def Qbh (y:B8):Prop:=Iv (sj y.v)/\RA2 y.v.p (RAM y.v.m y.v.L (ak (gx y.v) (ak (aC (ag y.h) 0) (true=Wd y/\True) (Iv True/\aa [y.h] (gF y.h=Wd y/\True))) (false=Wd y/\True)))
def Vs (y:DnY):Prop:=let d:=y.l.length;let q1:=ag y.l;let g:=!(seq y.r.s.c []);let j:=!(aC q1 (ag y.r.p.aj));let i:=λp:Prop=>RAM y.l y.z p;let h:=λp:Prop=>RA3 y.r.s p;let b:Prop:=(h (xz y.r (RAL g (True))));ak j (false=fY (nQ y)/\b) ((∃z:Nat,i (0=(z:Int)/\h (xz y.r (RAL g ((Iv (z<=d/\lK (nQ y) z)))))))/\(∀x:Nat,let a:=gt (dh.mk false 0 0 0 0 0 0 0 0 0 0 []) y.l (x:Int).toNat;let k:=ay 0 (ag a.aB);let m:=!((aC a.c0 (-1))&&((aC a.c1 (-1))&&((aC a.c2 (-1))&&((aC a.c3 (-1))&&((aC a.c4 (-1))&&((aC a.c5 (-1))&&((aC a.c6 (-1))&&((aC a.c7 (-1))&&((aC a.c8 (-1))&&(aC a.c9 (-1)))))))))));let f:=λp:Prop=>RAM a.aB a.done p;let e:Prop:=(aH 0 (x:Int)/\ay (x:Int) q1/\ak (ay a.c0 (-1)) (false=fY (nQ y)/\b) (aH 0 (x:Int)/\ay (x:Int) q1/\ak (ay y.z a.c0) (false=fY (nQ y)/\b) (aH 0 (x:Int)/\ay (x:Int) q1/\ak (ay a.c1 (-1)) (false=fY (nQ y)/\b) (aH 0 (x:Int)/\ay (x:Int) q1/\ak (ay y.z a.c1) (false=fY (nQ y)/\b) (aH 0 (x:Int)/\ay (x:Int) q1/\ak (ay a.c2 (-1)) (false=fY (nQ y)/\b) (aH 0 (x:Int)/\ay (x:Int) q1/\ak (ay y.z a.c2) (false=fY (nQ y)/\b) (aH 0 (x:Int)/\ay (x:Int) q1/\ak (ay a.c3 (-1)) (false=fY (nQ y)/\b) (aH 0 (x:Int)/\ay (x:Int) q1/\ak (ay y.z a.c3) (false=fY (nQ y)/\b) (aH 0 (x:Int)/\ay (x:Int) q1/\ak (ay a.c4 (-1)) (false=fY (nQ y)/\b) (aH 0 (x:Int)/\ay (x:Int) q1/\ak (ay y.z a.c4) (false=fY (nQ y)/\b) (aH 0 (x:Int)/\ay (x:Int) q1/\ak (ay a.c5 (-1)) (false=fY (nQ y)/\b) (aH 0 (x:Int)/\ay (x:Int) q1/\ak (ay y.z a.c5) (false=fY (nQ y)/\b) (aH 0 (x:Int)/\ay (x:Int) q1/\ak (ay a.c6 (-1)) (false=fY (nQ y)/\b) (aH 0 (x:Int)/\ay (x:Int) q1/\ak (ay y.z a.c6) (false=fY (nQ y)/\b) (aH 0 (x:Int)/\ay (x:Int) q1/\ak (ay a.c7 (-1)) (false=fY (nQ y)/\b) (aH 0 (x:Int)/\ay (x:Int) q1/\ak (ay y.z a.c7) (false=fY (nQ y)/\b) (aH 0 (x:Int)/\ay (x:Int) q1/\ak (ay a.c8 (-1)) (false=fY (nQ y)/\b) (aH 0 (x:Int)/\ay (x:Int) q1/\ak (ay y.z a.c8) (false=fY (nQ y)/\b) (aH 0 (x:Int)/\ay (x:Int) q1/\ak (ay a.c9 (-1)) (false=fY (nQ y)/\b) (aH 0 (x:Int)/\ay (x:Int) q1/\ak (ay y.z a.c9) (false=fY (nQ y)/\b) (∃z:Nat,i (aw .i64 (x:Int) 1=(z:Int)/\h (xz y.r (RAL g ((Iv ((z<=d/\lK (nQ y) z)/\(d-z)<(d-x))))))))))))))))))))))))))));(Iv (x<=d/\lK (nQ y) x))->ak (ay (x:Int) q1) (aH 0 (x:Int)/\ay (x:Int) q1/\ak k (RAL a.aB (false=fY (nQ y)/\b)) (aH 0 (x:Int)/\ay (x:Int) q1/\ak (!a.done) (aH 0 (x:Int)/\ay (x:Int) q1/\Iv True/\f (nS a (nS a (ak m (false=fY (nQ y)/\b) (e))))) (f (e)))) (true=fY (nQ y)/\b)))
abbrev RA5 (v:HB) (p:Prop):Prop:=aa [v.bu] (aa [v.bR] (aa [v.ea] (aa [v.aT] (aa [v.size] (aa [v.aQ] p)))))
def Vt (y:yI):Prop:=let v:=ay y.st.pos y.st.bu;let q1:=!(seq y.ru.s.c []);let l:=cF .i64 y.st.pos y.st.bu;let A:=ay 500 y.st.size;let B:=ay 1099511627776 y.st.pos;let C:=aC (ag y.st.aQ) 0;let n:=B8.mk (n9.mk y.ru.p y.aX.m y.aX.L) y.aX.h;let o:=B8.mk (n9.mk y.ru.q y.aZ.m y.aZ.L) y.aZ.h;let t:=B8.mk (n9.mk y.ru.p y.aG.m y.aG.L) y.aG.h;let u:=aw .i64 (aw .i64 y.st.size 1) (Cl y);let g:=!(aC (aw .i64 (aw .i64 y.st.aT y.st.size) 1) y.st.bu);let i:=!(mG (t,Cl y));let j:=!(mG (o,Cl y));let k:=fY (nQ (DnY.mk (lG.mk y.ru.s y.ru.p y.ru.q []) y.st.aQ y.st.size));let a:Prop:=(RA3 y.ru.s (xz y.ru (aa [q1] (True))));let d:Prop:=(RAL y.st.pos (RA5 y.st (RA1 y.aX (RA1 y.aG (RA1 y.aZ (RA3 y.ru.s (xz y.ru (aa [q1] ((Iv (Vm y=true/\wsE y)))))))))));let I:=Iv (Vm y=true/\wsM y=true/\wsE y);let b:Prop:=(∃z:Unit,aa [Cl y,y.st.pos] (RA5 y.st (RA1 y.aX (RA1 y.aG (RA1 y.aZ (RA3 y.ru.s (xz y.ru (aa [q1] (I)))))))));let G:=ak (!(kM y.aZ)) (false=nF y/\a) (b);let w:Prop:=(RAL q1 (RA1 y.aZ G));let F:=aa [y.aZ.h] (aa [y.aZ.m] (aa [y.aZ.L] G));let e:Prop:=((ak y.st.bR (∃z:Unit,0=Cl y/\d) (∃z:Unit,l=Cl y/\d))/\(∀x:Unit,(Iv (Vm y=true/\wsE y))->(Iv (EO t)/\RA2 y.ru.p (RA1 y.aG (aa [Cl y] (ak i (aa [y.ru.p.ab] (aa [y.ru.p.aj] (aa [y.aG.h] (aa [y.aG.m] (aa [y.aG.L] (false=nF y/\a)))))) (ak q1 (Iv (EO o)/\aa [y.ru.q.ab] (aa [y.ru.q.aj] (aa [y.aZ.h] (aa [y.aZ.m] (aa [y.aZ.L] (aa [Cl y] (ak j (aa [y.ru.p.ab] (aa [y.ru.p.aj] (aa [y.aG.h] (aa [y.aG.m] (aa [y.aG.L] (aa [q1] (aa [y.ru.q.ab] (aa [y.ru.q.aj] (aa [y.aZ.h] (aa [y.aZ.m] (aa [y.aZ.L] (false=nF y/\a)))))))))))) (ak (!q1) (Iv True/\aa [y.aZ.h] (aa [y.aZ.m] (aa [y.aZ.L] (aa [y.ru.p.ab] (aa [y.ru.p.aj] (aa [y.aG.h] (aa [y.aG.m] (aa [y.aG.L] (aa [q1] (aa [y.ru.q.ab] (aa [y.ru.q.aj] (aa [y.aZ.h] (aa [y.aZ.m] (aa [y.aZ.L] (aa [q1] F))))))))))))))) (aa [y.ru.p.ab] (aa [y.ru.p.aj] (aa [y.aG.h] (aa [y.aG.m] (aa [y.aG.L] (aa [q1] (aa [y.ru.q.ab] (aa [y.ru.q.aj] (aa [y.aZ.h] (aa [y.aZ.m] (aa [y.aZ.L] (aa [q1] (b))))))))))))))))))))) (ak (!q1) (Iv True/\aa [y.aZ.h] (aa [y.aZ.m] (aa [y.aZ.L] (aa [y.ru.p.ab] (aa [y.ru.p.aj] (aa [y.aG.h] (aa [y.aG.m] (aa [y.aG.L] (aa [q1,q1] F))))))))) (aa [y.ru.p.ab] (aa [y.ru.p.aj] (aa [y.aG.h] (aa [y.aG.m] (aa [y.aG.L] (aa [q1,q1] (b)))))))))))))/\(∀D:Unit,I->ak (!y.st.ea) (ak (aC y.st.aT 0) (ak (aC y.st.size 0) (ak C (Iv True/\RA1 y.aX (kM y.aX=nF y/\a)) (false=nF y/\a)) (false=nF y/\a)) (false=nF y/\a)) (ak (!q1) (false=nF y/\a) (ak y.st.bR (false=nF y/\a) (ak (ay y.st.size 0) (false=nF y/\a) (ak A (false=nF y/\a) (ak (ay y.st.aT 0) (false=nF y/\a) (ak g (false=nF y/\a) (Iv (y.st.aQ.length<=1000)/\RAM y.st.aQ y.st.size (RA3 y.ru.s (xz y.ru (aa [q1] (ak k (Iv (EO n)/\aa [y.ru.p.ab] (aa [y.ru.p.aj] (aa [y.aX.h] (aa [y.aX.m] (aa [y.aX.L] (aa [u] (aa [y.st.aQ] (aa [y.st.size] (aa [y.ru.p.ab] (aa [y.ru.p.aj] (aa [y.aX.h] (aa [y.aX.m] (aa [y.aX.L] (aa [y.st.size] (mG (n,u)=nF y/\a))))))))))))))) (aa [y.st.aQ] (aa [y.st.size] (false=nF y/\a)))))))))))))))));let f:Prop:=(ak y.st.bR (ak (aH l 200) (false=nF y/\a) (e)) (e));(iY .i64 y.st.pos=true/\iY .i64 y.st.bu=true/\True/\True/\iY .i64 y.st.aT=true/\iY .i64 y.st.size=true/\aH (ag y.st.aQ) 9223372036854775807=true/\aH (ag y.aX.h) 9223372036854775807=true/\iY .i64 y.aX.m=true/\aH (ag y.aX.L) 9223372036854775807=true/\aH (ag y.aG.h) 9223372036854775807=true/\iY .i64 y.aG.m=true/\aH (ag y.aG.L) 9223372036854775807=true/\aH (ag y.aZ.h) 9223372036854775807=true/\iY .i64 y.aZ.m=true/\aH (ag y.aZ.L) 9223372036854775807=true/\True)->ak (ay y.st.bu 0) (false=nF y/\a) (ak v (false=nF y/\a) (ak B (false=nF y/\a) (ak (!y.st.bR) (ak (ay 200 l) (false=nF y/\a) (f)) (f))))
theorem K5 (ab:List aS) (a:List Bool) (F:Int->Bool) (k:Int):∀n,UX ab a n F k↔F k\/∃j:Nat,j<n/\a.getD j false/\(ab.getD j cX).op=1/\k=(j:Int)+1
 | 0=>by simp[UX]
 | n+1=>by
  have b:=K5 ab a F k n;have e:(⟨0,0,0,[]⟩:aS)=cX:=rfl;rw[UX,e];constructor
  ·intro h;by_cases c:a.getD n false/\(ab.getD n cX).op=1
   ·rw[Zac c] at h;grind
   ·grind
  ·intro h;split
   ·grind
   ·grind
theorem Iq (e:sj y) (hk:k<y.p.aj.length):Ψ (Oh y k) i↔(0<=i/\i<y.p.ab.length)/\(i=y.p.aj.getD k 0\/i≠0/\(kR y.p.ab (y.p.aj.getD k 0)).getD (i-1).toNat false/\(y.p.ab.getD (i-1).toNat cX).op=1):=by
 have⟨g,l,m,n,f,o⟩:=e.1;have hs:ZZ (Oh y k)=y.p.aj.getD k 0:=rfl;unfold Ψ;rw[K5];show _\/(∃j:Nat,j<y.p.ab.length/\(kR y.p.ab (y.p.aj.getD k 0)).getD j false/\(y.p.ab.getD j cX).op=1/\i=↑j+1)↔_
 constructor
 ·rintro(h | ⟨j,h1,a,b,rfl⟩)
  ·simp_all
  ·have:=(f.2 j h1).2.2 ω ω ω;exact⟨ω,.inr ⟨ω,by simp_all⟩⟩
 ·rintro⟨⟨h1,a⟩,h | ⟨b,c,d⟩⟩
  ·grind
  ·exact .inr ⟨(i-1).toNat,ω,c,d,ω⟩
theorem Η (b:sj y) (hk:k<y.p.aj.length) (h0:0<=i) (h1:i<s.length):(λj=>if j=i then false else We (Oh y k) s j)=We (Oh y k) (s.set i.toNat true):=by
 funext j;unfold We;cases a:Ψ (Oh y k) j with
 | false=>simp
 | true=>
  have:=((Iq b hk).1 a).1;grind
theorem QdR (y:B5) (n:Nat):We y (JF n)=Ψ y:=by
 grind [We,JF]
theorem Ι (d:sj y) {i:Nat} (hk:k<y.p.aj.length) (h:dwI y k (s,i)) (hi:i<(y.L.getD k fA).aB.length):let t:=(y.L.getD k fA).aB.getD i ⟨0,0,0,0,0,0,0,0,0,0,0⟩
  (We (Oh y k) s t.pc->fp t y.m->dwI y k (s.set t.pc.toNat true,i+1))/\(We (Oh y k) s t.pc=false\/fp t y.m=false->false=gx y):=by
 have⟨h1,f,j,l,c⟩:=h;have e:(y.L.getD k fA).aB.getD i ⟨0,0,0,0,0,0,0,0,0,0,0⟩=(y.L.getD k fA).aB[i]:=by grind
 rw[Zaq hi,Wc] at c;rw[e];generalize (y.L.getD k fA).aB[i]=t at c ⊢;refine⟨λa b=>⟨h1,f,hi,by grind,?_⟩,λa=>Io h1 ?_⟩
 ·have g:Ψ (Oh y k) t.pc:=by
   grind [We]
  have⟨⟨c1,c2⟩,_⟩:=(Iq d hk).1 g;rw[a,b,Η d hk c1 ω] at c;simpa using c
 ·grind
theorem Qq4 (y:n9) (B:sj y):Vr y:=by
 unfold Vr;have⟨D,O,Q⟩:=B;have⟨R,S,T,U,J,E⟩:=D;simp only[bI,bH,oM,sr,qg,av,cS,Zad,Zan,Zao,bm,cC];refine⟨D,λk1=>?_,λk1=>⟨λk2=>?_,λk2=>⟨λk3=>?_,λk3=>⟨⟨0,rfl,Zaj _,rfl⟩,λx I=>⟨λk4=>?_,λk4=>?_⟩⟩⟩⟩⟩
 ·grind [jV]
 ·grind [jV]
 ·grind [jV]
 ·have j:x<y.L.length:=ω;have g:x<y.p.aj.length:=ω;have l:(x:Int)<y.p.aj.length:=ω;have hi:aw .i64 ↑x 1=((x+1:Nat):Int):=ba ω ω;have u:(⟨false,0,0,0,0,0,0,0,0,0,0,[]⟩:dh)=fA:=rfl;have k:=Io j;have hu:tY y x=(!(!(y.L.getD x fA).done&&!wlN (y.L.getD x fA))&&fp (Ny (y.L.getD x fA)) y.m&&Wc y.m (y.L.getD x fA).aB (Ψ (Oh y x))):=rfl;rw[Vc] at hu;unfold Ny at hu;simp only[u];refine⟨ω,k4,λc=>k (by grind),λc=>(λ(n:tY y x=Wc y.m (y.L.getD x fA).aB (Ψ (Oh y x))->_)=>⟨λd=>⟨λe=>k ?a,λe=>n ?b⟩,λd=>n ?c⟩) ?m⟩
  case a=>rw[hu];simp only[aC] at e;simp_all
  case b=>
   rw[hu,c];have e:decide ((y.L.getD x fA).c0= -1/\(y.L.getD x fA).c1= -1/\(y.L.getD x fA).c2= -1/\(y.L.getD x fA).c3= -1/\(y.L.getD x fA).c4= -1/\(y.L.getD x fA).c5= -1/\(y.L.getD x fA).c6= -1/\(y.L.getD x fA).c7= -1/\(y.L.getD x fA).c8= -1/\(y.L.getD x fA).c9= -1):=by simpa [aC] using e
   rw[e];simp
  case c=>rw[hu,c,d];simp
  case m=>
   intro G;refine⟨⟨⟨J,(E x g).1,(E x g).2.1⟩,ZaF _,l⟩,ZaF _,ZaQ _,ω,x,⟨(JF y.p.ab.length,0),rfl,rfl,rfl,rfl,rfl,rfl,rfl,rfl,rfl,rfl,rfl,rfl,rfl,rfl,rfl,j,I.2,Zaj _,by unfold JF;simp,by rw[QdR];exact G⟩,λz hz=>⟨λk5=>?_,λk5=>⟨x+1,hi,⟨j,?_⟩,ω⟩⟩⟩
   ·have⟨s,i⟩:=z;have v:i<(y.L.getD x fA).aB.length:=ω;have⟨g1,g2⟩:=Ι B g hz v;have qo:s.length=y.p.ab.length:=hz.2.2.2.1;have A:aw .i64 ↑i 1=((i+1:Nat):Int):=by
     grind
    have F:=mg y.p.ab (uF (y.p,↑x));have P:uF (y.p,↑x)=y.p.aj.getD x 0:=rfl;have K:(⟨0,0,0,[]⟩:aS)=cX:=rfl;simp only[We,A] at g1 g2 ⊢;generalize (y.L.getD x fA).aB.getD i ⟨0,0,0,0,0,0,0,0,0,0,0⟩=t at*
    have o:=Iq B g (i:=t.pc);generalize Ψ (Oh y x) t.pc=W at*
    have r:W≠true->false=gx y:=λh=>g2 (.inl (by grind))
    by_cases h0:0<=t.pc/\t.pc<y.p.ab.length
    ·have H:cF .i64 t.pc 1=t.pc-1:=sQ ω ω;rw[H];refine⟨ω,k5,λh=>ω,λ_=>⟨λh=>ω,λ_=>⟨h0.1,ω,λa=>g2 (.inl (by rw[a];simp)),λa=>⟨λb=>g2 (.inr b),λb=>⟨ω,l,?_⟩⟩⟩⟩⟩;have q:W->(0<=t.pc/\t.pc<↑s.length/\∃z:List Bool×Nat,(s.length:Int)=z.1.length/\((i+1:Nat):Int)=z.2/\s.set t.pc.toNat true=z.1/\dwI y x z/\(y.L.getD x fA).aB.length-z.2<(y.L.getD x fA).aB.length-i):=λw=>⟨h0.1,ω,(s.set t.pc.toNat true,i+1),by grind,rfl,rfl,g1 (by grind) b,ω⟩
     refine⟨λc=>⟨λd=>r λw=>?_,λd=>⟨ω,ω,λe=>r λw=>?_,λe=>⟨ω,ω,λf=>r λw=>?_,λf=>q (o.2 ⟨h0,.inr ⟨d,e,f⟩⟩)⟩⟩⟩,λc=>q (o.2 ⟨h0,.inl c⟩)⟩
     all_goals have w:=(o.1 w).2;grind
    ·have C:=r λw=>h0 (o.1 w).1
     exact⟨ω,k5,λ_=>C,λa=>⟨λ_=>C,λb=>absurd ⟨a,b⟩ h0⟩⟩
   ·have M:=hz.2.2.2.2;have N:z.2=(y.L.getD x fA).aB.length:=by have:=hz.2.2.1;omega
    grind [Wc,fI]
 ·grind [jV]
def Qjp (a:Ok gG):Ok Vo:=okZ [Ve,Qi3,Vf,NA] f96 QqP ⟨Qi6 a,Qi7,KT,Qbb⟩ Qq4
theorem Qjq (b:Ok gG):Ok Ω:=okZ (V:=Qbh) [Vo,Ga] f53 (λ_=>ew ()) ⟨Qjp b,Qam⟩ λy a=>by
 have a:sj y.v:=a;unfold Qbh;have:aC (ag y.h) 0=decide (y.h=[]):=by unfold aC ag;rw[decide_eq_decide];simp
 grind [Wd,B9]
def Qjr (a:Ok gG):Ok Qjk:=okZ (V:=KU) [Ω] f31 (λ_=>ew ()) (Qjq a) Qjb
def Qjs:Ok Qjl:=okZ (V:=KW) [] f32 (λ_=>ew ()) trivial Qjd
def edP (d:Bool) (z:Int) (t:dh):Prop:=(-1<=t.c0/\t.c0<=z/\(d\/t.c0= -1))/\(-1<=t.c1/\t.c1<=z/\(d\/t.c1= -1))/\(-1<=t.c2/\t.c2<=z/\(d\/t.c2= -1))/\(-1<=t.c3/\t.c3<=z/\(d\/t.c3= -1))/\(-1<=t.c4/\t.c4<=z/\(d\/t.c4= -1))/\(-1<=t.c5/\t.c5<=z/\(d\/t.c5= -1))/\(-1<=t.c6/\t.c6<=z/\(d\/t.c6= -1))/\(-1<=t.c7/\t.c7<=z/\(d\/t.c7= -1))/\(-1<=t.c8/\t.c8<=z/\(d\/t.c8= -1))/\(-1<=t.c9/\t.c9<=z/\(d\/t.c9= -1))
theorem Qq5 (y:DnY) (j:y.l.length<=1000):Vs y:=by
 unfold Vs;simp only[bI,bH,oM,qg,av,cS,Zad,Zan,Zao];refine⟨λk=>?_,λk=>⟨⟨0,rfl,Zaj _,rfl⟩,λx i=>⟨λh=>?_,λh=>?_⟩⟩⟩
 ·grind [x0,nQ]
 ·have c:x<(nQ y).l.length:=by show x<y.l.length;omega
  have g:ND (nQ y) x↔(y.l.getD x fA).aB.length=0/\edP (y.l.getD x fA).done y.z (y.l.getD x fA):=by
   show(decide ((y.l.getD x fA).aB.length=0)&&edC (y.l.getD x fA).done y.z (Ny (y.l.getD x fA)))↔_
   simp[edC,Ny,nP,edP,Zdc]
  have d:¬((y.l.getD x fA).aB.length=0/\edP (y.l.getD x fA).done y.z (y.l.getD x fA))->false=fY (nQ y):=λh=>Qbd c (by grind)
  have a:((y.l.getD x fA).aB.length=0/\edP (y.l.getD x fA).done y.z (y.l.getD x fA))->∃z:Nat,aw .i64 ↑x 1=↑z/\(z<=y.l.length/\lK (nQ y) z)/\y.l.length-z<y.l.length-x:=λh=>⟨x+1,ba ω ω,⟨c,by grind [lK]⟩,ω⟩
  have f:(⟨false,0,0,0,0,0,0,0,0,0,0,[]⟩:dh)=fA:=rfl;simp only[f];generalize y.l.getD x fA=t at*
  unfold edP at d a;have e:∀b:Bool,(aC t.c0 (-1)&&(aC t.c1 (-1)&&(aC t.c2 (-1)&&(aC t.c3 (-1)&&(aC t.c4 (-1)&&(aC t.c5 (-1)&&(aC t.c6 (-1)&&(aC t.c7 (-1)&&(aC t.c8 (-1)&&aC t.c9 (-1))))))))))=b↔decide (t.c0= -1/\t.c1= -1/\t.c2= -1/\t.c3= -1/\t.c4= -1/\t.c5= -1/\t.c6= -1/\t.c7= -1/\t.c8= -1/\t.c9= -1)=b:=λb=>by simp[aC]
  simp only[e,ZaP,Zbi];cases ht:t.done<;>rw[ht] at d a<;>simp only[ZaE,Zdv,true_or,Zai,ZbV,Zb0] at d a ⊢
  all_goals
   with_reducible repeat' first | apply And.intro | intro _
   all_goals first | omega | exact d ω | exact a ω | exact trivial
 ·grind [x0,nQ]
def Qju:Ok Vp:=okZ [Vf] f33 QqS KT Qq5
theorem Qjv {z l:Int} (a: -9223372036854775808<=i/\i<=9223372036854775807) (hz:0<=z/\z<=500) (hl:0<=l/\l<=1099511627776):aC (aw .i64 (aw .i64 i z) 1) l=aC i (cF .i64 (cF .i64 l z) 1):=by
 grind [aw,IntKind.wrap,IntKind.bits]
theorem Qq6 (y:yI) (i:QdN y):Vt y:=by
  have⟨⟨h1,d,C,e,D⟩,F⟩:=i;have f:nF y=(Vm y&&wsM y&&Θ y):=aI _;unfold Vt;have g:fY (nQ ⟨⟨y.ru.s,y.ru.p,y.ru.q,[]⟩,y.st.aQ,y.st.size⟩)=fY ⟨y.st.aQ,ag y.ru.s.r,y.st.size⟩:=by
    grind [nQ]
  simp only[g,qg,lF,Zai,Zal,ZaZ];rintro⟨j,k,a,l,-⟩;have a:=zD.1 a;have O:Cl y=if y.st.bR=true then 0 else cF .i64 y.st.pos y.st.bu:=rfl
  have b:nN y.ru=!(seq y.ru.s.c []):=rfl;have M:y.st.size<0\/500<y.st.size\/y.st.bu<0\/1099511627776<y.st.bu\/aC (aw .i64 (aw .i64 y.st.aT y.st.size) 1) y.st.bu=aC y.st.aT (cF .i64 (cF .i64 y.st.bu y.st.size) 1):=by
    grind [Qjv]
  have hH:Vm y=!(ay y.st.bu 0||ay y.st.pos y.st.bu||ay 1099511627776 y.st.pos||!(y.st.bR==ay 200 (cF .i64 y.st.pos y.st.bu))):=rfl;have u:wsM y=(mG (⟨⟨y.ru.p,y.aG.m,y.aG.L⟩,y.aG.h⟩,Cl y)&&(if nN y.ru=true then mG (⟨⟨y.ru.q,y.aZ.m,y.aZ.L⟩,y.aZ.h⟩,Cl y) else kM y.aZ)):=rfl;have v:Θ y=(if y.st.ea=false then aC y.st.aT 0&&aC y.st.size 0&&aC (ag y.st.aQ) 0&&kM y.aX
   else nN y.ru&&!y.st.bR&&aH 0 y.st.size&&aH y.st.size 500&&aH 0 y.st.aT&&aC y.st.aT (cF .i64 (cF .i64 y.st.bu y.st.size) 1)&&fY ⟨y.st.aQ,ag y.ru.s.r,y.st.size⟩&&mG (⟨⟨y.ru.p,y.aX.m,y.aX.L⟩,y.aX.h⟩,aw .i64 (aw .i64 y.st.size 1) (Cl y))):=rfl
  rw[b] at u v;have t:(!(seq y.ru.s.c []))->sj ⟨y.ru.q,y.aZ.m,y.aZ.L⟩:=λh=>e (b.trans h)
  have n:sj ⟨y.ru.p,y.aG.m,y.aG.L⟩:=h1;have o:sj ⟨y.ru.p,y.aX.m,y.aX.L⟩:=d;have H:wsE y:=a;unfold EO;generalize Cl y=N at*
  generalize mG (⟨⟨y.ru.p,y.aG.m,y.aG.L⟩,y.aG.h⟩,N)=A at*
  generalize mG (⟨⟨y.ru.q,y.aZ.m,y.aZ.L⟩,y.aZ.h⟩,N)=B at*
  generalize mG (⟨⟨y.ru.p,y.aX.m,y.aX.L⟩,y.aX.h⟩,aw .i64 (aw .i64 y.st.size 1) N)=Z at*
  generalize fY ⟨y.st.aQ,ag y.ru.s.r,y.st.size⟩=E at*
  generalize kM y.aZ=G at*
  generalize kM y.aX=I at*
  generalize (!(seq y.ru.s.c []))=J at*
  generalize cF .i64 y.st.pos y.st.bu=K at*
  generalize aC (aw .i64 (aw .i64 y.st.aT y.st.size) 1) y.st.bu=z at*
  generalize aC y.st.aT (cF .i64 (cF .i64 y.st.bu y.st.size) 1)=e2 at*
  clear h1 d e i j k a l;simp only[f];generalize Vm y=w at*
  generalize wsM y=x at*
  clear f b g
  with_reducible repeat' first | assumption | apply And.intro | intro _
  all_goals grind
def Qjw (a:Ok gG):Ok Vq:=okZ [Qjk,Qjl,Vp] f11 QqV ⟨Qjr a,Qjs,Qju⟩ Qq6
def Wf (y:vu):Prop:=y.h.length<=1000000/\lsP y.L
def Qjx (v:AV D.E) (s:St D.E):C vu:=az (asAgg v) λcs=>match cs with
 | [h,m,l]=>xZ h m l s
 | _=>.fail
structure jB where
 st:HB
 aX:vu
 aG:vu
 aZ:vu
def Vu (y:jB):AV D.E:=Qh2 y.st (KV y.aX) (KV y.aG) (KV y.aZ)
def Κ (x:AV D.E) (s:St D.E):C jB:=az (asAgg x) λcs=>match cs with
  | [p,l,g,o,e,z,n,h1,p1,h,b,p2,i,f,p3,j]=>aL (cA p) λ_ p=>aL (cA l) λ_ l=>aL (x_ g) λg _=>aL (x_ o) λo _=>aL (cA e) λ_ e=>aL (cA z) λ_ z=>az (aU D s 2 n) λn=>az (xZ h1 p1 h s) λc=>az (xZ b p2 i s) λa=>az (xZ f p3 j s) λd=>.ret ⟨⟨p,l,g,o,e,z,n⟩,c,a,d⟩
  | _=>.fail
def Ir (y:jB):Prop:=lsP y.st.aQ/\Wf y.aX/\Wf y.aG/\Wf y.aZ
def mH (p:eu) (k:Nat):List dh:=(p.aj.take k).map nh
def Vv:br D:=bL 47 eu QhX lN (λy=>[yc y]) λy=>.agg [.num .i64 0,.list 2 (mH y y.aj.length)]
def Qq7 (y:Vv.Y):cO D:=⟨[],[],[(58,⟨Nat,[],λk=>[(1,.ptr 0 0),(2,.ptr 1 0),(3,.ptr 2 0),(4,QsE k)],[],λk=>[Od y,(1,.cells [.num .i64 0,.dd] 35 false),(2,.cells [.num .i64 0,.grow 2 (mH y k) 3] 35 false),(3,.tok 2 128)],4,λk=>k<=(eu.aj y).length,λk=>(eu.aj y).length-k⟩)],[],1,[]⟩
def qN (p:eu):vu:=⟨[],0,mH p p.aj.length⟩
def Μ:br D:=bL 18 eu QhX lN (λy=>[yc y]) λy=>.agg (KV (qN y))
def Wg:vu:=⟨[],0,[]⟩
def Ν (y:lG) (n:Int):jB:=⟨⟨n,n,false,false,0,0,[]⟩,Wg,qN y.p,if nN y=true then qN y.q else Wg⟩
def NJ:br D:=⟨7,lG,λa s=>match a with
 | [r]=>NH r s
 | _=>.fail,λy=>lN y.p/\lN y.q,λ_=>[.ptr 0 0],KZ,λy=>Vu (Ν y 0),KZ,1,1⟩
def Ο (p:eu):Prop:=Xm p.ab/\Rb p.ab/\p.aj.length<=1000/\∀k:Nat,k<p.aj.length->0<=p.aj.getD k 0/\p.aj.getD k 0<p.ab.length
def dlP (p:eu) (L:List dh):Prop:=L.length=p.aj.length/\∀l∈L,l.aB.length<=1000000/\∀t∈l.aB,K0 p.ab t
structure Cm where
 p:eu
 m:Int
 L:List dh
 r:Int
 n:Int
def NK (n:Int):Int:=if n<0 then 0 else n
def Ρ (n:Int):Int:=if 4<NK n then 4 else NK n
def lC (y:Cm) (k:Nat):E':=⟨y.p,y.L.getD k Bs,y.m,false⟩
def ER (y:Cm) (k i:Nat):List aK:=((fJ (lC y k)).2.rd.take i).foldl (λo t=>if Xv y.p.ab y.r t=true then pY o (nxT t) else o) []
def dsA (y:Cm) (k:Nat):aK:=⟨y.p.aj.getD k 0,-1,-1,-1,-1,-1,-1,-1,-1,-1,-1⟩
def Wh (y:Cm) (k:Nat):List aK:=if (fJ (lC y k)).2.w.done=true then ER y k (fJ (lC y k)).2.rd.length else pY (ER y k (fJ (lC y k)).2.rd.length) (dsA y k)
def dsW (y:Cm) (k:Nat):dh:={ (fJ (lC y k)).2.w with aB:=Wh y k }
def Is (y:Cm) (k:Nat):List dh:=(List.range k).map (dsW y)
def Vw (y:Cm):Int×List dh:=(aw .i64 y.m (Ρ y.n),Is y y.L.length)
def dsP (y:Cm):Prop:=Ο y.p/\dlP y.p y.L
def NM:br D:=bL 49 Cm (λa s=>match a with
 | [p,m,r,n]=>az (sS p s) λp=>aL (QdK m s) λm l=>aL (cA r) λ_ r=>aL (cA n) λ_ n=>.ret ⟨p,m,l,r,n⟩
 | _=>.fail) dsP (λy=>[yc y.p,.agg [QsE y.m,.list 2 y.L],.int .i32 y.r,QsE y.n]) λy=>.agg [QsE (Vw y).1,.list 2 (Vw y).2]
def lsG (b n:Nat) (w:dh) (o:List aK):List (Nat×AO D.E):=[(b,.cells [.bool w.done,.int .i64 w.c0,.int .i64 w.c1,.int .i64 w.c2,.int .i64 w.c3,.int .i64 w.c4,.int .i64 w.c5,.int .i64 w.c6,.int .i64 w.c7,.int .i64 w.c8,.int .i64 w.c9,.grow 1 o n] 128 false),(n,.tok 1 187)]
def dsM (y:Cm) (k:Nat):List (Nat×AO D.E):=[(3,.cells [.int .i64 (Vw y).1,.grow 2 (Is y k) 4] 35 false),(4,.tok 2 128)]
def Qrb (y:NM.Y):cO D:=⟨[],[],[(250,⟨Nat,[2,4,5,8,9],λk=>[(10,QsE k)],[0,1,2],λk=>dsM y k,5,λk=>k<=(Cm.L y).length,λk=>(Cm.L y).length-k⟩)],
  [(3,⟨Unit,[2,4,5,8],λ_=>[(3,QsE (NK (Cm.n y)))],[0,1,2],λ_=>[],3,λ_=>True,λ_=>0⟩),
   (7,⟨Unit,[2,4,5,8],λ_=>[(3,QsE (Ρ (Cm.n y)))],[0,1,2],λ_=>[],3,λ_=>True,λ_=>0⟩)],1,
  [(64074,⟨Nat,λk=>⟨Nat,[2,4,5,8,9,10,11,12],λi=>[(13,QsE i)],[0,1,2,3,4],λi=>lsG 5 6 (fJ (lC y k)).2.w (ER y k i),7,λi=>i<=(fJ (lC y k)).2.rd.length,λi=>(fJ (lC y k)).2.rd.length-i⟩,none⟩),
   (16019,⟨Nat,λk=>⟨Unit,[2,4,5,8,9,10,11],λ_=>[],[0,1,2,3,4],λ_=>lsG 5 6 (fJ (lC y k)).2.w (Wh y k),7,λ_=>True,λ_=>0⟩,none⟩)]⟩
structure DeY where
 p:eu
 m:Int
 L:List dh
def mI (y:DeY) (k:Nat):List dh:=(List.range k).map λk=>(fJ ⟨y.p,y.L.getD k Bs,y.m,true⟩).2.w
def Qbk (y:DeY):Prop:=Ο y.p/\dlP y.p y.L
def ES:br D:=bL 93 DeY (λa s=>match a with
 | [p,m]=>az (sS p s) λp=>aL (QdK m s) λm l=>.ret ⟨p,m,l⟩
 | _=>.fail) Qbk (λy=>[yc y.p,.agg [QsE y.m,.list 2 y.L]]) λy=>.list 2 (mI y y.L.length)
def Qjz (y:ES.Y):cO D:=⟨[],[],[(58,⟨Nat,[2,3],λk=>[(5,.grow 2 (mI y k) 2),(6,QsE k)],[0,1],λ_=>[(2,.tok 2 128)],3,λk=>k<=(DeY.L y).length,λk=>(DeY.L y).length-k⟩)],[],1,[]⟩
def It:Nat->By->List Gt->By×List Gt
 | 0,h,l=>(h,l)
 | n+1,h,l=>if h=[]\/gF h=true then(h,l) else It n (h.drop (jx h).2.toNat) (l++[jx h])
def yK (y:By×Int):By×List Gt:=It (y.1.length+2) (y.1++[b8 y.2]) []
def Vx:br D:=bL 48 (By×Int) (λa s=>match a with
 | [h,c]=>az (aU D s 0 h) λh=>aL (cA c) λ_ c=>.ret ((h:By),c)
 | _=>.fail) (λy=>y.1.length<=1000000) (λy=>[.list 0 y.1,.int .u8 y.2]) λy=>.tuple [.list 0 (yK y).1,.list 13 (yK y).2]
def hbI (y:By×Int) (x:By×List Gt):Prop:=x.1.length<=y.1.length+1/\x.2.length+x.1.length<=y.1.length+1/\It (x.1.length+1) x.1 x.2=yK y
def Qrd (y:Vx.Y):cO D:=⟨[],[],[(60,⟨By×List Gt,[],λx=>[(6,.list 0 x.1),(7,.grow 13 x.2 0)],[],λ_=>[(0,.tok 13 125)],1,hbI y,λx=>x.1.length⟩)],[],1,[]⟩
structure NN where
 p:eu
 x:vu
 c:Int
def B_ (y:NN):List Gt:=(yK (y.x.h,y.c)).2
def yg (y:NN) (i:Nat):Int×List dh:=((B_ y).take i).foldl (λM g=>Vw ⟨y.p,M.1,M.2,g.1,g.2⟩) (y.x.m,y.x.L)
def tl (y:NN):vu:=⟨(yK (y.x.h,y.c)).1,(yg y (B_ y).length).1,(yg y (B_ y).length).2⟩
def qP (p:eu) (x:vu):Prop:=Ο p/\dlP p x.L/\x.h.length<=1000000
def NO:br D:=bL 20 NN (λa s=>match a with
 | [p,x,c]=>az (sS p s) λp=>az (Qjx x s) λx=>aL (cA c) λ_ c=>.ret ⟨p,x,c⟩
 | _=>.fail) (λy=>qP y.p y.x) (λy=>[yc y.p,.agg (KV y.x),.int .u8 y.c]) λy=>.agg (KV (tl y))
def Qrf (y:NO.Y):cO D:=⟨[],[],[(122,⟨Nat,[3,6,7,8,9],λi=>[(10,QsE i)],[0,2],λi=>[(3,.cells [QsE (yg y i).1,.list 2 (yg y i).2] 35 false)],4,λi=>i<=(B_ y).length,λi=>(B_ y).length-i⟩)],[],1,[]⟩
structure Oj where
 p:eu
 x:vu
def yh (y:Oj) (i:Nat):Int×List dh:=(y.x.h.take i).foldl (λM _=>Vw ⟨y.p,M.1,M.2,65533,1⟩) (y.x.m,y.x.L)
def yL (y:Oj):List dh:=mI ⟨y.p,(yh y y.x.h.length).1,(yh y y.x.h.length).2⟩ (yh y y.x.h.length).2.length
def Vy:br D:=bL 50 Oj (λa s=>match a with
 | [p,x]=>az (sS p s) λp=>az (Qjx x s) λx=>.ret ⟨p,x⟩
 | _=>.fail) (λy=>qP y.p y.x) (λy=>[yc y.p,.agg (KV y.x)]) λy=>.list 2 (yL y)
def Qrh (y:Vy.Y):cO D:=⟨[],[],[(58,⟨Nat,[2,3,5],λi=>[(6,QsE i)],[0,1],λi=>[(2,.cells [QsE (yh y i).1,.list 2 (yh y i).2] 35 false)],3,λi=>i<=(Oj.x y).h.length,λi=>(Oj.x y).h.length-i⟩)],[],1,[]⟩
structure DlY where
 r:lG
 x:jB
def Qrj (a:List (AV D.E)) (s:St D.E):C DlY:=match a with
 | [r,x]=>az (NH r s) λr=>az (Κ x s) λx=>.ret ⟨r,x⟩
 | _=>.fail
def Qbl (a:List (AV D.E)) (s:St D.E):C jB:=match a with
 | [x]=>Κ x s
 | _=>.fail
def iz (r:lG):vu:=if nN r=true then qN r.q else Wg
def NP (y:DlY):jB:=⟨{ y.x.st with bu:=y.x.st.pos,bR:=false },y.x.aX,qN y.r.p,iz y.r⟩
def Vz:br D:=⟨24,DlY,Qrj,λy=>lN y.r.p/\lN y.r.q,λy=>[.ptr 0 0,Vu y.x],λy=>KZ y.r,λy=>Vu (NP y),λy=>KZ y.r,1,1⟩
def tkF (n:Nat):List (Nat×AO D.E):=[(n,.tok 4 67)]
def NQ:br D:=⟨22,jB,Qbl,λy=>y.st.aQ.length<=1000,λy=>[Vu y],λ_=>[],λy=>.grow 4 (kG y.st.aT y.st.aQ) 0,λ_=>tkF 0,0,1⟩
def Qrl (y:NQ.Y):cO D:=⟨[],[],[(58,⟨Nat,[1],λk=>[(3,.grow 4 (ju (jB.st y).aT (jB.st y).aQ k) 1),(4,QsE k)],[0],λ_=>tkF 1,2,λk=>k<=(jB.st y).aQ.length,λk=>(jB.st y).aQ.length-k⟩)],[],11,[]⟩
def NR (x:jB):jB:=⟨⟨x.st.pos,x.st.bu,x.st.bR,false,0,0,[]⟩,Wg,x.aG,x.aZ⟩
def VA:br D:=bL 23 jB Qbl (λ_=>True) (λy=>[Vu y]) λy=>Vu (NR y)
structure LbY where
 n:Int
 g:Bool
 c:Int
def lbN (y:LbY):Int:=if y.c=10 then 0 else if y.g=true then y.n else if 200<=y.n then 0 else aw .i64 y.n 1
def lbG (y:LbY):Bool:=if y.c=10 then false else if y.g=true then true else decide (200<=y.n)
def E_ (y:LbY):Int:=if y.c=10 then(if y.g=true then 5 else 2) else if y.g=true then 4 else if 200<=y.n then 3 else 1
def Τ:br D:=bL 19 LbY (λa _=>match a with
 | [l,c]=>az (asAgg l) λcs=>match cs with
  | [n,g]=>aL (cA n) λ_ n=>aL (x_ g) λg _=>aL (cA c) λ_ c=>.ret ⟨n,g,c⟩
  | _=>.fail
 | _=>.fail) (λ_=>True) (λy=>[.agg [QsE y.n,.bool y.g],.int .u8 y.c]) λy=>.tuple [.agg [QsE (lbN y),.bool (lbG y)],QsE (E_ y)]
structure yM where
 r:lG
 x:jB
 n:Int
def Υ (y:yM):Int:=aw .i64 (aw .i64 y.x.st.size 1) y.n
def x3 (y:yM):Bool:=y.x.st.ea&&((yL ⟨y.r.q,y.x.aZ⟩).getD 0 Bs).done&&aH (Υ y) 500
def QdV (y:yM):jB:={ y.x with st:={ y.x.st with aQ:=yL ⟨y.r.p,y.x.aX⟩,size:=Υ y },aX:=tl ⟨y.r.p,y.x.aX,10⟩ }
def QdW (y:yM):jB:={ y.x with st:={ y.x.st with aT:=y.x.st.bu,size:=y.n,aQ:=yL ⟨y.r.p,y.x.aG⟩ } }
def Qrp (y:yM):jB:={ y.x with st:={ y.x.st with aT:=y.x.st.bu,size:=y.n,aQ:=yL ⟨y.r.p,y.x.aG⟩,ea:=true },aX:=tl ⟨y.r.p,y.x.aG,10⟩ }
def Iu (y:yM):jB:=NP ⟨y.r,if x3 y=true then QdV y else if nN y.r=true then Qrp y else NR (QdW y)⟩
def x4 (y:yM):List oD:=if x3 y=true then[] else if nN y.r=true then kG y.x.st.aT y.x.st.aQ else kG y.x.st.aT y.x.st.aQ++kG y.x.st.bu (yL ⟨y.r.p,y.x.aG⟩)
def iA (r:lG) (x:jB):Prop:=lN r.p/\lN r.q/\qP r.p x.aG/\(nN r->r.q.aj.length=1/\qP r.q x.aZ)/\(x.st.ea->nN r/\qP r.p x.aX)/\x.st.aQ.length<=1000
def Χ:br D:=⟨21,yM,λa s=>match a with
 | [r,x,n]=>az (NH r s) λr=>az (Κ x s) λx=>aL (cA n) λ_ n=>.ret ⟨r,x,n⟩
 | _=>.fail,λy=>iA y.r y.x,λy=>[.ptr 0 0,Vu y.x,QsE y.n],λy=>KZ y.r,λy=>.tuple [Vu (Iu y),.list 4 (x4 y)],λy=>KZ y.r,1,1⟩
structure Wi where
 r:lG
 x:jB
 c:Int
def dbN (y:Wi):Int:=cF .i64 y.x.st.pos y.x.st.bu
def ϊ (y:Wi):LbY:=⟨if y.x.st.bR=true then 0 else dbN y,y.x.st.bR,y.c⟩
def NS (y:Wi):jB:={ y.x with st:={ y.x.st with pos:=aw .i64 y.x.st.pos 1 } }
def db1 (y:Wi):jB:={ NS y with aG:=tl ⟨y.r.p,y.x.aG,y.c⟩,aZ:=if nN y.r=true then tl ⟨y.r.q,y.x.aZ,y.c⟩ else y.x.aZ,aX:=if y.x.st.ea=true then tl ⟨y.r.p,y.x.aX,y.c⟩ else y.x.aX }
def db3 (y:Wi):jB:={ NR (NS y) with st:={ (NR (NS y)).st with bR:=true },aG:=qN y.r.p,aZ:=iz y.r }
def cM (y:Wi):jB:=if E_ (ϊ y)=1 then db1 y else if E_ (ϊ y)=2 then Iu ⟨y.r,NS y,dbN y⟩ else if E_ (ϊ y)=3 then db3 y else if E_ (ϊ y)=5 then NP ⟨y.r,NS y⟩ else NS y
def Ol (y:Wi):List oD:=if E_ (ϊ y)=2 then x4 ⟨y.r,NS y,dbN y⟩ else if E_ (ϊ y)=3 then kG y.x.st.aT y.x.st.aQ++[⟨2,y.x.st.bu,0,0,0,0,0,0,0,0,0,0,0⟩] else[]
def VB:br D:=⟨8,Wi,λa s=>match a with
 | [r,x,c]=>az (NH r s) λr=>az (Κ x s) λx=>aL (cA c) λ_ c=>.ret ⟨r,x,c⟩
 | _=>.fail,λy=>iA y.r y.x,λy=>[.ptr 0 0,Vu y.x,.int .u8 y.c],λy=>KZ y.r,λy=>.tuple [Vu (cM y),.list 4 (Ol y)],λy=>KZ y.r,1,1⟩
def Qrs (y:VB.Y):cO D:=⟨[],[],[],[(7,⟨Unit,[0,2,4,6,8],λ_=>[],[0,1,2],λ_=>[(3,.cells [QsE (ϊ y).n,.bool (ϊ y).g] 76 false)],4,λ_=>True,λ_=>0⟩)],1,[]⟩
structure Om where
 s:cG
 l:List l8
 f:Int
 b:Int
variable {l:List aK} {Z:aK}
def Fa (y:Om):By:=Nk ⟨y.l,300⟩
def K8 (y:Om):lG:=⟨(nX y.s).s,(nX y.s).p,(nX y.s).q,[]⟩
def gK (y:Om) (k:Nat):jB:=((Fa y).take k).foldl (λx c=>cM ⟨K8 y,x,(c.toNat:Int)⟩) (Ν (K8 y) 0)
def tuP (y:Om):Prop:=y.l.length<=1000000000000/\∀r∈y.l,r.piece.length<=1000000000000
def tuC:br D:=bL 3 Om (λ_ _=>.fail) tuP (λy=>[Eo y.s,.list 19 y.l,QsE y.f,QsE y.b]) λ_=>.lit true
def tuD (y:Om):List (Nat×AO D.E):=ruO 25 (iF y.s) (b5 (iF y.s))::Wa (nX y.s)
def tuX (x:jB):Nat×AO D.E:=(26,.cells (c_ (Vu x)) 39 false)
def tuO (y:tuC.Y):cO D:=⟨[],[],[(506,⟨Nat,[2,3],λk=>[(9,.ptr 0 0),(10,.ptr 25 0),(12,.list 0 (Fa y)),(13,.ptr 26 0),(14,QsE k)],[],λk=>tuX (gK y k)::tuD y,28,λk=>k<=(Fa y).length/\xK (Om.s y),λk=>(Fa y).length-k⟩)],
 [(127,⟨jB,[],λ_=>[(9,.ptr 0 0),(10,.ptr 25 0),(13,.ptr 26 0)],[],λx=>tuX x::tuD y,28,λx=>Ir x/\xK (Om.s y),λ_=>0⟩)],1,[]⟩
def tuT:tI:=[Nn,Uz,Uy,QdE,NJ,VB,Λ,Vq]
def QjC (y:Om):Prop:=let j:=nX y.s;let q1:=(Fa y).length;let i:=b5 (iF y.s);let B:=eu.mk i.ab i.st;let C:=eu.mk i.cc i.cs;let k:=uD (ZO.mk y.f 0 8);let v:=ite (3<y.s.r.length) (List.take 3 y.s.r) y.s.r;let w:=lG.mk (cG.mk v y.s.c) B C [];let D:=ite (nN w) (qN C) Wg;let E:=λp:Prop=>RAM y.l (300:Int) p;let g:=λp:Prop=>RAS v y.s.c i.ab i.st i.cc i.cs (!(seq y.s.c [])) p;ak (xK y.s) (Iv (UA (y.s,true))/\RA3 y.s (Iv (Nl (ye.mk y.l 300))/\E (Iv (lN B/\lN C)/\g ((∃z:Nat,aa [y.f,y.b] (Nk (ye.mk y.l 300)=Fa y/\0=(z:Int)/\0=(gK y z).st.pos/\0=(gK y z).st.bu/\false=(gK y z).st.bR/\false=(gK y z).st.ea/\0=(gK y z).st.aT/\0=(gK y z).st.size/\[]=(gK y z).st.aQ/\[]=(gK y z).aX.h/\0=(gK y z).aX.m/\[]=(gK y z).aX.L/\[]=(gK y z).aG.h/\0=(gK y z).aG.m/\mH B i.st.length=(gK y z).aG.L/\D.h=(gK y z).aZ.h/\D.m=(gK y z).aZ.m/\D.L=(gK y z).aZ.L/\g (qU j ((Iv (z<=q1/\xK y.s))))))/\(∀x:Nat,let a:=gK y x;let o:=ay (x:Int) (ag (Fa y));let n:=((gt 0 (Fa y) (x:Int).toNat).toNat:Int);let e:=cM (Wi.mk w a n);(Iv (x<=q1/\xK y.s))->ak o (aH 0 (x:Int)/\o/\Iv (iA w a)/\aa [a.st.pos,a.st.bu] (aa [a.st.bR,a.st.ea] (aa [a.st.aT,a.st.size] (aa [a.st.aQ] (aa [a.aX.h] (aa [a.aX.m] (aa [a.aX.L] (aa [a.aG.h] (aa [a.aG.m] (aa [a.aG.L] (aa [a.aZ.h] (aa [a.aZ.m] (aa [a.aZ.L] (aa [n] (aa [v] (aa [y.s.c] (aa [i.ab] (aa [i.st] (aa [i.cc] (aa [i.cs] (aa [!(seq y.s.c [])] (aa [a.st.pos,a.st.bu] (aa [a.st.bR,a.st.ea] (aa [a.st.aT,a.st.size] (aa [a.st.aQ] (aa [a.aX.h] (aa [a.aX.m] (aa [a.aX.L] (aa [a.aG.h] (aa [a.aG.m] (aa [a.aG.L] (aa [a.aZ.h] (aa [a.aZ.m] (aa [a.aZ.L] (aa [n] (∃z:Nat,aa [y.f,y.b] (aa [Fa y] (aw .i64 (x:Int) 1=(z:Int)/\e.st.pos=(gK y z).st.pos/\e.st.bu=(gK y z).st.bu/\e.st.bR=(gK y z).st.bR/\e.st.ea=(gK y z).st.ea/\e.st.aT=(gK y z).st.aT/\e.st.size=(gK y z).st.size/\e.st.aQ=(gK y z).st.aQ/\e.aX.h=(gK y z).aX.h/\e.aX.m=(gK y z).aX.m/\e.aX.L=(gK y z).aX.L/\e.aG.h=(gK y z).aG.h/\e.aG.m=(gK y z).aG.m/\e.aG.L=(gK y z).aG.L/\e.aZ.h=(gK y z).aZ.h/\e.aZ.m=(gK y z).aZ.m/\e.aZ.L=(gK y z).aZ.L/\g (qU j ((Iv ((z<=q1/\xK y.s)/\(q1-z)<(q1-x))))))))))))))))))))))))))))))))))))))))))) ((Iv (Ux (ZO.mk y.f 0 8))/\aa ([y.f,0,8]:List Int) (ak (aC k 0) (∃z:jB,aw .i64 a.st.pos y.b=z.st.pos/\a.st.bu=z.st.bu/\a.st.bR=z.st.bR/\a.st.ea=z.st.ea/\a.st.aT=z.st.aT/\a.st.size=z.st.size/\a.st.aQ=z.st.aQ/\a.aX.h=z.aX.h/\a.aX.m=z.aX.m/\a.aX.L=z.aX.L/\a.aG.h=z.aG.h/\a.aG.m=z.aG.m/\a.aG.L=z.aG.L/\a.aZ.h=z.aZ.h/\a.aZ.m=z.aZ.m/\a.aZ.L=z.aZ.L/\g (qU j ((Iv (Ir z/\xK y.s))))) (ak (aC k 1) (∃z:jB,a.st.pos=z.st.pos/\aw .i64 a.st.bu y.b=z.st.bu/\a.st.bR=z.st.bR/\a.st.ea=z.st.ea/\a.st.aT=z.st.aT/\a.st.size=z.st.size/\a.st.aQ=z.st.aQ/\a.aX.h=z.aX.h/\a.aX.m=z.aX.m/\a.aX.L=z.aX.L/\a.aG.h=z.aG.h/\a.aG.m=z.aG.m/\a.aG.L=z.aG.L/\a.aZ.h=z.aZ.h/\a.aZ.m=z.aZ.m/\a.aZ.L=z.aZ.L/\g (qU j ((Iv (Ir z/\xK y.s))))) (ak (aC k 2) (∃z:jB,a.st.pos=z.st.pos/\a.st.bu=z.st.bu/\(!a.st.bR)=z.st.bR/\a.st.ea=z.st.ea/\a.st.aT=z.st.aT/\a.st.size=z.st.size/\a.st.aQ=z.st.aQ/\a.aX.h=z.aX.h/\a.aX.m=z.aX.m/\a.aX.L=z.aX.L/\a.aG.h=z.aG.h/\a.aG.m=z.aG.m/\a.aG.L=z.aG.L/\a.aZ.h=z.aZ.h/\a.aZ.m=z.aZ.m/\a.aZ.L=z.aZ.L/\g (qU j ((Iv (Ir z/\xK y.s))))) (ak (aC k 3) (∃z:jB,a.st.pos=z.st.pos/\a.st.bu=z.st.bu/\a.st.bR=z.st.bR/\(!a.st.ea)=z.st.ea/\a.st.aT=z.st.aT/\a.st.size=z.st.size/\a.st.aQ=z.st.aQ/\a.aX.h=z.aX.h/\a.aX.m=z.aX.m/\a.aX.L=z.aX.L/\a.aG.h=z.aG.h/\a.aG.m=z.aG.m/\a.aG.L=z.aG.L/\a.aZ.h=z.aZ.h/\a.aZ.m=z.aZ.m/\a.aZ.L=z.aZ.L/\g (qU j ((Iv (Ir z/\xK y.s))))) (ak (aC k 4) (∃z:jB,a.st.pos=z.st.pos/\a.st.bu=z.st.bu/\a.st.bR=z.st.bR/\a.st.ea=z.st.ea/\aw .i64 a.st.aT y.b=z.st.aT/\a.st.size=z.st.size/\a.st.aQ=z.st.aQ/\a.aX.h=z.aX.h/\a.aX.m=z.aX.m/\a.aX.L=z.aX.L/\a.aG.h=z.aG.h/\a.aG.m=z.aG.m/\a.aG.L=z.aG.L/\a.aZ.h=z.aZ.h/\a.aZ.m=z.aZ.m/\a.aZ.L=z.aZ.L/\g (qU j ((Iv (Ir z/\xK y.s))))) (ak (aC k 5) (∃z:jB,a.st.pos=z.st.pos/\a.st.bu=z.st.bu/\a.st.bR=z.st.bR/\a.st.ea=z.st.ea/\a.st.aT=z.st.aT/\aw .i64 a.st.size y.b=z.st.size/\a.st.aQ=z.st.aQ/\a.aX.h=z.aX.h/\a.aX.m=z.aX.m/\a.aX.L=z.aX.L/\a.aG.h=z.aG.h/\a.aG.m=z.aG.m/\a.aG.L=z.aG.L/\a.aZ.h=z.aZ.h/\a.aZ.m=z.aZ.m/\a.aZ.L=z.aZ.L/\g (qU j ((Iv (Ir z/\xK y.s))))) (ak (aC k 6) (∃z:jB,a.st.pos=z.st.pos/\a.st.bu=z.st.bu/\a.st.bR=z.st.bR/\a.st.ea=z.st.ea/\a.st.aT=z.st.aT/\a.st.size=z.st.size/\a.st.aQ=z.st.aQ/\a.aX.h=z.aX.h/\a.aX.m=z.aX.m/\a.aX.L=z.aX.L/\a.aG.h=z.aG.h/\aw .i64 a.aG.m y.b=z.aG.m/\a.aG.L=z.aG.L/\a.aZ.h=z.aZ.h/\a.aZ.m=z.aZ.m/\a.aZ.L=z.aZ.L/\g (qU j ((Iv (Ir z/\xK y.s))))) (ak (aC k 7) (∃z:jB,a.st.pos=z.st.pos/\a.st.bu=z.st.bu/\a.st.bR=z.st.bR/\a.st.ea=z.st.ea/\a.st.aT=z.st.aT/\a.st.size=z.st.size/\a.st.aQ=z.st.aQ/\a.aG.h=z.aX.h/\a.aG.m=z.aX.m/\a.aG.L=z.aX.L/\a.aG.h=z.aG.h/\a.aG.m=z.aG.m/\a.aG.L=z.aG.L/\a.aZ.h=z.aZ.h/\a.aZ.m=z.aZ.m/\a.aZ.L=z.aZ.L/\g (qU j ((Iv (Ir z/\xK y.s))))) (ak (aC k 8) (∃z:jB,a.st.pos=z.st.pos/\a.st.bu=z.st.bu/\a.st.bR=z.st.bR/\a.st.ea=z.st.ea/\a.st.aT=z.st.aT/\a.st.size=z.st.size/\[]=z.st.aQ/\a.aX.h=z.aX.h/\a.aX.m=z.aX.m/\a.aX.L=z.aX.L/\a.aG.h=z.aG.h/\a.aG.m=z.aG.m/\a.aG.L=z.aG.L/\a.aZ.h=z.aZ.h/\a.aZ.m=z.aZ.m/\a.aZ.L=z.aZ.L/\g (qU j ((Iv (Ir z/\xK y.s))))) (∃z:jB,a.st.pos=z.st.pos/\a.st.bu=z.st.bu/\a.st.bR=z.st.bR/\a.st.ea=z.st.ea/\a.st.aT=z.st.aT/\a.st.size=z.st.size/\a.st.aQ=z.st.aQ/\a.aX.h=z.aX.h/\a.aX.m=z.aX.m/\a.aX.L=z.aX.L/\a.aG.h=z.aG.h/\a.aG.m=z.aG.m/\a.aG.L=z.aG.L/\a.aZ.h=z.aZ.h/\a.aZ.m=z.aZ.m/\a.aZ.L=z.aZ.L/\g (qU j ((Iv (Ir z/\xK y.s)))))))))))))))/\(∀d:jB,let q:=yI.mk j d.st d.aX d.aG d.aZ;let t:=yI.mk w d.st d.aX d.aG d.aZ;let A:=pO (nF q) (nF t);let u:=λp:Prop=>aa [d.st.pos,d.st.bu] (aa [d.st.bR,d.st.ea] (aa [d.st.aT,d.st.size] (aa [d.st.aQ] (aa [d.aX.h] (aa [d.aX.m] (aa [d.aX.L] (aa [d.aG.h] (aa [d.aG.m] (aa [d.aG.L] (aa [d.aZ.h] (aa [d.aZ.m] (aa [d.aZ.L] (aa [d.st.pos,d.st.bu] (aa [d.st.bR,d.st.ea] (aa [d.st.aT,d.st.size] (aa [d.st.aQ] (aa [d.aX.h] (aa [d.aX.m] (aa [d.aX.L] (aa [d.aG.h] (aa [d.aG.m] (aa [d.aG.L] (aa [d.aZ.h] (aa [d.aZ.m] (aa [d.aZ.L] (aa [d.st.pos,d.st.bu] (aa [d.st.bR,d.st.ea] (aa [d.st.aT,d.st.size] (aa [d.st.aQ] (aa [d.aX.h] (aa [d.aX.m] (aa [d.aX.L] (aa [d.aG.h] (aa [d.aG.m] (aa [d.aG.L] (aa [d.aZ.h] (aa [d.aZ.m] (aa [d.aZ.L] p))))))))))))))))))))))))))))))))))))));(Iv (Ir d/\xK y.s))->Iv (wsP q)/\aa [d.st.pos,d.st.bu] (aa [d.st.bR,d.st.ea] (aa [d.st.aT,d.st.size] (aa [d.st.aQ] (aa [d.aX.h] (aa [d.aX.m] (aa [d.aX.L] (aa [d.aG.h] (aa [d.aG.m] (aa [d.aG.L] (aa [d.aZ.h] (aa [d.aZ.m] (aa [d.aZ.L] (qU j (Iv (QdN t)/\aa [d.st.pos,d.st.bu] (aa [d.st.bR,d.st.ea] (aa [d.st.aT,d.st.size] (aa [d.st.aQ] (aa [d.aX.h] (aa [d.aX.m] (aa [d.aX.L] (aa [d.aG.h] (aa [d.aG.m] (aa [d.aG.L] (aa [d.aZ.h] (aa [d.aZ.m] (aa [d.aZ.L] (aa [v] (aa [y.s.c] (aa [i.ab] (aa [i.st] (aa [i.cc] (aa [i.cs] (aa [!(seq y.s.c [])] (ak A (Iv True/\u (True)) (u (False))))))))))))))))))))))))))))))))))))))))))) (Iv (UA (y.s,false))/\RA3 y.s (Iv (Nl (ye.mk y.l 300))/\E (Iv True/\True)))
def Qbn (y:DlY):Prop:=let b:=!(seq y.r.s.c []);let q1:=mH y.r.p y.r.p.aj.length;let d:=nN (lG.mk y.r.s y.r.p y.r.q []);let a:=ite (d) (qN y.r.q) Wg;Iv (lN y.r.p/\lN y.r.q)/\RA3 y.r.s (xz y.r (aa [b] (aa ([[]]:List (List UInt8)) (aa ([0]:List Int) (aa [q1] (aa [a.h] (aa [a.m] (aa [a.L] (aa [a.h] (aa [a.m] (aa [a.L] (aa [y.x.st.pos,y.x.st.pos] (false=false/\aa [y.x.st.ea] (aa [y.x.st.aT,y.x.st.size] (aa [y.x.st.aQ] (aa [y.x.aX.h] (aa [y.x.aX.m] (aa [y.x.aX.L] (aa ([[]]:List (List UInt8)) (aa ([0]:List Int) (aa [q1] (a.h=(iz y.r).h/\a.m=(iz y.r).m/\a.L=(iz y.r).L/\aa [y.r.s.r] (aa [y.r.s.c] (xz y.r (aa [b] (True))))))))))))))))))))))))))
def Qbo (y:jB):Prop:=let b:=y.st.aQ.length;let q1:=ag y.st.aQ;let d:=λp:Prop=>RAL y.st.pos (RA5 y.st (RA1 y.aX (RA1 y.aG (RA1 y.aZ p))));(∃z:Nat,[]=ju y.st.aT y.st.aQ z/\0=(z:Int)/\d ((Iv (z<=b))))/\(∀x:Nat,let c:=ju y.st.aT y.st.aQ x;let a:=gt (dh.mk false 0 0 0 0 0 0 0 0 0 0 []) y.st.aQ (x:Int).toNat;let e:=bC c [oD.mk 1 y.st.aT (x:Int) a.c0 a.c1 a.c2 a.c3 a.c4 a.c5 a.c6 a.c7 a.c8 a.c9];(Iv (x<=b))->ak (ay (x:Int) q1) (aH 0 (x:Int)/\ay (x:Int) q1/\ak a.done (aH 0 (x:Int)/\ay (x:Int) q1/\bx (ag e) 104/\RAM y.st.aT y.st.aQ (nS a (∃z:Nat,e=ju y.st.aT y.st.aQ z/\aw .i64 (x:Int) 1=(z:Int)/\d ((Iv (z<=b/\(b-z)<(b-x))))))) (∃z:Nat,c=ju y.st.aT y.st.aQ z/\aw .i64 (x:Int) 1=(z:Int)/\d ((Iv (z<=b/\(b-z)<(b-x)))))) (c=kG y.st.aT y.st.aQ/\True))
def Qbp (y:jB):Prop:=RAO y.st.pos y.st.bu y.st.bR (false=false/\aa ([0,0]:List Int) (aa ([[]]:List (List dh)) (aa ([[]]:List (List UInt8)) (aa ([0]:List Int) (aa ([[]]:List (List dh)) (aa [y.aG.h] (aa [y.aG.m] (aa [y.aG.L] (aa [y.aZ.h] (aa [y.aZ.m] (aa [y.aZ.L] (True))))))))))))
def Qbq (y:LbY):Prop:=let a:Prop:=(ak (aC y.c 10) (0=lbN y/\false=lbG y/\2=E_ y/\True) (ak y.g (y.n=lbN y/\y.g=lbG y/\4=E_ y/\True) (ak (aH 200 y.n) (0=lbN y/\true=lbG y/\3=E_ y/\True) (aw .i64 y.n 1=lbN y/\false=lbG y/\1=E_ y/\True))));ak (aC y.c 10) (ak y.g (0=lbN y/\false=lbG y/\5=E_ y/\True) (a)) (a)
abbrev RAI (p:Prop):Prop:=aa ([[]]:List (List UInt8)) p
def Qbr (y:yM):Prop:=let A:=yL (Oj.mk y.r.p y.x.aX);let q1:=yL (Oj.mk y.r.p y.x.aG);let o:=!(seq y.r.s.c []);let v:=yL (Oj.mk y.r.q y.x.aZ);let B:=kG y.x.st.aT y.x.st.aQ;let D:=mH y.r.p y.r.p.aj.length;let C:=NN.mk y.r.p y.x.aX 10;let w:=NN.mk y.r.p y.x.aG 10;let e:=iz (lG.mk y.r.s y.r.p y.r.q []);let z:=aw .i64 (aw .i64 y.x.st.size 1) y.n;let j:=(yK (y.x.aX.h,10)).1;let k:=(yK (y.x.aG.h,10)).1;let l:=bC B (kG y.x.st.bu q1);let b:=yg w (B_ w).length;let d:=yg C (B_ C).length;let a:=ite (x3 y=true) (QdV y) (ite (nN y.r=true) (jB.mk (HB.mk y.x.st.pos y.x.st.bu y.x.st.bR true y.x.st.bu y.n q1) (tl w) y.x.aG y.x.aZ) (NR (QdW y)));let t:=λp:Prop=>RAS y.x.st.pos y.x.st.bu y.x.st.bR y.x.st.ea y.x.st.bu y.n q1 (RA1 y.x.aX (RA1 y.x.aG (RA1 y.x.aZ p)));let u:=λp:Prop=>RAO y.x.st.pos y.x.st.bu y.x.st.bR p;let i:=λp:Prop=>RAI (RAC (RAL D p));let f:Prop:=(RA3 y.r.s (xz y.r (aa [o] (True))));let g:Prop:=(Iv (y.x.st.aQ.length<=1000)/\RAL y.x.st.pos (RA5 y.x.st (RA1 y.x.aX (RA1 y.x.aG (RA1 y.x.aZ (Iv (qP y.r.p y.x.aG)/\aa [y.r.p.ab] (aa [y.r.p.aj] (aa [y.x.aG.h] (aa [y.x.aG.m] (aa [y.x.aG.L] (aa [y.r.p.ab] (aa [y.r.p.aj] (aa [y.x.aG.h] (aa [y.x.aG.m] (aa [y.x.aG.L] (ak (!o) (Iv (q1.length<=1000)/\t (bx (ag l) 104=true/\Iv True/\t (Iv (lN y.r.p/\lN y.r.q)/\u (false=false/\aa ([0,0]:List Int) (aa ([[]]:List (List dh)) (aa ([[]]:List (List UInt8)) (aa ([0]:List Int) (aa ([[]]:List (List dh)) (aa [y.x.aG.h] (aa [y.x.aG.m] (aa [y.x.aG.L] (aa [y.x.aZ.h] (aa [y.x.aZ.m] (aa [y.x.aZ.L] (aa [y.r.s.r] (aa [y.r.s.c] (xz y.r (aa [o] (y.x.st.pos=a.st.pos/\y.x.st.pos=a.st.pos/\false=false/\false=a.st.ea/\0=a.st.aT/\0=a.st.size/\[]=a.st.aQ/\[]=a.aX.h/\0=a.aX.m/\[]=a.aX.L/\i (e.h=(iz y.r).h/\e.m=(iz y.r).m/\e.L=(iz y.r).L/\l=x4 y/\f)))))))))))))))))))) (Iv (qP y.r.p y.x.aG)/\aa [y.r.p.ab] (aa [y.r.p.aj] (aa [y.x.aG.h] (aa [y.x.aG.m] (aa [y.x.aG.L] (aa ([10]:List Int) (aa [y.r.p.ab] (aa [y.r.p.aj] (aa [y.x.aG.h] (aa [y.x.aG.m] (aa [y.x.aG.L] (Iv (lN y.r.p/\lN y.r.q)/\u (Tt 1 (aa [y.x.st.bu,y.n] (aa [q1] (aa [k] (aa [b.1] (aa [b.2] (aa [y.x.aG.h] (aa [y.x.aG.m] (aa [y.x.aG.L] (aa [y.x.aZ.h] (aa [y.x.aZ.m] (aa [y.x.aZ.L] (aa [y.r.s.r] (aa [y.r.s.c] (xz y.r (aa [o] (y.x.st.pos=a.st.pos/\y.x.st.pos=a.st.pos/\false=false/\true=a.st.ea/\y.x.st.bu=a.st.aT/\y.n=a.st.size/\q1=a.st.aQ/\k=a.aX.h/\b.1=a.aX.m/\b.2=a.aX.L/\i (e.h=(iz y.r).h/\e.m=(iz y.r).m/\e.L=(iz y.r).L/\B=x4 y/\f))))))))))))))))))))))))))))))))))))))))))))));let F:=gt (dh.mk false 0 0 0 0 0 0 0 0 0 0 []) v 0;ak y.x.st.ea (Iv (qP y.r.q y.x.aZ)/\RA2 y.r.q (RA1 y.x.aZ (Tt 1 (ay 0 (ag v)=true/\ak F.done (aa [y.x.st.ea] (aa [y.r.q.ab] (aa [y.r.q.aj] (aa [y.x.aZ.h] (aa [y.x.aZ.m] (aa [y.x.aZ.L] (aa [F.done] (aa [y.x.st.size] (ak (aH z 500) (Iv (qP y.r.p y.x.aX)/\aa [y.r.p.ab] (aa [y.r.p.aj] (aa [y.x.aX.h] (aa [y.x.aX.m] (aa [y.x.aX.L] (aa [y.r.p.ab] (aa [y.r.p.aj] (aa [y.x.aX.h] (aa [y.x.aX.m] (aa [y.x.aX.L] (Iv (qP y.r.p y.x.aX)/\aa [y.r.p.ab] (aa [y.r.p.aj] (aa [y.x.aX.h] (aa [y.x.aX.m] (aa [y.x.aX.L] (aa ([10]:List Int) (aa [y.r.p.ab] (aa [y.r.p.aj] (aa [y.x.aX.h] (aa [y.x.aX.m] (aa [y.x.aX.L] (Iv (lN y.r.p/\lN y.r.q)/\aa [y.x.st.pos,y.x.st.bu] (aa [y.x.st.bR,y.x.st.ea] (aa [y.x.st.aT,z] (aa [A] (aa [j] (aa [d.1] (aa [d.2] (aa [y.x.aG.h] (aa [y.x.aG.m] (aa [y.x.aG.L] (aa [y.x.aZ.h] (aa [y.x.aZ.m] (aa [y.x.aZ.L] (aa [y.r.s.r] (aa [y.r.s.c] (xz y.r (aa [o] (y.x.st.pos=a.st.pos/\y.x.st.pos=a.st.pos/\false=false/\y.x.st.ea=a.st.ea/\y.x.st.aT=a.st.aT/\z=a.st.size/\A=a.st.aQ/\j=a.aX.h/\d.1=a.aX.m/\d.2=a.aX.L/\i (e.h=(iz y.r).h/\e.m=(iz y.r).m/\e.L=(iz y.r).L/\[]=x4 y/\f)))))))))))))))))))))))))))))))))))))))) (g)))))))))) (aa [y.x.st.ea] (aa [y.r.q.ab] (aa [y.r.q.aj] (aa [y.x.aZ.h] (aa [y.x.aZ.m] (aa [y.x.aZ.L] (aa [F.done] (g)))))))))))) (RAL y.x.st.ea (g))
def Qbs (y:Wi):Prop:=let l:=!(seq y.r.s.c []);let q1:=NN.mk y.r.p y.x.aG y.c;let G:=NN.mk y.r.q y.x.aZ y.c;let H:=NN.mk y.r.p y.x.aX y.c;let E:=cF .i64 y.x.st.pos y.x.st.bu;let B:=mH y.r.p y.r.p.aj.length;let d:=aw .i64 y.x.st.pos 1;let f:=lG.mk y.r.s y.r.p y.r.q [];let I:=instDecidableEqBool (nN f) true;let F:=ite (y.x.st.bR) 0 (dbN y);let n:=yg G (B_ G).length;let g:=yg H (B_ H).length;let i:=yg q1 (B_ q1).length;let j:=E_ (LbY.mk F y.x.st.bR y.c);let a:=ite (nN f) (qN y.r.q) Wg;let o:=jB.mk (HB.mk d y.x.st.bu y.x.st.bR y.x.st.ea y.x.st.aT y.x.st.size y.x.st.aQ) y.x.aX y.x.aG y.x.aZ;let k:=yM.mk f o E;let t:=bC (kG y.x.st.aT y.x.st.aQ) [oD.mk 2 y.x.st.bu 0 0 0 0 0 0 0 0 0 0 0];let b:=ite (x3 k) (QdV k) (ite (nN f) (jB.mk (HB.mk d y.x.st.bu y.x.st.bR true y.x.st.bu E (yL (Oj.mk y.r.p y.x.aG))) (tl (NN.mk y.r.p y.x.aG 10)) y.x.aG y.x.aZ) (NR (QdW k)));let C:=λp:Prop=>RAL d (RA5 y.x.st (RA1 y.x.aX (RA1 y.x.aG (RA1 y.x.aZ p))));let D:=λp:Prop=>RA2 y.r.p (RA1 y.x.aX (RAL y.c (RA2 y.r.p (RA1 y.x.aX p))));let e:Prop:=(RA3 y.r.s (xz y.r (aa [l] (True))));let u:Prop:=(y.x.aZ.h=(cM y).aZ.h/\y.x.aZ.m=(cM y).aZ.m/\y.x.aZ.L=(cM y).aZ.L/\[]=Ol y/\e);let v:Prop:=((yK (y.x.aG.h,y.c)).1=(cM y).aG.h/\i.1=(cM y).aG.m/\i.2=(cM y).aG.L/\u);let w:Prop:=(RAM y.x.st.bR y.x.st.pos (RA5 y.x.st (RA1 y.x.aX (RA1 y.x.aG (RA1 y.x.aZ (RA3 y.r.s (xz y.r (aa [l] ((Iv True))))))))));let A:Prop:=((yK (y.x.aG.h,y.c)).1=(cM y).aG.h/\i.1=(cM y).aG.m/\i.2=(cM y).aG.L/\(yK (y.x.aZ.h,y.c)).1=(cM y).aZ.h/\n.1=(cM y).aZ.m/\n.2=(cM y).aZ.L/\[]=Ol y/\e);(ak y.x.st.bR (∃z:Unit,RAL y.c (0=F/\w)) (∃z:Unit,RAL y.c (E=F/\w)))/\(∀x:Unit,(Iv True)->Iv True/\RAO F y.x.st.bR y.c (ak (aC j 1) (Iv (qP y.r.p y.x.aG)/\aa [y.r.p.ab] (aa [y.r.p.aj] (aa [y.x.aG.h] (aa [y.x.aG.m] (aa [y.x.aG.L] (aa [y.c] (aa [y.r.p.ab] (aa [y.r.p.aj] (aa [y.x.aG.h] (aa [y.x.aG.m] (aa [y.x.aG.L] (ak l (Iv (qP y.r.q y.x.aZ)/\aa [y.r.q.ab] (aa [y.r.q.aj] (aa [y.x.aZ.h] (aa [y.x.aZ.m] (aa [y.x.aZ.L] (aa [y.c] (aa [y.r.q.ab] (aa [y.r.q.aj] (aa [y.x.aZ.h] (aa [y.x.aZ.m] (aa [y.x.aZ.L] (ak y.x.st.ea (Iv (qP y.r.p y.x.aX)/\D (d=(cM y).st.pos/\y.x.st.bu=(cM y).st.bu/\y.x.st.bR=(cM y).st.bR/\y.x.st.ea=(cM y).st.ea/\y.x.st.aT=(cM y).st.aT/\y.x.st.size=(cM y).st.size/\y.x.st.aQ=(cM y).st.aQ/\(yK (y.x.aX.h,y.c)).1=(cM y).aX.h/\g.1=(cM y).aX.m/\g.2=(cM y).aX.L/\A)) (d=(cM y).st.pos/\y.x.st.bu=(cM y).st.bu/\y.x.st.bR=(cM y).st.bR/\y.x.st.ea=(cM y).st.ea/\y.x.st.aT=(cM y).st.aT/\y.x.st.size=(cM y).st.size/\y.x.st.aQ=(cM y).st.aQ/\y.x.aX.h=(cM y).aX.h/\y.x.aX.m=(cM y).aX.m/\y.x.aX.L=(cM y).aX.L/\A))))))))))))) (ak y.x.st.ea (Iv (qP y.r.p y.x.aX)/\D (d=(cM y).st.pos/\y.x.st.bu=(cM y).st.bu/\y.x.st.bR=(cM y).st.bR/\y.x.st.ea=(cM y).st.ea/\y.x.st.aT=(cM y).st.aT/\y.x.st.size=(cM y).st.size/\y.x.st.aQ=(cM y).st.aQ/\(yK (y.x.aX.h,y.c)).1=(cM y).aX.h/\g.1=(cM y).aX.m/\g.2=(cM y).aX.L/\v)) (d=(cM y).st.pos/\y.x.st.bu=(cM y).st.bu/\y.x.st.bR=(cM y).st.bR/\y.x.st.ea=(cM y).st.ea/\y.x.st.aT=(cM y).st.aT/\y.x.st.size=(cM y).st.size/\y.x.st.aQ=(cM y).st.aQ/\y.x.aX.h=(cM y).aX.h/\y.x.aX.m=(cM y).aX.m/\y.x.aX.L=(cM y).aX.L/\v)))))))))))))) (ak (aC j 2) (Iv (iA f o)/\aa [d,y.x.st.bu] (aa [y.x.st.bR,y.x.st.ea] (aa [y.x.st.aT,y.x.st.size] (aa [y.x.st.aQ] (aa [y.x.aX.h] (aa [y.x.aX.m] (aa [y.x.aX.L] (aa [y.x.aG.h] (aa [y.x.aG.m] (aa [y.x.aG.L] (aa [y.x.aZ.h] (aa [y.x.aZ.m] (aa [y.x.aZ.L] (aa [E] (aa [y.r.s.r] (aa [y.r.s.c] (xz y.r (aa [l] (b.st.pos=(cM y).st.pos/\b.st.pos=(cM y).st.bu/\false=(cM y).st.bR/\b.st.ea=(cM y).st.ea/\b.st.aT=(cM y).st.aT/\b.st.size=(cM y).st.size/\b.st.aQ=(cM y).st.aQ/\b.aX.h=(cM y).aX.h/\b.aX.m=(cM y).aX.m/\b.aX.L=(cM y).aX.L/\[]=(cM y).aG.h/\0=(cM y).aG.m/\B=(cM y).aG.L/\(iz f).h=(cM y).aZ.h/\(iz f).m=(cM y).aZ.m/\(iz f).L=(cM y).aZ.L/\x4 k=Ol y/\e))))))))))))))))))) (ak (aC j 3) (Iv (y.x.st.aQ.length<=1000)/\C (bx (ag t) 104/\Iv True/\C (Iv (lN y.r.p/\lN y.r.q)/\aa [y.r.s.r] (aa [y.r.s.c] (xz y.r (aa [l] (aa ([[]]:List (List UInt8)) (aa ([0]:List Int) (aa [B] (aa ([[]]:List (List UInt8)) (aa ([0]:List Int) (aa [B] (aa [a.h] (aa [a.m] (aa [a.L] (aa [a.h] (aa [a.m] (aa [a.L] (aa [a.h] (aa [a.m] (aa [a.L] (d=(cM y).st.pos/\y.x.st.bu=(cM y).st.bu/\true=(cM y).st.bR/\false=(cM y).st.ea/\0=(cM y).st.aT/\0=(cM y).st.size/\[]=(cM y).st.aQ/\[]=(cM y).aX.h/\0=(cM y).aX.m/\[]=(cM y).aX.L/\[]=(cM y).aG.h/\0=(cM y).aG.m/\B=(cM y).aG.L/\a.h=(cM y).aZ.h/\a.m=(cM y).aZ.m/\a.L=(cM y).aZ.L/\t=Ol y/\e)))))))))))))))))))))) (ak (aC j 5) (Iv (lN y.r.p/\lN y.r.q)/\aa [d,y.x.st.bu] (aa [y.x.st.bR,y.x.st.ea] (aa [y.x.st.aT,y.x.st.size] (aa [y.x.st.aQ] (aa [y.x.aX.h] (aa [y.x.aX.m] (aa [y.x.aX.L] (aa [y.x.aG.h] (aa [y.x.aG.m] (aa [y.x.aG.L] (aa [y.x.aZ.h] (aa [y.x.aZ.m] (aa [y.x.aZ.L] (aa [y.r.s.r] (aa [y.r.s.c] (xz y.r (aa [l] (d=(cM y).st.pos/\d=(cM y).st.bu/\false=(cM y).st.bR/\y.x.st.ea=(cM y).st.ea/\y.x.st.aT=(cM y).st.aT/\y.x.st.size=(cM y).st.size/\y.x.st.aQ=(cM y).st.aQ/\y.x.aX.h=(cM y).aX.h/\y.x.aX.m=(cM y).aX.m/\y.x.aX.L=(cM y).aX.L/\[]=(cM y).aG.h/\0=(cM y).aG.m/\B=(cM y).aG.L/\(iz f).h=(cM y).aZ.h/\(iz f).m=(cM y).aZ.m/\(iz f).L=(cM y).aZ.L/\[]=Ol y/\e)))))))))))))))))) (d=(cM y).st.pos/\y.x.st.bu=(cM y).st.bu/\y.x.st.bR=(cM y).st.bR/\y.x.st.ea=(cM y).st.ea/\y.x.st.aT=(cM y).st.aT/\y.x.st.size=(cM y).st.size/\y.x.st.aQ=(cM y).st.aQ/\y.x.aX.h=(cM y).aX.h/\y.x.aX.m=(cM y).aX.m/\y.x.aX.L=(cM y).aX.L/\y.x.aG.h=(cM y).aG.h/\y.x.aG.m=(cM y).aG.m/\y.x.aG.L=(cM y).aG.L/\u))))))
def Qbt (y:Cm):Prop:=let u:=NK y.n;let q1:=y.L.length;let v:=aw .i64 y.m (Ρ y.n);let o:=λp:Prop=>RAM y.m y.L (RA2 y.p p);let q:=λp:Prop=>RAL y.r p;(ak (ay y.n 0) (∃z:Unit,q (0=u/\o ((Iv True)))) (∃z:Unit,q (y.n=u/\o ((Iv True)))))/\(∀x:Unit,(Iv True)->(ak (ay 4 u) (∃z:Unit,q (4=Ρ y.n/\o ((Iv True)))) (∃z:Unit,q (u=Ρ y.n/\o ((Iv True)))))/\(∀F:Unit,(Iv True)->(∃z:Nat,q (0=(z:Int)/\RAL v ([]=Is y z/\o ((Iv (z<=q1))))))/\(∀f:Nat,let D:=Is y f;let E:=ay (f:Int) (ag y.L);let A:=gt 0 y.p.aj (f:Int).toNat;let j:=gt (dh.mk false 0 0 0 0 0 0 0 0 0 0 []) y.L (f:Int).toNat;let l:=E'.mk y.p j y.m false;let B:=ag (fJ l).2.rd;let g:=λp:Prop=>RAP v D y.m y.L (RA2 y.p p);let k:=λp:Prop=>RAO y.r (f:Int) (fJ l).2.rd p;(Iv (f<=q1))->ak E (aH 0 (f:Int)/\E/\Iv (dxP l)/\RA2 y.p (RAL j.done (nS j (aa [j.aB] (aa [y.m] (false=false/\aa [y.p.ab] (aa [y.p.aj] (aa [y.L] (aa [j.done] (nS j (aa [j.aB] (aa [y.m] (∃z:Nat,let c:=(fJ (lC y z)).2;let e:=c.rd.length;(∃b:Nat,k (0=(b:Int)/\(fJ l).2.w.done=c.w.done/\sr (fJ l).2.w c.w ([]=ER y z b/\g ((Iv (b<=e))))))/\(∀h:Nat,let d:=ER y z h;let i:=ay (h:Int) B;let a:=gt (aK.mk 0 0 0 0 0 0 0 0 0 0 0) (fJ l).2.rd (h:Int).toNat;let s:=aw .i64 a.pc 1;let C:=bf (gt (aS.mk 0 0 0 []) y.p.ab a.pc.toNat).bg y.r;(Iv (h<=e))->ak i (aH 0 (h:Int)/\i/\aH 0 a.pc/\ay a.pc (ag y.p.ab)/\Iv True/\aa [(gt (aS.mk 0 0 0 []) y.p.ab a.pc.toNat).bg] (aa [y.r] (aa [y.p.ab] (aa [a.pc] (aa [(gt (aS.mk 0 0 0 []) y.p.ab a.pc.toNat).bg] (ak C (aH 0 (h:Int)/\i/\aH 0 (h:Int)/\i/\Iv (d.length<=1000000)/\aa [d] (aa [s] (Gv a (aa [d] (aa [a.pc] (Gv a (∃b:Nat,k (aw .i64 (h:Int) 1=(b:Int)/\aa [c.w.done] (nS c.w (pY d (aK.mk s a.c0 a.c1 a.c2 a.c3 a.c4 a.c5 a.c6 a.c7 a.c8 a.c9)=ER y z b/\g ((Iv (b<=e/\(e-b)<(e-h)))))))))))))) (∃b:Nat,k (aw .i64 (h:Int) 1=(b:Int)/\aa [c.w.done] (nS c.w (d=ER y z b/\g ((Iv (b<=e/\(e-b)<(e-h)))))))))))))) (∃b:Nat,let t:=bC D [dh.mk (fJ (lC y b)).2.w.done (fJ (lC y b)).2.w.c0 (fJ (lC y b)).2.w.c1 (fJ (lC y b)).2.w.c2 (fJ (lC y b)).2.w.c3 (fJ (lC y b)).2.w.c4 (fJ (lC y b)).2.w.c5 (fJ (lC y b)).2.w.c6 (fJ (lC y b)).2.w.c7 (fJ (lC y b)).2.w.c8 (fJ (lC y b)).2.w.c9 (Wh y b)];(ak (!c.w.done) (aH 0 (f:Int)/\ay (f:Int) (ag y.p.aj)/\Iv True/\Iv (d.length<=1000000)/\aa [d] (aa ([A,-1,-1,-1,-1,-1,-1,-1,-1,-1,-1]:List Int) (aa [d,d] (aa [y.p.aj,y.p.aj] (aa [A,A] (∃z2:Unit,aa [y.r,(f:Int)] (c.w.done=(fJ (lC y b)).2.w.done/\sr c.w (fJ (lC y b)).2.w (pY d (aK.mk A (-1) (-1) (-1) (-1) (-1) (-1) (-1) (-1) (-1) (-1))=Wh y b/\g ((Iv True)))))))))) (∃z2:Unit,aa [y.r,(f:Int)] (c.w.done=(fJ (lC y b)).2.w.done/\sr c.w (fJ (lC y b)).2.w (d=Wh y b/\g ((Iv True))))))/\(∀G:Unit,(Iv True)->bx (ag t) 112/\∃z2:Nat,q (aw .i64 (f:Int) 1=(z2:Int)/\aa [v] (t=Is y z2/\o ((Iv (z2<=q1/\(q1-z2)<(q1-f)))))))))))))))))))))) (RAL v (D=Is y q1/\True)))))
def VC (y:DeY):Prop:=let c:=y.L.length;let f:=λp:Prop=>RAM y.m y.L (RA2 y.p p);(∃z:Nat,[]=mI y z/\0=(z:Int)/\f ((Iv (z<=c))))/\(∀x:Nat,let d:=ay (x:Int) (ag y.L);let b:=gt (dh.mk false 0 0 0 0 0 0 0 0 0 0 []) y.L (x:Int).toNat;let a:=E'.mk y.p b y.m true;let e:=bC (mI y x) [dh.mk (fJ a).2.w.done (fJ a).2.w.c0 (fJ a).2.w.c1 (fJ a).2.w.c2 (fJ a).2.w.c3 (fJ a).2.w.c4 (fJ a).2.w.c5 (fJ a).2.w.c6 (fJ a).2.w.c7 (fJ a).2.w.c8 (fJ a).2.w.c9 []];(Iv (x<=c))->ak d (aH 0 (x:Int)/\d/\Iv (dxP a)/\RA2 y.p (RAL b.done (nS b (aa [b.aB] (aa [y.m] (Tt 1 (aa [y.p.ab] (aa [y.p.aj] (aa [y.L] (aa [b.done] (nS b (aa [b.aB] (aa [y.m] (bx (ag e) 112/\∃z:Nat,e=mI y z/\aw .i64 (x:Int) 1=(z:Int)/\f ((Iv (z<=c/\(c-z)<(c-x)))))))))))))))))) (mI y x=mI y c/\True))
def Qbu (y:(List UInt8)×Int):Prop:=let a:=bC (bC [] y.1) [b8 y.2];bx (ag (bC [] y.1)) 1/\bx (ag a) 1/\(∃z:(List UInt8)×(List (Int×Int)),a=z.1/\[]=z.2/\(Iv (hbI y z)))/\(∀x:(List UInt8)×(List (Int×Int)),let q1:=(jx x.1).2;let b:=bC x.2 [((jx x.1).1,q1)];let c:Prop:=(x.1=(yK y).1/\x.2=(yK y).2/\True);(Iv (hbI y x))->ak (ay 0 (ag x.1)) (Iv True/\aa [x.1] (ak (!(gF x.1)) (Iv True/\aa [x.1] (bx (ag b) 16/\aH 0 q1/\aH q1 (ag x.1)/\∃z:(List UInt8)×(List (Int×Int)),qW x.1 q1=z.1/\b=z.2/\(Iv (hbI y z/\z.1.length<x.1.length)))) (c))) (c))
def Qbv (y:NN):Prop:=let a:=(B_ y).length;let q1:=(yK (y.x.h,y.c)).2;let f:=(yK (y.x.h,y.c)).1;let j:=λp:Prop=>RA2 y.p p;Iv (y.x.h.length<=1000000)/\RAM y.x.h y.c ((∃z:Nat,aa [f] (aa [q1] (0=(z:Int)/\y.x.m=(yg y z).1/\y.x.L=(yg y z).2/\j ((Iv (z<=a))))))/\(∀x:Nat,let d:=(yg y x).2;let e:=(yg y x).1;let g:=ay (x:Int) (ag q1);let b:=gt (0,0) q1 (x:Int).toNat;let i:=Cm.mk y.p e d b.1 b.2;(Iv (x<=a))->ak g (aH 0 (x:Int)/\g/\aH 0 (x:Int)/\g/\Iv (dsP i)/\aa [y.p.ab] (aa [y.p.aj] (aa [e] (aa [d] (aa [b.1,b.2] (aa [y.p.ab] (aa [y.p.aj] (aa [e] (aa [d] (aa [b.1,b.2] (∃z:Nat,aa [f] (aa [q1] (aw .i64 (x:Int) 1=(z:Int)/\aw .i64 e (Ρ b.2)=(yg y z).1/\Is i d.length=(yg y z).2/\j ((Iv (z<=a/\(a-z)<(a-x))))))))))))))))) (aa [f] (e=(yg y a).1/\d=(yg y a).2/\True))))
def Qbw (y:Oj):Prop:=let c:=y.x.h.length;let e:=λp:Prop=>RA1 y.x (RA2 y.p p);(∃z:Nat,0=(z:Int)/\y.x.m=(yh y z).1/\y.x.L=(yh y z).2/\e ((Iv (z<=c))))/\(∀x:Nat,let a:=(yh y x).2;let b:=(yh y x).1;let f:=ay (x:Int) (ag y.x.h);let d:=Cm.mk y.p b a 65533 1;(Iv (x<=c))->ak f (Iv (dsP d)/\RA2 y.p (RAP b a (65533:Int) (1:Int) (∃z:Nat,aw .i64 (x:Int) 1=(z:Int)/\aw .i64 b (Ρ 1)=(yh y z).1/\Is d a.length=(yh y z).2/\e ((Iv (z<=c/\(c-z)<(c-x))))))) (Iv (Qbk (DeY.mk y.p b a))/\RA2 y.p (RAM b a (mI (DeY.mk y.p b a) a.length=yL y/\True))))
def VE (y:(List aK)×aK):Prop:=let a:=y.1.length;(∃z:Nat,aa [y.1] (0=(z:Int)/\aa [y.2.pc] (Gv y.2 ((Iv (z<=a/\(∀j:Nat,(Nat.le (Nat.succ j) z)->Ne (List.getD y.1 j (aK.mk 0 0 0 0 0 0 0 0 0 0 0)).pc y.2.pc)))))))/\(∀x:Nat,let q1:=ay (x:Int) (ag y.1);let b:=aC (gt (aK.mk 0 0 0 0 0 0 0 0 0 0 0) y.1 (x:Int).toNat).pc y.2.pc;(Iv (x<=a/\(∀j:Nat,(Nat.le (Nat.succ j) x)->Ne (List.getD y.1 j (aK.mk 0 0 0 0 0 0 0 0 0 0 0)).pc y.2.pc)))->ak q1 (aH 0 (x:Int)/\q1/\aa [(gt (aK.mk 0 0 0 0 0 0 0 0 0 0 0) y.1 (x:Int).toNat).pc,y.2.pc] (ak b (y.1=pY y.1 y.2/\True) (∃z:Nat,aa [y.1] (aw .i64 (x:Int) 1=(z:Int)/\aa [y.2.pc] (Gv y.2 ((Iv ((z<=a/\(∀j:Nat,(Nat.le (Nat.succ j) z)->Ne (List.getD y.1 j (aK.mk 0 0 0 0 0 0 0 0 0 0 0)).pc y.2.pc))/\(a-z)<(a-x))))))))) (bx (ag (bC y.1 [y.2])) 88/\bC y.1 [y.2]=pY y.1 y.2/\True))
abbrev RAX {T0 T1 T2 T3 T4 T5 T6 T7 T8 T9 T10:Type} (a:T0) (b:T1) (c:T2) (d:T3) (e:T4) (f:T5) (g:T6) (h:T7) (i:T8) (j:T9) (k:T10) (p:Prop):Prop:=aa [a] (aa [b] (aa [c] (aa [d] (aa [e] (aa [f] (aa [g] (aa [h] (aa [i] (aa [j] (aa [k] p))))))))))
abbrev RAA (v:yf) (p:Prop):Prop:=aa [v.t.c5] (aa [v.t.c6] (aa [v.t.c7] (aa [v.t.c8] (aa [v.t.c9] p))))
def VG (y:yf):Prop:=let r:=AE y;let q1:=y.t.pc.toNat;let l:=(gh y).1;let f:=cC y.sn q1 true;let i:=aw .i64 y.t.pc 1;let q5:=bC y.k.rd [y.t];let a:=(gh y).2.2;let n:=(gh y).2.1;let o:=ag n;let j:=gt (aS.mk 0 0 0 []) y.p.ab q1;let h:=kS.mk (dh.mk y.k.w.done y.k.w.c0 y.k.w.c1 y.k.w.c2 y.k.w.c3 y.k.w.c4 y.k.w.c5 y.k.w.c6 y.k.w.c7 y.k.w.c8 y.k.w.c9 []) y.k.rd y.k.e;let s:=yf.mk y.p f h y.m (aK.mk i y.t.c0 y.t.c1 y.t.c2 y.t.c3 y.m y.t.c5 y.t.c6 y.t.c7 y.t.c8 y.t.c9);let u:=yf.mk y.p f h y.m (aK.mk i y.t.c0 y.t.c1 y.t.c2 y.t.c3 y.t.c4 y.t.c5 y.m y.t.c7 y.t.c8 y.t.c9);let v:=yf.mk y.p f h y.m (aK.mk i y.t.c0 y.m y.t.c2 y.t.c3 y.t.c4 y.t.c5 y.t.c6 y.t.c7 y.t.c8 y.t.c9);let z:=yf.mk y.p f h y.m (aK.mk i y.t.c0 y.t.c1 y.t.c2 y.t.c3 y.t.c4 y.t.c5 y.t.c6 y.m y.t.c8 y.t.c9);let A:=yf.mk y.p f h y.m (aK.mk i y.t.c0 y.t.c1 y.t.c2 y.m y.t.c4 y.t.c5 y.t.c6 y.t.c7 y.t.c8 y.t.c9);let B:=yf.mk y.p f h y.m (aK.mk i y.t.c0 y.t.c1 y.t.c2 y.t.c3 y.t.c4 y.t.c5 y.t.c6 y.t.c7 y.m y.t.c9);let C:=yf.mk y.p f h y.m (aK.mk i y.m y.t.c1 y.t.c2 y.t.c3 y.t.c4 y.t.c5 y.t.c6 y.t.c7 y.t.c8 y.t.c9);let D:=yf.mk y.p f h y.m (aK.mk i y.t.c0 y.t.c1 y.t.c2 y.t.c3 y.t.c4 y.t.c5 y.t.c6 y.t.c7 y.t.c8 y.m);let E:=yf.mk y.p f h y.m (aK.mk i y.t.c0 y.t.c1 y.t.c2 y.t.c3 y.t.c4 y.m y.t.c6 y.t.c7 y.t.c8 y.t.c9);let F:=yf.mk y.p f h y.m (aK.mk i y.t.c0 y.t.c1 y.m y.t.c3 y.t.c4 y.t.c5 y.t.c6 y.t.c7 y.t.c8 y.t.c9);let G:=yf.mk y.p f h y.m (aK.mk i y.t.c0 y.t.c1 y.t.c2 y.t.c3 y.t.c4 y.t.c5 y.t.c6 y.t.c7 y.t.c8 y.t.c9);let J:=(gh z).2.2;let K:=(gh v).2.2;let L:=(gh A).2.2;let M:=(gh E).2.2;let N:=(gh B).2.2;let O:=(gh u).2.2;let P:=(gh s).2.2;let Q:=(gh C).2.2;let R:=(gh D).2.2;let S:=(gh F).2.2;let T:=(gh G).2.2;let q:=yf.mk y.p f h y.m (aK.mk j.x y.t.c0 y.t.c1 y.t.c2 y.t.c3 y.t.c4 y.t.c5 y.t.c6 y.t.c7 y.t.c8 y.t.c9);let W:=(gh q).1;let c:=(gh q).2.2;let I:=(gh q).2.1;let H:=yf.mk y.p I (kS.mk (dh.mk c.w.done c.w.c0 c.w.c1 c.w.c2 c.w.c3 c.w.c4 c.w.c5 c.w.c6 c.w.c7 c.w.c8 c.w.c9 []) c.rd c.e) y.m (aK.mk j.y y.t.c0 y.t.c1 y.t.c2 y.t.c3 y.t.c4 y.t.c5 y.t.c6 y.t.c7 y.t.c8 y.t.c9);let U:=(gh H).2.2;let d:=λp:Prop=>RA2 y.p p;let b:=λp:Prop=>RAL y.m p;let g:=λp:Prop=>RAQ y.m y.k.e y.k.rd f y.k.w.done p;let X:Prop:=(y.k.w.done=a.w.done/\sr y.k.w a.w (f=n/\True));let V:Prop:=(false=l/\d (ag y.sn=o/\b (y.k.e=a.e/\y.k.rd=a.rd/\X)));let Y:Prop:=(d (ag I=o/\b (c.e=a.e/\c.rd=a.rd/\c.w.done=a.w.done/\sr c.w a.w (I=n/\True))));let Z:Prop:=(Iv (B' G/\AE G<r)/\RAL i (Gv y.t (d (ag y.sn=ag f/\g (nS y.k.w ((gh G).1=l/\d (ag (gh G).2.1=o/\b (T.e=a.e/\T.rd=a.rd/\T.w.done=a.w.done/\sr T.w a.w ((gh G).2.1=n/\True)))))))));aH 0 y.t.pc=true/\ay y.t.pc (ag y.sn)=true/\ak (gt false y.sn q1) (false=l/\d (ag y.sn=o/\b (y.k.e=a.e/\y.k.rd=a.rd/\y.k.w.done=a.w.done/\sr y.k.w a.w (y.sn=n/\True)))) (aH 0 y.t.pc=true/\ay y.t.pc (ag y.sn)=true/\aH 0 y.t.pc=true/\ay y.t.pc (ag y.p.ab)=true/\ak (aC j.op 7) (Gv y.t (true=l/\d (ag y.sn=o/\b (y.k.e=a.e/\y.k.rd=a.rd/\true=a.w.done/\EwM y.t a.w (f=n/\True))))) (ak (aC j.op 2) (Iv (B' q/\AE q<r)/\RAL j.x (Gv y.t (d (ag y.sn=ag f/\g (nS y.k.w (ak W (true=l/\Y) (Iv (B' H/\AE H<r)/\aa [j.y] (Gv y.t (aa [y.p.ab] (aa [y.p.aj] (aa [ag I,y.m] (aa [c.e] (aa [c.rd] (aa [I] (aa [c.w.done] (nS c.w ((gh H).1=l/\d (ag (gh H).2.1=o/\b (U.e=a.e/\U.rd=a.rd/\U.w.done=a.w.done/\sr U.w a.w ((gh H).2.1=n/\True)))))))))))))))))))) (ak (aC j.op 3) (Iv (B' q/\AE q<r)/\RAL j.x (Gv y.t (d (ag y.sn=ag f/\g (nS y.k.w (W=l/\Y)))))) (ak (aC j.op 4) (ak (aC j.x 9) (b (Iv (B' D/\AE D<r)/\RAX i y.t.c0 y.t.c1 y.t.c2 y.t.c3 y.t.c4 y.t.c5 y.t.c6 y.t.c7 y.t.c8 y.m (RA2 y.p (ag y.sn=ag f/\g (nS y.k.w ((gh D).1=l/\d (ag (gh D).2.1=o/\b (R.e=a.e/\R.rd=a.rd/\R.w.done=a.w.done/\sr R.w a.w ((gh D).2.1=n/\True))))))))) (ak (aC j.x 8) (b (Iv (B' B/\AE B<r)/\RAX i y.t.c0 y.t.c1 y.t.c2 y.t.c3 y.t.c4 y.t.c5 y.t.c6 y.t.c7 y.m y.t.c9 (RA2 y.p (ag y.sn=ag f/\g (nS y.k.w ((gh B).1=l/\d (ag (gh B).2.1=o/\b (N.e=a.e/\N.rd=a.rd/\N.w.done=a.w.done/\sr N.w a.w ((gh B).2.1=n/\True))))))))) (ak (aC j.x 7) (b (Iv (B' z/\AE z<r)/\RAX i y.t.c0 y.t.c1 y.t.c2 y.t.c3 y.t.c4 y.t.c5 y.t.c6 y.m y.t.c8 y.t.c9 (RA2 y.p (ag y.sn=ag f/\g (nS y.k.w ((gh z).1=l/\d (ag (gh z).2.1=o/\b (J.e=a.e/\J.rd=a.rd/\J.w.done=a.w.done/\sr J.w a.w ((gh z).2.1=n/\True))))))))) (ak (aC j.x 6) (b (Iv (B' u/\AE u<r)/\RAX i y.t.c0 y.t.c1 y.t.c2 y.t.c3 y.t.c4 y.t.c5 y.m y.t.c7 y.t.c8 y.t.c9 (RA2 y.p (ag y.sn=ag f/\g (nS y.k.w ((gh u).1=l/\d (ag (gh u).2.1=o/\b (O.e=a.e/\O.rd=a.rd/\O.w.done=a.w.done/\sr O.w a.w ((gh u).2.1=n/\True))))))))) (ak (aC j.x 5) (b (Iv (B' E/\AE E<r)/\RAX i y.t.c0 y.t.c1 y.t.c2 y.t.c3 y.t.c4 y.m y.t.c6 y.t.c7 y.t.c8 y.t.c9 (RA2 y.p (ag y.sn=ag f/\g (nS y.k.w ((gh E).1=l/\d (ag (gh E).2.1=o/\b (M.e=a.e/\M.rd=a.rd/\M.w.done=a.w.done/\sr M.w a.w ((gh E).2.1=n/\True))))))))) (ak (aC j.x 4) (b (Iv (B' s/\AE s<r)/\RAR i y.t.c0 y.t.c1 y.t.c2 y.t.c3 y.m (RAA y (RA2 y.p (ag y.sn=ag f/\g (nS y.k.w ((gh s).1=l/\d (ag (gh s).2.1=o/\b (P.e=a.e/\P.rd=a.rd/\P.w.done=a.w.done/\sr P.w a.w ((gh s).2.1=n/\True)))))))))) (ak (aC j.x 3) (b (Iv (B' A/\AE A<r)/\RAR i y.t.c0 y.t.c1 y.t.c2 y.m y.t.c4 (RAA y (RA2 y.p (ag y.sn=ag f/\g (nS y.k.w ((gh A).1=l/\d (ag (gh A).2.1=o/\b (L.e=a.e/\L.rd=a.rd/\L.w.done=a.w.done/\sr L.w a.w ((gh A).2.1=n/\True)))))))))) (ak (aC j.x 2) (b (Iv (B' F/\AE F<r)/\RAR i y.t.c0 y.t.c1 y.m y.t.c3 y.t.c4 (RAA y (RA2 y.p (ag y.sn=ag f/\g (nS y.k.w ((gh F).1=l/\d (ag (gh F).2.1=o/\b (S.e=a.e/\S.rd=a.rd/\S.w.done=a.w.done/\sr S.w a.w ((gh F).2.1=n/\True)))))))))) (ak (aC j.x 1) (b (Iv (B' v/\AE v<r)/\RAR i y.t.c0 y.m y.t.c2 y.t.c3 y.t.c4 (RAA y (RA2 y.p (ag y.sn=ag f/\g (nS y.k.w ((gh v).1=l/\d (ag (gh v).2.1=o/\b (K.e=a.e/\K.rd=a.rd/\K.w.done=a.w.done/\sr K.w a.w ((gh v).2.1=n/\True)))))))))) (aC j.x 0=true/\b (Iv (B' C/\AE C<r)/\RAR i y.m y.t.c1 y.t.c2 y.t.c3 y.t.c4 (RAA y (RA2 y.p (ag y.sn=ag f/\g (nS y.k.w ((gh C).1=l/\d (ag (gh C).2.1=o/\b (Q.e=a.e/\Q.rd=a.rd/\Q.w.done=a.w.done/\sr Q.w a.w ((gh C).2.1=n/\True))))))))))))))))))) (ak (aC j.op 5) (ak (aC y.m 0) (Z) (V)) (ak (aC j.op 6) (ak y.k.e (Z) (V)) (ak (aC j.op 1) (bx (ag q5) 88=true/\RAL y.k.rd (Gv y.t (false=l/\d (ag y.sn=o/\b (y.k.e=a.e/\q5=a.rd/\X))))) (V))))))))
def ϕ:∀y,VG y=QqZ y:=λy=>by kernel_rfl
def Qbx (y:E'):Prop:=let b:=ag y.p.ab;let q1:=y.l.aB.length;let h:=λp:Prop=>RA2 y.p p;let i:=λp:Prop=>RAL y.l.aB (RA2 y.p p);aH 0 b/\aH b b/\bx b 1/\RA2 y.p (RAL y.p.ab ((∃z:Nat×(List Bool)×kS,0=(z.1:Int)/\h (ag (kO b false)=ag z.2.1/\aa [y.m] (y.e=z.2.2.e/\[]=z.2.2.rd/\kO b false=z.2.1/\y.l.done=z.2.2.w.done/\sr y.l z.2.2.w (aa [y.l.done] (nS y.l (i ((Iv (dxI y z)))))))))/\(∀x:Nat×(List Bool)×kS,let c:=(x.1:Int);let g:=ay c (ag y.l.aB);let d:=gt (aK.mk 0 0 0 0 0 0 0 0 0 0 0) y.l.aB c.toNat;let f:=yf.mk y.p x.2.1 (kS.mk (dh.mk x.2.2.w.done x.2.2.w.c0 x.2.2.w.c1 x.2.2.w.c2 x.2.2.w.c3 x.2.2.w.c4 x.2.2.w.c5 x.2.2.w.c6 x.2.2.w.c7 x.2.2.w.c8 x.2.2.w.c9 []) x.2.2.rd x.2.2.e) y.m d;let a:=(gh f).2.2;(Iv (dxI y x))->ak g (aH 0 c/\g/\aH 0 c/\g/\Iv (B' f)/\aa [d.pc] (Gv d (aa [y.p.ab] (aa [y.p.aj] (aa [ag x.2.1,y.m] (aa [x.2.2.e] (aa [x.2.2.rd] (aa [x.2.1] (aa [x.2.2.w.done] (nS x.2.2.w (aa [y.l.aB] (aa [d.pc] (aa [y.l.aB] (Gv d (ak (gh f).1 (aa [a.w.done] (nS a.w (aa [a.rd,a.rd] (a.w.done=(fJ y).2.w.done/\sr a.w (fJ y).2.w (a.rd=(fJ y).2.rd/\True))))) (∃z:Nat×(List Bool)×kS,aw .i64 c 1=(z.1:Int)/\h (ag (gh f).2.1=ag z.2.1/\aa [y.m] (a.e=z.2.2.e/\a.rd=z.2.2.rd/\(gh f).2.1=z.2.1/\a.w.done=z.2.2.w.done/\sr a.w z.2.2.w (aa [y.l.done] (nS y.l (i ((Iv (dxI y z/\(q1-z.1)<(q1-x.1))))))))))))))))))))))))) (aa [x.2.2.w.done] (nS x.2.2.w (aa [x.2.2.rd,x.2.2.rd] (x.2.2.w.done=(fJ y).2.w.done/\sr x.2.2.w (fJ y).2.w (x.2.2.rd=(fJ y).2.rd/\True))))))))
def ϗ (h:∀j,j<l.length->(l.getD j ⟨0,0,0,0,0,0,0,0,0,0,0⟩).pc≠Z.pc):pY l Z=l++[Z]:=by
 unfold pY;rw[Zaa];intro b;obtain⟨x,d,c⟩:=ZcT.1 b;obtain⟨j,a,rfl⟩:=Za3 d;have:=h j a;rw[Zag,Zaf a] at this;exact this (ZaH c)
def VH {j:Nat} (a:j<l.length) (h:(l.getD j ⟨0,0,0,0,0,0,0,0,0,0,0⟩).pc=Z.pc):pY l Z=l:=by
 unfold pY;rw[Zac];rw[Zag,Zaf a] at h;exact ZcT.2 ⟨l[j],Zas a,ZaK h⟩
def QdY:Ok EP:=okZ (V:=VE) [] f92 Qjn trivial λy c=>by
 have hl:y.1.length<=1000000:=c;unfold VE;simp only[bH,oM,bI,cS,av,a7,bm,Zad];refine⟨⟨0,rfl,Zaj _,λj a=>absurd a (Zbo _)⟩,λx ⟨h1,b⟩=>⟨λk=>⟨ω,k,λe=>(VH ω e).symm,λe=>⟨x+1,ba ω ω,⟨ω,λj a=>?_⟩,ω⟩⟩,λk=>⟨by simp;omega,(ϗ λj a=>b j (show j<x by omega)).symm⟩⟩⟩;have a:j<x+1:=a;by_cases h:j=x
 ·subst h;exact e
 ·exact b j (show j<x by omega)
theorem o8:∀{s:List Bool} {i:Nat},i<s.length->s.getD i false=false->cK (s.set i true)+1=cK s
 | b::s,0,_,h=>by
  have:b=false:=h;subst this;simp[cK]
 | b::s,i+1,hi,h=>by
  have:=o8 (s:=s) (i:=i) (by simpa using hi) (by simpa using h);simp only[cK,Zdd,List.countP_cons] at this ⊢;omega
structure Kdw (s:List Bool) (k:kS) (r:Bool×List Bool×kS):Prop where
 l:r.2.1.length=s.length
 rd:r.2.2.rd.length+cK r.2.1<=k.rd.length+cK s
 f:cK r.2.1<=cK s
 th:r.2.2.w.aB=k.w.aB
 e:r.2.2.e=k.e
variable {k:Nat} {y:Cm} {Z:List aS} {Y:aK} {s:List Bool}
def Kdw.trans {k:kS} {b:Bool} {a:List Bool} {k1:kS} {r:Bool×List Bool×kS} (h:Kdw s k (b,a,k1)) (g:Kdw a k1 r):Kdw s k r:=
 ⟨g.l.trans h.l,Zav g.rd h.rd,Zav g.f h.f,g.th.trans h.th,g.e.trans h.e⟩
def Ca {m:Int} {n:kS} (hs:s.length=Z.length) (b:¬Y.pc.toNat<s.length):pZ Z m (k+1) s n Y=(false,s,n):=by
 have a:Z.getD Y.pc.toNat Br=Br:=by rw[Zag,Zbd ω];rfl
 have hz:s.set Y.pc.toNat true=s:=List.set_eq_of_length_le ω;rw[pZ];split
 ·rfl
 ·simp only[a,hz];rfl
theorem mJ (ab:List aS) (m:Int):∀(n:Nat) (s:List Bool) (k:kS) (t:aK),s.length=ab.length->Kdw s k (pZ ab m n s k t)
 | 0,s,k,t,_=>⟨rfl,Zah _,Zah _,rfl,rfl⟩
 | n+1,s,k,t,hs=>by
  by_cases d:t.pc.toNat<s.length
  ·unfold pZ;by_cases h:s.getD t.pc.toNat false
   ·rw[Zac h];exact⟨rfl,Zah _,Zah _,rfl,rfl⟩
   ·rw[Zaa h];have e:=o8 d (by simpa using h);have a:∀b,Kdw s k (b,s.set t.pc.toNat true,k):=λb=>⟨by simp,by simp only;omega,by simp only;omega,rfl,rfl⟩
    have go:∀c,Kdw s k (pZ ab m n (s.set t.pc.toNat true) k c):=λc=>(a false).trans (mJ ab m n _ k c (by simpa using hs))
    simp only;split
    ·exact⟨by simp,by simp only;omega,by simp only;omega,rfl,rfl⟩
    split
    ·split
     ·exact go _
     ·exact(go { t with pc:=_ }).trans (mJ ab m n _ _ _ ((go _).l.trans hs))
    split
    ·exact go _
    split
    ·exact go _
    split
    ·split
     ·exact go _
     ·exact a _
    split
    ·split
     ·exact go _
     ·exact a _
    split
    ·exact⟨by simp,by simp only[Zab,ZbA];omega,by simp only;omega,rfl,rfl⟩
    ·exact a _
  ·rw[Ca hs d];exact⟨rfl,Zah _,Zah _,rfl,rfl⟩
theorem x5 (ab:List aS) (m:Int):∀(n q:Nat) (s:List Bool) (k:kS) (t:aK),s.length=ab.length->cK s<n->cK s<q->pZ ab m n s k t=pZ ab m q s k t
 | 0,_,_,_,_,_,h,_=>by omega
 | _,0,_,_,_,_,_,h=>by omega
 | n+1,q+1,s,k,t,hs,h1,e=>by
  by_cases d:t.pc.toNat<s.length
  ·rw[pZ,pZ];by_cases h:s.getD t.pc.toNat false
   ·rw[Zac h,Zac h]
   ·rw[Zaa h,Zaa h];have g:=o8 d (by simpa using h);have hl:(s.set t.pc.toNat true).length=ab.length:=by simpa using hs
    have go:∀k b,pZ ab m n (s.set t.pc.toNat true) k b=pZ ab m q (s.set t.pc.toNat true) k b:=λk b=>x5 ab m n q _ k b hl ω ω
    have go2:∀a c,pZ ab m n (pZ ab m q (s.set t.pc.toNat true) k a).2.1 (pZ ab m q (s.set t.pc.toNat true) k a).2.2 c=pZ ab m q (pZ ab m q (s.set t.pc.toNat true) k a).2.1 (pZ ab m q (s.set t.pc.toNat true) k a).2.2 c:=λa c=>by
     have hk:=mJ ab m q (s.set t.pc.toNat true) k a hl;have:=hk.f;exact x5 ab m n q _ _ c (hk.l.trans hl) ω ω
    simp only[go,go2]
  ·rw[Ca hs d,Ca hs d]
def Ϙ {y:yf} (e:B' y) (h:y.sn.getD y.t.pc.toNat false=false) (ht:K0 y.p.ab Y):
  gh ⟨y.p,y.sn.set y.t.pc.toNat true,y.k,y.m,Y⟩=pZ y.p.ab y.m (cK y.sn) (y.sn.set y.t.pc.toNat true) y.k Y/\B' ⟨y.p,y.sn.set y.t.pc.toNat true,y.k,y.m,Y⟩/\AE ⟨y.p,y.sn.set y.t.pc.toNat true,y.k,y.m,Y⟩<AE y:=by
 obtain⟨h1,a,b,f,c,g,j⟩:=e;have d:=o8 (s:=y.sn) (i:=y.t.pc.toNat) ω h;refine⟨?_,⟨h1,a,by simpa using b,?_,c,ht⟩,?_⟩
 ·show pZ y.p.ab y.m (cK (y.sn.set y.t.pc.toNat true)+1) _ _ _=_
  rw[d]
 ·show y.k.rd.length+cK (y.sn.set y.t.pc.toNat true)<=_
  omega
 ·show cK (y.sn.set y.t.pc.toNat true)<cK y.sn
  omega
def Qru (y:yf) (P:B' y):VG y:=by
  have M:=P;obtain⟨O,E,hl,hr,hw,j,I⟩:=P;have U:y.p.ab.length<=1000:=E.1;have hk:(⟨⟨y.k.w.done,y.k.w.c0,y.k.w.c1,y.k.w.c2,y.k.w.c3,y.k.w.c4,y.k.w.c5,y.k.w.c6,y.k.w.c7,y.k.w.c8,y.k.w.c9,[]⟩,y.k.rd,y.k.e⟩:kS)=y.k:=by rw[<-hw]
  have V:ag y.sn=ag (cC y.sn y.t.pc.toNat true):=by simp[av,cC]
  have J:aw .i64 y.t.pc 1=y.t.pc+1:=ba ω ω;have H:y.t.pc.toNat<y.sn.length:=ω;have d:gh y=pZ y.p.ab y.m (cK y.sn+1) y.sn y.k y.t:=rfl;unfold VG;simp only[bI,bH,oM,sr,EwM,hk,J,av,cS,cC,a7,bm,Zbb,ZaX,Zai];rw[pZ] at d;generalize C:y.p.ab.getD y.t.pc.toNat Br=x at d;have K:y.p.ab.getD y.t.pc.toNat ⟨0,0,0,[]⟩=x:=C;simp only[K];have v:x∈y.p.ab:=by
    rw[Zag,Zaf ω] at C;exact C▸Zas _
  obtain⟨Q,R,S⟩:=O.2 y.t.pc.toNat ω;have L:y.p.ab.getD y.t.pc.toNat cX=x:=C;rw[L] at Q R S;refine⟨j,ω,λh=>?_,λh=>⟨j,ω,j,I,λi=>?_,λi=>⟨λg=>?_,λg=>⟨λo=>?_,λo=>⟨λD=>?_,λD=>?_⟩⟩⟩⟩⟩
  · rw[Zac h] at d;rw[d];exact⟨rfl,rfl,rfl,rfl,rfl,rfl,rfl,rfl,rfl,rfl,rfl,rfl,rfl,rfl,rfl,rfl⟩
  all_goals rw[Zaa (λe=>by rw[h] at e;cases e)] at d
  all_goals simp only at d
  · rw[Zac i] at d;rw[d];simp[Ra]
  all_goals
    have sub:=λ(t:aK) (ht:K0 y.p.ab t)=>Ϙ M h ht
    have fin:=λ(t:aK) (e:gh y=pZ y.p.ab y.m (cK y.sn) (y.sn.set y.t.pc.toNat true) y.k t) (ht:K0 y.p.ab t)=>And.intro (sub t ht).2 ((sub t ht).1.trans e.symm)
    have z:x.op≠2->x.op≠3->x.op≠7->K0 y.p.ab ⟨y.t.pc+1,y.t.c0,y.t.c1,y.t.c2,y.t.c3,y.t.c4,y.t.c5,y.t.c6,y.t.c7,y.t.c8,y.t.c9⟩:=λa b c=>by
      have:=S a b c;exact⟨by show 0<=y.t.pc+1;omega,by show y.t.pc+1<_;omega⟩
  · rw[Zaa i,Zac g] at d;obtain⟨T,a2,a3,a4⟩:=Q g;obtain⟨X,Y,s3⟩:=sub ⟨x.x,y.t.c0,y.t.c1,y.t.c2,y.t.c3,y.t.c4,y.t.c5,y.t.c6,y.t.c7,y.t.c8,y.t.c9⟩ ⟨T,a2⟩;have G:(y.sn.set y.t.pc.toNat true).length=y.p.ab.length:=by simpa using hl
    have u:=mJ y.p.ab y.m (cK y.sn) (y.sn.set y.t.pc.toNat true) y.k ⟨x.x,y.t.c0,y.t.c1,y.t.c2,y.t.c3,y.t.c4,y.t.c5,y.t.c6,y.t.c7,y.t.c8,y.t.c9⟩ G;have hf:=o8 H h;rw[<-X] at u d;refine⟨⟨Y,s3⟩,?_⟩;generalize gh ⟨y.p,y.sn.set y.t.pc.toNat true,y.k,y.m,⟨x.x,y.t.c0,y.t.c1,y.t.c2,y.t.c3,y.t.c4,y.t.c5,y.t.c6,y.t.c7,y.t.c8,y.t.c9⟩⟩=r at*
    have A:r.2.2.w.aB=[]:=u.th.trans hw;have F:(⟨⟨r.2.2.w.done,r.2.2.w.c0,r.2.2.w.c1,r.2.2.w.c2,r.2.2.w.c3,r.2.2.w.c4,r.2.2.w.c5,r.2.2.w.c6,r.2.2.w.c7,r.2.2.w.c8,r.2.2.w.c9,[]⟩,r.2.2.rd,r.2.2.e⟩:kS)=r.2.2:=by rw[<-A]
    simp only[F];have n:r.2.1.length=y.sn.length:=u.l.trans (Zbb ..);have W:=u.f;refine⟨λq=>?_,λq=>?_⟩
    · rw[Zac q] at d;simp[d,q,n]
    · rw[Zaa (by simp[q])] at d;have e2:gh ⟨y.p,r.2.1,r.2.2,y.m,⟨x.y,y.t.c0,y.t.c1,y.t.c2,y.t.c3,y.t.c4,y.t.c5,y.t.c6,y.t.c7,y.t.c8,y.t.c9⟩⟩=gh y:=by
        rw[d];exact x5 _ _ _ _ _ _ _ (n.trans hl) (Zbr _) (show cK r.2.1<cK y.sn by omega)
      have:=u.rd;refine⟨⟨⟨O,E,n.trans hl,by show r.2.2.rd.length+cK r.2.1<=_;omega,A,a3,a4⟩,by show cK r.2.1<cK y.sn;omega⟩,?_⟩;simp[e2]
  · rw[Zaa i,Zaa g,Zac o] at d;obtain⟨a,b⟩:=fin _ d (R o);exact⟨a,by simp[b]⟩
  · rw[Zaa i,Zaa g,Zaa o,Zac D] at d;have ht:=z g o i;obtain⟨Z,d2⟩:=E.2 x v D;refine⟨λe=>?_,λ_=>⟨λe=>?_,λ_=>⟨λe=>?_,λ_=>⟨λe=>?_,λ_=>⟨λe=>?_,λ_=>⟨λe=>?_,λ_=>⟨λe=>?_,λ_=>⟨λe=>?_,λ_=>⟨λe=>?_,λ_=>?_⟩⟩⟩⟩⟩⟩⟩⟩⟩
    all_goals first
      | (rw[e] at d
         simp only[Xp,Int.reduceEq,↓reduceIte] at d;obtain⟨a,b⟩:=fin _ d ⟨ht.1,ht.2⟩;exact⟨a,by simp[b]⟩)
      | (have e:x.x=0:=ω
         rw[e] at d;simp only[Xp,Int.reduceEq,↓reduceIte] at d;obtain⟨a,b⟩:=fin _ d ⟨ht.1,ht.2⟩;exact⟨e,a,by simp[b]⟩)
  · rw[Zaa i,Zaa g,Zaa o,Zaa D] at d;have ht:=z g o i;refine⟨λs=>⟨λq=>?_,λq=>?_⟩,λs=>⟨λB=>⟨λq=>?_,λq=>?_⟩,λB=>⟨λN=>?_,λN=>?_⟩⟩⟩
    · rw[Zac s,Zac q] at d;obtain⟨a,b⟩:=fin _ d ht;exact⟨a,by simp[b]⟩
    · rw[Zac s,Zaa q] at d;simp[d]
    · rw[Zaa s,Zac B,Zac q] at d;obtain⟨a,b⟩:=fin _ d ht;exact⟨a,by simp[b]⟩
    · rw[Zaa s,Zac B,Zaa (by simp[q])] at d;simp[d]
    · rw[Zaa s,Zaa B,Zac N] at d;simp[d];omega
    · rw[Zaa s,Zaa B,Zaa N] at d;simp[d]
def QjD:Ok Ip:=Ob AE ϕ trivial Qru
def Qby:Ok NI:=okZ (V:=Qbx) [Ip] f90 Qq2 QjD λy D=>by
 obtain⟨u,n,hl,ht⟩:=D;have v:y.p.ab.length<=1000:=n.1;have d:kO (y.p.ab.length:Int) false=Oi y:=by unfold kO Oi;rw[Zad]
 have z:cK (Oi y)=y.p.ab.length:=by simp[cK,Oi,List.countP_replicate]
 have i:(Oi y).length=y.p.ab.length:=Zcy;unfold Qbx;simp only[bI,bH,oM,sr,av,cS,bm,d,Zad,Zai];refine⟨ω,ω,ω,⟨(0,Oi y,dxK y),rfl,rfl,rfl,rfl,rfl,rfl,rfl,rfl,rfl,rfl,rfl,rfl,rfl,rfl,rfl,rfl,Zaj _,i,?_,rfl,rfl⟩,λx C=>?_⟩
 ·show 0+cK (Oi y)<=1000
  omega
 ·obtain⟨k,s,w⟩:=x;obtain⟨h1,f,t,g,a⟩:=C;simp only at h1 f t g a ⊢;have j:(⟨⟨w.w.done,w.w.c0,w.w.c1,w.w.c2,w.w.c3,w.w.c4,w.w.c5,w.w.c6,w.w.c7,w.w.c8,w.w.c9,[]⟩,w.rd,w.e⟩:kS)=w:=by rw[<-g]
  simp only[j];refine⟨λq=>?_,λq=>?_⟩
  ·have c:k<y.l.aB.length:=ω;have A:y.l.aB.getD k ⟨0,0,0,0,0,0,0,0,0,0,0⟩=y.l.aB[k]:=by rw[Zag,Zaf c];rfl
   rw[A];rw[Zaq c,yJ] at a;have h:=mJ y.p.ab y.m (cK s+1) s w y.l.aB[k] f;have o:gh ⟨y.p,s,w,y.m,y.l.aB[k]⟩=pZ y.p.ab y.m (cK s+1) s w y.l.aB[k]:=rfl;rw[<-o] at a h;refine⟨ω,q,ω,q,⟨u,n,f,by show w.rd.length+cK s<=_;omega,g,ht _ (Zas c)⟩,?_⟩;generalize gh ⟨y.p,s,w,y.m,y.l.aB[k]⟩=r at*
   refine⟨λb=>?_,λb=>?_⟩
   ·rw[Zac b] at a;simp[<-a]
   ·rw[Zaa (by simp[b])] at a;have B:=h.rd;exact⟨(k+1,r.2.1,r.2.2),ba ω ω,rfl,rfl,rfl,rfl,rfl,rfl,rfl,rfl,rfl,rfl,rfl,rfl,rfl,rfl,rfl,⟨c,h.l.trans f,by show r.2.2.rd.length+cK r.2.1<=_;omega,h.th.trans g,a⟩,by show y.l.aB.length-(k+1)<_;omega⟩
  ·have e:k=y.l.aB.length:=ω;subst e;rw[ZbH,yJ] at a;simp[<-a]
def VI (ab:List aS) (t:aK):Prop:=K0 ab t/\(ab.getD t.pc.toNat Br).op=1
theorem qQ (m:Int) (d:Xm Z):∀(n:Nat) (s:List Bool) (k:kS) (t:aK),K0 Z t->(∀u∈k.rd,VI Z u)->∀u∈(pZ Z m n s k t).2.2.rd,VI Z u
 | 0,s,k,t,_,hk=>hk
 | n+1,s,k,t,ht,hk=>by
  have hi:t.pc.toNat<Z.length:=by have:=ht.1;have:=ht.2;omega
  obtain⟨e,f,g⟩:=d.2 t.pc.toNat hi;have h0:Z.getD t.pc.toNat cX=Z.getD t.pc.toNat Br:=rfl;rw[h0] at e f g;clear h0;rw[pZ];split
  ·exact hk
  ·simp only;generalize i:Z.getD t.pc.toNat Br=x at*
   have nx:x.op≠2->x.op≠3->x.op≠7->K0 Z { t with pc:=t.pc+1 }:=λa b c=>by
    have:=g a b c;have:=ht.1;exact⟨by show 0<=t.pc+1;omega,by show t.pc+1<_;omega⟩
   split
   ·exact hk
   split
   ·rename_i l
    obtain⟨h,a2,a3,a4⟩:=e l;have h1:=qQ m d n (s.set t.pc.toNat true) k { t with pc:=x.x } ⟨h,a2⟩ hk;split
    ·exact h1
    ·exact qQ m d n _ _ _ ⟨a3,a4⟩ h1
   split
   ·rename_i o
    exact qQ m d n _ _ _ (f o) hk
   split
   ·exact qQ m d n _ _ _ (nx (by assumption) (by assumption) (by assumption)) hk
   split
   ·split
    ·exact qQ m d n _ _ _ (nx (by assumption) (by assumption) (by assumption)) hk
    ·exact hk
   split
   ·split
    ·exact qQ m d n _ _ _ (nx (by assumption) (by assumption) (by assumption)) hk
    ·exact hk
   split
   ·rename_i j
    intro u hu;rcases Zax.1 hu with hu | hu
    ·exact hk u hu
    ·rw[ZaI.1 hu];exact⟨ht,by rw[i];exact j⟩
   ·exact hk
theorem K9 (m:Int) (b:Xm Z):∀(l:List aK) (s:List Bool) (k:kS),s.length=Z.length->(∀t∈l,K0 Z t)->(∀u∈k.rd,VI Z u)->
  (∀u∈(yJ Z m l s k).2.rd,VI Z u)/\(yJ Z m l s k).2.w.aB=k.w.aB/\(yJ Z m l s k).2.rd.length+cK (yJ Z m l s k).1<=k.rd.length+cK s
 | [],s,k,_,_,hk=>⟨hk,rfl,Zah _⟩
 | t::l,s,k,hs,hl,hk=>by
  have h1:=qQ m b (cK s+1) s k t (hl t Za8) hk;have a:=mJ Z m (cK s+1) s k t hs;rw[yJ];split
  ·exact⟨h1,a.th,a.rd⟩
  ·obtain⟨g1,g2,g3⟩:=K9 m b l _ _ (a.l.trans hs) (λt ht=>hl t (ZaU _ ht)) h1;exact⟨g1,g2.trans a.th,Zav g3 a.rd⟩
def ET {y:E'} (h:dxP y):(∀u∈(fJ y).2.rd,VI y.p.ab u)/\(fJ y).2.w.aB=[]/\(fJ y).2.rd.length<=1000:=by
 obtain⟨b,a,_,ht⟩:=h;have c:cK (Oi y)=y.p.ab.length:=by simp[cK,Oi,List.countP_replicate]
 obtain⟨g1,g2,g3⟩:=K9 y.m b y.l.aB (Oi y) (dxK y) Zcy ht nofun
 have:(fJ y).2.rd.length+cK (fJ y).1<=0+cK (Oi y):=g3;have:=a.1;exact⟨g1,g2,ω⟩
def K_ (h:dsP y) (hk:k<y.L.length):dxP (lC y k):=by
 obtain⟨⟨f,c,_,_⟩,_,d⟩:=h;have e:y.L.getD k Bs=y.L[k]:=by rw[Zag,Zaf hk];rfl
 obtain⟨a,b⟩:=d _ (Zas hk);refine⟨f,c,?_,?_⟩
 ·show(y.L.getD k Bs).aB.length<=_
  rw[e];exact a
 ·show ∀t∈(y.L.getD k Bs).aB,_
  rw[e];exact b
def EU {i:Nat} (hi:i<(fJ (lC y k)).2.rd.length):ER y k (i+1)=if Xv y.p.ab y.r ((fJ (lC y k)).2.rd[i])=true then pY (ER y k i) (nxT ((fJ (lC y k)).2.rd[i])) else ER y k i:=by
 unfold ER;rw[<-Zb4 hi,Zcd];rfl
def La (l:List aK) (t:aK):(pY l t).length<=l.length+1:=by
 unfold pY;split<;>simp
def Lb {l:List aK} {u:aK} (h:u∈pY l Y):u∈l\/u=Y:=by
 unfold pY at h;split at h
 ·exact .inl h
 ·simpa using h
theorem Cb (h:dsP y) (hk:k<y.L.length):∀i,i<=(fJ (lC y k)).2.rd.length->(ER y k i).length<=i/\∀t∈ER y k i,K0 y.p.ab t
 | 0,_=>⟨by simp[ER],by simp[ER]⟩
 | i+1,hi=>by
  obtain⟨h1,d⟩:=Cb h hk i ω;rw[EU ω];split
  ·have e:=La (ER y k i) (nxT ((fJ (lC y k)).2.rd[i]));refine⟨ω,λt ht=>?_⟩;rcases Lb ht with ht | rfl
   ·exact d t ht
   ·obtain⟨⟨a,b⟩,c⟩:=(ET (K_ h hk)).1 _ (Zas (by omega:i<_));have a:0<=((fJ (lC y k)).2.rd[i]).pc:=a;have b:((fJ (lC y k)).2.rd[i]).pc<y.p.ab.length:=b;have c:(y.p.ab.getD ((fJ (lC y k)).2.rd[i]).pc.toNat cX).op=1:=c;have:=(h.1.1.2 ((fJ (lC y k)).2.rd[i]).pc.toNat ω).2.2 ω ω ω;exact⟨by show 0<=((fJ (lC y k)).2.rd[i]).pc+1;omega,by show((fJ (lC y k)).2.rd[i]).pc+1<_;omega⟩
  ·exact⟨ω,d⟩
def Qd0 (h:dsP y) (hk:k<y.L.length):(dsW y k).aB.length<=1001/\∀t∈(dsW y k).aB,K0 y.p.ab t:=by
 have c:=(ET (K_ h hk)).2.2;obtain⟨h1,a⟩:=Cb h hk _ (Zah _);show(Wh y k).length<=1001/\∀t∈Wh y k,_
 unfold Wh;split
 ·exact⟨ω,a⟩
 ·have b:=La (ER y k (fJ (lC y k)).2.rd.length) (dsA y k);refine⟨ω,λt ht=>?_⟩;rcases Lb ht with ht | rfl
  ·exact a t ht
  ·obtain⟨⟨_,_,_,hs⟩,hl,_⟩:=h;exact hs k ω
def Qd1 (h:dsP y):dlP y.p (Vw y).2/\∀l∈(Vw y).2,l.aB.length<=1001:=by
 have key:∀l∈(Vw y).2,l.aB.length<=1001/\∀t∈l.aB,K0 y.p.ab t:=λl hl=>by
  obtain⟨k,hk,rfl⟩:=ZcL.1 hl;exact Qd0 h (List.mem_range.1 hk)
 refine⟨⟨?_,λl hl=>⟨Zav (key l hl).1 ω,(key l hl).2⟩⟩,λl hl=>(key l hl).1⟩;show(Is y y.L.length).length=_
 unfold Is;rw[Za2,List.length_range];exact h.2.1
def Qbz:Ok NM:=okZ (V:=Qbt) [NI,tP,EP,Vf] f49 Qrb ⟨Qby,Gn,QdY,KT⟩ λy f=>by
 have f:dsP y:=f;have v:=f.2.1;have A:=f.1.2.2.1;have w:y.p.ab.length<=1000:=f.1.2.1.1;have l:∀k,(Is y k).length=k:=λk=>by unfold Is;rw[Za2,List.length_range]
 have s:∀k,Is y (k+1)=Is y k++[dsW y k]:=λk=>by unfold Is;rw[List.range_succ,ZcG];rfl
 unfold Qbt;simp only[bI,bH,oM,sr,av,cS,bm,a7,Zad,ZaY,ZaZ,ZaX,Zai,Zan,Zao];refine⟨⟨λk=>?_,λk=>?_⟩,⟨λk=>?_,λk=>?_⟩,⟨0,rfl,rfl,Zaj _⟩,λk hk=>⟨λq=>?_,λq=>?_⟩⟩
 ·unfold NK;rw[Zac ω]
 ·unfold NK;rw[Zaa ω]
 ·unfold Ρ;rw[Zac ω]
 ·unfold Ρ;rw[Zaa ω]
 ·have d:k<y.L.length:=ω;have u:(⟨y.p,y.L.getD k ⟨false,0,0,0,0,0,0,0,0,0,0,[]⟩,y.m,false⟩:E')=lC y k:=rfl;simp only[u];obtain⟨g1,g2,g3⟩:=ET (K_ f d);refine⟨ω,q,K_ f d,k,⟨0,rfl,rfl,rfl,rfl,rfl,rfl,rfl,rfl,rfl,rfl,rfl,rfl,rfl,Zaj _⟩,λi hi=>⟨λj=>?_,λj=>?_⟩⟩
  ·have g:i<(fJ (lC y k)).2.rd.length:=ω;have x:(fJ (lC y k)).2.rd.getD i ⟨0,0,0,0,0,0,0,0,0,0,0⟩=(fJ (lC y k)).2.rd[i]:=by rw[Zag,Zaf g];rfl
   have h:=EU g;have hlen:=(Cb f d i ω).1;obtain⟨⟨a,b⟩,c⟩:=g1 _ (Zas g);rw[x];generalize (fJ (lC y k)).2.rd[i]=t at*
   have a:0<=t.pc:=a;have b:t.pc<y.p.ab.length:=b;have n:aw .i64 t.pc 1=t.pc+1:=ba ω ω;have z:bf (y.p.ab.getD t.pc.toNat ⟨0,0,0,[]⟩).bg y.r=Xv y.p.ab y.r t:=rfl;rw[z,n];refine⟨ω,j,a,b,λo=>⟨ω,j,ω,j,ω,i+1,ba ω ω,?_,ω,ω⟩,λo=>⟨i+1,ba ω ω,?_,ω,ω⟩⟩
   ·rw[h,Zac o];rfl
   ·rw[h,Zaa (by simp[o])]
  ·have e:i=(fJ (lC y k)).2.rd.length:=ω;subst e;have hlen:=(Cb f d _ (Zah _)).1;refine⟨k,⟨λo=>⟨ω,ω,ω,rfl,rfl,rfl,rfl,rfl,rfl,rfl,rfl,rfl,rfl,rfl,?_⟩,λo=>⟨rfl,rfl,rfl,rfl,rfl,rfl,rfl,rfl,rfl,rfl,rfl,?_⟩⟩,?_,k+1,ba ω ω,?_,ω,ω⟩
   ·unfold Wh;rw[Zaa (by simp[o])];rfl
   ·unfold Wh;rw[Zac o]
   ·simp only[Zab,l,ZbA];omega
   ·rw[s];rfl
 ·rw[show k=y.L.length by omega]
def ϙ {w:dh} (h:w.aB=[]):(⟨w.done,w.c0,w.c1,w.c2,w.c3,w.c4,w.c5,w.c6,w.c7,w.c8,w.c9,[]⟩:dh)=w:=by rw[<-h]
def Qd2:Ok ES:=okZ (V:=VC) [NI] f93 Qjz Qby λy r=>by
 obtain⟨⟨l,i,n,o⟩,j,d⟩:=r;have f:∀k,(mI y k).length=k:=λk=>by unfold mI;rw[Za2,List.length_range]
 unfold VC;simp only[bI,bH,oM,sr,av,cS,bm,a7,Zad,Zai];refine⟨⟨0,rfl,rfl,Zaj _⟩,λk hk=>⟨λq=>?_,λq=>?_⟩⟩
 ·have c:k<y.L.length:=ω;have e:y.L.getD k ⟨false,0,0,0,0,0,0,0,0,0,0,[]⟩=y.L[k]:=by rw[Zag,Zaf c];rfl
  obtain⟨a,b⟩:=d _ (Zas c);have h:dxP ⟨y.p,y.L.getD k ⟨false,0,0,0,0,0,0,0,0,0,0,[]⟩,y.m,true⟩:=⟨l,i,by rw[e];exact a,by rw[e];exact b⟩;have g:=(ET h).2.1;refine⟨ω,q,h,?_,k+1,?_,ba ω ω,ω,ω⟩
  ·simp only[Zab,f,ZbA];omega
  ·unfold mI;rw[List.range_succ,ZcG];exact ZaR (λw=>_++[w]) (ϙ g)
 ·rw[show k=y.L.length by omega]
def Lc {h:By} (k:h≠[]):1<=(jx h).2.toNat/\(jx h).2.toNat<=h.length/\0<=(jx h).2:=by
 obtain⟨m,h1,a,b,_⟩:=JB k;omega
theorem EV:∀(n m:Nat) (h:By) (l:List Gt),h.length<n->h.length<m->It n h l=It m h l
 | 0,_,_,_,h,_=>by omega
 | _,0,_,_,_,h=>by omega
 | n+1,m+1,h,l,h1,a=>by
  rw[It,It];split
  ·rfl
  ·rename_i k
   have k:h≠[]:=λe=>k (.inl e)
   have:=Lc k;exact EV n m _ _ (by rw[Zbg];omega) (by rw[Zbg];omega)
theorem Ld:∀(n:Nat) (h:By) (l:List Gt),(It n h l).2.length<=l.length+h.length
 | 0,_,_=>Nat.le_add_right _ _
 | n+1,h,l=>by
  rw[It];split
  ·exact Nat.le_add_right _ _
  ·rename_i k
   have:=Lc (h:=h) λe=>k (.inl e)
   have a:=Ld n (h.drop (jx h).2.toNat) (l++[jx h]);simp only[Zab,ZbA,Zbg] at a;omega
def sk {α:Type} {l:List α} (d:α) (h:k<l.length):l.getD k d=l[k]:=by
 rw[Zag,Zaf h];rfl
def QjE:Ok Vx:=okZ (V:=Qbu) [Ga,wQ] f48 Qrd ⟨Qam,QP⟩ λy g=>by
 have hl:y.1.length<=1000000:=g;unfold Qbu;simp only[bI,bH,av,cS,bm,a7,Zcb,Zan,Zao];refine⟨ω,by simp only[Zab,ZbA];omega,⟨(y.1++[b8 y.2],[]),rfl,rfl,?_⟩,λx f=>?_⟩
 ·refine⟨by simp,by simp,?_⟩;show It ((y.1++[b8 y.2]).length+1) _ _=yK y
  rw[Zab,ZbA];rfl
 ·obtain⟨h1,h,c⟩:=f;have stop:x.1=[]\/gF x.1->x.1=(yK y).1/\x.2=(yK y).2:=λe=>by
   rw[It,Zac e] at c;rw[<-c];exact⟨rfl,rfl⟩
  refine⟨λk=>⟨λb=>?_,λb=>stop (.inr b)⟩,λk=>stop (.inl (Zap ω))⟩;have a:x.1≠[]:=λe=>by rw[e] at k;simp at k
  obtain⟨g1,g2,g3⟩:=Lc a;rw[It,Zaa (by simp[a,b])] at c;have d:qW x.1 (jx x.1).2=x.1.drop (jx x.1).2.toNat:=rfl;refine⟨by simp only[Zab,ZbA];omega,g3,ω,(x.1.drop (jx x.1).2.toNat,x.2++[jx x.1]),d,rfl,⟨by simp only[Zbg];omega,by simp only[Zab,ZbA,Zbg];omega,?_⟩,by simp only[Zbg];omega⟩;rw[<-c];exact EV _ _ _ _ (Zbr _) (by simp only[Zbg];omega)
def Ϛ (p:eu) (M:Int×List dh):Prop:=Ο p/\dlP p M.2
theorem x6 {α:Type} {p:eu} (f:α->Int×Int):∀(l:List α) (M:Int×List dh),Ϛ p M->Ϛ p (l.foldl (λM g=>Vw ⟨p,M.1,M.2,(f g).1,(f g).2⟩) M)
 | [],_,h=>h
 | g::l,M,h=>x6 f l _ ⟨h.1,(Qd1 (y:=⟨p,M.1,M.2,(f g).1,(f g).2⟩) h).1⟩
def VJ {y:NN} (hi:k<(B_ y).length):yg y (k+1)=Vw ⟨y.p,(yg y k).1,(yg y k).2,((B_ y)[k]).1,((B_ y)[k]).2⟩:=by
 unfold yg;rw[<-Zb4 hi,Zcd];rfl
def VK {y:NN} (h:qP y.p y.x) (i:Nat):Ϛ y.p (yg y i):=x6 (λg:Gt=>g) _ _ ⟨h.1,h.2.1⟩
def QbA:Ok NO:=okZ (V:=Qbv) [Vx,NM] f20 Qrf ⟨QjE,Qbz⟩ λy b=>by
 have b:qP y.p y.x:=b;have g:(B_ y).length=(yK (y.x.h,y.c)).2.length:=rfl;have f:(B_ y).length<=1000001:=by
  have h1:=Ld (y.x.h.length+2) (y.x.h++[b8 y.c]) [];have e:=b.2.2;simp only[Zab,ZbA,Zak] at h1;show(It (y.x.h.length+2) (y.x.h++[b8 y.c]) []).2.length<=_
  omega
 unfold Qbv;simp only[bI,bH,av,cS,Zad,Zai];refine⟨b.2.2,⟨0,rfl,rfl,rfl,Zaj _⟩,λi hi=>⟨λq=>?_,λq=>?_⟩⟩
 ·have a:i<(B_ y).length:=ω;have d:(yK (y.x.h,y.c)).2.getD i (0,0)=(B_ y)[i]:=sk _ a;have hs:=VJ a;rw[d];exact⟨ω,q,ω,q,VK b i,i+1,ba ω ω,(ZaR Prod.fst hs).symm,(ZaR Prod.snd hs).symm,ω,ω⟩
 ·rw[show i=(B_ y).length by omega];exact⟨rfl,rfl⟩
def VL {y:Oj} {i:Nat} (hi:i<y.x.h.length):yh y (i+1)=Vw ⟨y.p,(yh y i).1,(yh y i).2,65533,1⟩:=by
 unfold yh;rw[<-Zb4 hi,Zcd];rfl
def Cc {y:Oj} (h:qP y.p y.x) (i:Nat):Ϛ y.p (yh y i):=x6 (λ_:UInt8=>(65533,1)) _ _ ⟨h.1,h.2.1⟩
def QjF:Ok Vy:=okZ (V:=Qbw) [NM,ES] f50 Qrh ⟨Qbz,Qd2⟩ λy a=>by
 have a:qP y.p y.x:=a;have hl:=a.2.2;unfold Qbw;simp only[bI,bH,av,cS,Zad,Zai];refine⟨⟨0,rfl,rfl,rfl,Zaj _⟩,λi hi=>⟨λq=>?_,λq=>?_⟩⟩
 ·have hs:=VL (y:=y) (i:=i) ω;exact⟨Cc a i,i+1,ba ω ω,(ZaR Prod.fst hs).symm,(ZaR Prod.snd hs).symm,ω,ω⟩
 ·obtain rfl:i=y.x.h.length:=ω;exact⟨Cc a _,rfl⟩
abbrev RAV {T0 T1 T2 T3 T4 T5 T6 T7 T8:Type} (a:T0) (b:T1) (c:T2) (d:T3) (e:T4) (f:T5) (g:T6) (h:T7) (i:T8) (p:Prop):Prop:=aa [a] (aa [b] (aa [c] (aa [d] (aa [e] (aa [f] (aa [g] (aa [h] (aa [i] p))))))))
def QbB (y:eu):Prop:=let a:=y.aj.length;(∃z:Nat,0=(z:Int)/\[]=mH y z/\RA2 y ((Iv (z<=a))))/\(∀x:Nat,let q1:=mH y x;let c:=ay (x:Int) (ag y.aj);let b:=gt 0 y.aj (x:Int).toNat;let d:=bC q1 [dh.mk false (-1) (-1) (-1) (-1) (-1) (-1) (-1) (-1) (-1) (-1) [aK.mk b (-1) (-1) (-1) (-1) (-1) (-1) (-1) (-1) (-1) (-1)]];(Iv (x<=a))->ak c (Iv True/\aH 0 (x:Int)=true/\c=true/\Iv True/\bx (ag d) 112=true/\RAV q1 q1 q1 y.aj y.aj y.aj b b b (∃z:Nat,aw .i64 (x:Int) 1=(z:Int)/\d=mH y z/\aa [y.ab] (aa [y.aj] ((Iv (z<=a/\(a-z)<(a-x))))))) (q1=mH y a/\True))
def QbC (y:eu):Prop:=let a:=mH y y.aj.length;Iv (lN y)/\aa [y.ab] (aa [y.aj] (aa ([[]]:List (List UInt8)) (aa ([0]:List Int) (aa [a] (True)))))
def QbD (y:lG):Prop:=let b:=!(seq y.s.c []);let q1:=mH y.p y.p.aj.length;let a:=ite (nN y) (qN y.q) Wg;let e:=λp:Prop=>RAB (RAL ([]:List dh) (RAI (RAC (RAL ([]:List dh) (RAI (RAC (RAL q1 p)))))));let d:Prop:=(RA3 y.s (xz y (aa [b] (True))));Iv (lN y.p)/\RA2 y.p (ak b (Iv (lN y.q)/\aa [y.q.ab] (aa [y.q.aj] (aa ([0,0]:List Int) (false=false/\false=false/\e ([]=a.h/\0=a.m/\mH y.q y.q.aj.length=a.L/\d))))) (aa ([0,0]:List Int) (false=false/\false=false/\e ([]=a.h/\0=a.m/\[]=a.L/\d))))
def NT (a:Bool):pO a a:=by cases a<;>rfl
theorem VM {p:eu} (h:k<p.aj.length):mH p k++[nh (p.aj.getD k 0)]=mH p (k+1):=by
 grind [mH,List.take_append_getElem]
theorem QjG:Ok Vv:=okZ (V:=QbB) [Vf] f47 Qq7 KT λ(y:eu) a=>by
 have⟨h1,b,c⟩:=a;have hlen:∀x,(mH y x).length<=y.aj.length:=λx=>by grind [mH]
 unfold QbB;simp only[bH,Zad];refine⟨⟨0,rfl,rfl,Zaj _⟩,λx d=>⟨λk=>?_,λk=>?_⟩⟩
 ·grind [VM,nh]
 ·grind
def QjH:Ok Μ:=okZ (V:=QbC) [Vv] f18 (λ_=>ew ()) QjG λ(y:eu) a=>by
 unfold QbC;simp only[bH];exact a
def VN:Ok NJ:=okZ (V:=QbD) [Μ] Tryz.f7 (λ_=>ew ()) QjH λ(y:lG) c=>by
 have⟨h1,b⟩:=c;unfold QbD nN;simp only[bH,qg];refine⟨h1,λa=>⟨b,?_⟩,λa=>?_⟩
 ·rw[Zac a];exact⟨rfl,rfl,rfl⟩
 ·rw[Zaa (by simp[a])];exact⟨rfl,rfl,rfl⟩
end
end sx
end Go.Proofs.YtklaonhcplaofaaGreat
