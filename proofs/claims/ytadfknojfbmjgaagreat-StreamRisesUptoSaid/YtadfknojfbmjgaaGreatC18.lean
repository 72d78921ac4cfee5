/- StreamRises: a part of the proof. -/
import Derived.Test.YtadfknojfbmjgaaGreatC17
import Derived.Test.YtadfknojfbmjgaaGreatC10
import Derived.Test.YtadfknojfbmjgaaGreatC15
set_option linter.all false
namespace Go.Proofs.YtadfknojfbmjgaaGreat
set_option maxRecDepth 100000
set_option maxHeartbeats 4000000
namespace sx
noncomputable section
open Go Go.RowKit cls syn
def SA (y:Nd):Prop:=let a:Prop:=(ag (az y.op 6) (true=fQ y/\True) (az y.cap 0=fQ y/\True));let b:Prop:=(ag (az y.op 5) (a) (ag (az y.mn 0) (ag (az y.mx 0) (ag (!y.lz) (a) (false=fQ y/\True)) (false=fQ y/\True)) (false=fQ y/\True)));ag (az y.op 2) (b) (ag (az (ab y.r) 0) (b) (false=fQ y/\True))
def SB (y:Nd×Int):Prop:=let h:=aC y.1.mn y.1.mx;let e:=az y.1.kids 0;let a:=(bw y.1 y.2).2;let b:=(bw y.1 y.2).1;let i:=az y.1.cap (an .i64 y.2 1);let j:=!(fQ (Nd.mk y.1.op y.1.r y.1.mn y.1.mx y.1.lz y.1.cap y.1.kids));let k:Prop:=(aa [y.1.mn] (1=b/\false=a/\True));let d:Prop:=(aa [y.1.kids] (0=b/\e=a/\True));let f:Prop:=(aa [y.1.kids,y.1.kids] (y.1.kids=b/\aC 2 y.1.kids=a/\True));let g:Prop:=(ag (az y.1.op 5) (ag (az y.1.kids 1) (ag (aC 0 y.1.mn) (ag (aC y.1.mn 30) (ag (az y.1.mx (-1)) (aa [y.1.kids,y.1.mn,y.1.mn,y.1.mx] (1=b/\true=a/\True)) (ag h (aa [y.1.kids,y.1.mn,y.1.mn,y.1.mx,y.1.mx,y.1.mn,y.1.mx] (1=b/\aC y.1.mx 30=a/\True)) (aa [y.1.kids,y.1.mn,y.1.mn,y.1.mx,y.1.mx,y.1.mn] (1=b/\false=a/\True)))) (aa [y.1.kids,y.1.mn,y.1.mn] (1=b/\false=a/\True))) (aa [y.1.kids,y.1.mn] (1=b/\false=a/\True))) (aa [y.1.kids] (1=b/\false=a/\True))) (ag (az y.1.op 6) (ag (az y.1.kids 1) (ag i (aa [y.1.kids,y.1.cap,y.1.cap] (1=b/\aC y.1.cap 4=a/\True)) (aa [y.1.kids,y.1.cap] (1=b/\false=a/\True))) (aa [y.1.kids] (1=b/\false=a/\True))) (0=b/\false=a/\True)));let c:Prop:=(ag (az y.1.op 2) (ag e (Iv (y.1.r.length<=100000000)/\aa [y.1.r] (0=b/\decide (y.1.r=aL y.1.r)=a/\True)) (0=b/\false=a/\True)) (ag (az y.1.op 3) (ag (az y.1.op 3) (f) (g)) (ag (az y.1.op 4) (f) (g))));Iv True/\aa [y.1.op] (aa [y.1.r] (aa [y.1.mn,y.1.mx] (aa [y.1.lz] (aa [y.1.cap,y.1.kids] (ag j (0=b/\false=a/\True) (ag (az y.1.op 1) (ag (az y.1.op 1) (d) (c)) (ag (az y.1.op 7) (ag (az y.1.op 7) (d) (c)) (ag (az y.1.op 8) (d) (c)))))))))
def HR (y:WkS×Int):Prop:=let g:=an .i64 y.2 1;let m:=aC (ab y.1.l) y.1.at_;let h:=((nO y).2.2:Int);let i:=((nO y).2.1:Int);let a:=gt (Nd.mk 0 [] 0 0 false 0 0) y.1.l y.1.at_.toNat;let k:=Nd.mk a.op a.r a.mn a.mx a.lz a.cap a.kids;let d:=bw k y.1.gr;let e:=λp:Prop=>aa [y.1.l] p;let j:Prop:=(false=(nO y).1/\e (y.1.at_=i/\y.1.gr=h/\True));ag m (aa [y.1.at_] (aa [y.1.l] (j))) (aa [y.1.at_] (aa [y.1.l] (ag (ax 240 y.2) (j) (aC 0 y.1.at_/\ax y.1.at_ (ab y.1.l)/\aa [y.1.l] (aa [y.1.at_,a.op] (aa [a.r] (aa [a.mn,a.mx] (aa [a.lz] (aa [a.cap,a.kids] (Iv (iK k/\0<=y.1.gr/\y.1.gr<=1000000)/\aa [a.op] (aa [a.r] (aa [a.mn,a.mx] (aa [a.lz] (aa [a.cap,a.kids,y.1.gr,a.op] (aa [a.r] (aa [a.mn,a.mx] (aa [a.lz] (aa [a.cap,a.kids,y.1.gr] ((mv .i64 d.1)->ag (!d.2) (j) ((ag (az a.op 6) (∃z:Unit,aa [y.2,d.1] (aa [y.1.l] (an .i64 y.1.at_ 1=(y.1.at_+1)/\an .i64 y.1.gr 1=Ng y/\(Iv (Nh y))))) (∃z:Unit,aa [y.2,d.1] (aa [y.1.l] (an .i64 y.1.at_ 1=(y.1.at_+1)/\y.1.gr=Ng y/\(Iv (Nh y))))))/\(∀x:Unit,(Iv (Nh y))->(∃z:Int×Int×Int,aa [y.2] (d.1=z.2.2/\e ((y.1.at_+1)=z.1/\Ng y=z.2.1/\(Iv (Ze y z)))))/\(∀x1:Int×Int×Int,let f:=(WkS.mk y.1.l x1.1 x1.2.1,g);let b:=((nO f).2.2:Int);let c:=((nO f).2.1:Int);(Iv (Ze y x1))->ag (ax 0 x1.2.2) (Iv (WkP f/\(241-g.toNat)<(241-y.2.toNat))/\aa [g] (aa [y.1.l] (aa [x1.1,x1.2.1] (ag (!(nO f).1) (false=(nO y).1/\e (c=i/\b=h/\True)) (∃z:Int×Int×Int,aa [y.2] (da .i64 x1.2.2 1=z.2.2/\e (c=z.1/\b=z.2.1/\(Iv (Ze y z/\z.2.2.toNat<x1.2.2.toNat))))))))) (true=(nO y).1/\e (x1.1=i/\x1.2.1=h/\True))))))))))))))))))))))))
def SC:∀y,HR y=Qi8 y:=λy=>by kernel_rfl
def SD (y:List Nd):Prop:=let a:=(WkS.mk y 0 0,(0:Int));ag (ax (ab y) 1) (false=cR y/\True) (ag (ax 480 (ab y)) (false=cR y/\True) (Iv (WkP a)/\aa ([0]:List Int) (aa [y] (aa ([0,0]:List Int) (ag (nO a).1 (az ((nO a).2.1:Int) (ab y)=cR y/\True) (false=cR y/\True))))))
theorem Qp6 (y:Nd) (a:Sy.pre y):SA y:=by
 grind [SA,fQ]
def Qi9:Ok Sy:=okZ [] Tryz.f139 (λ_=>cX ()) trivial Qp6
theorem Qp7 (y:Nd×Int) (e:Sz.pre y):SB y:=by
 obtain⟨⟨op,r,mn,mx,lz,cap,kids⟩,g⟩:=y;obtain⟨h1,h,i⟩:r.length<=1000000/\0<=g/\g<=1000000:=e;have c:an IntKind.i64 g 1=g+1:=aV ω ω;have d:∀a b:Int,(a==b)=decide (a=b):=λa b=>by rfl
 unfold SB bw;simp only[dq,aj,gg,iH,uo,Qhu,c,d,Zan,Zao,ZaP,Zbi];generalize fQ _=f;generalize aL r=k;have j:r.length<=100000000:=ω;cases f
 all_goals
  with_reducible repeat' first | apply And.intro | intro _
  all_goals first
   | assumption
   | (simp_all;done)
   | (simp_all;omega)
   | (exfalso;omega)
def Qja (a:Ok dc):Ok Sz:=okZ [Sy,Eh] Tryz.f110 (λ_=>cX ()) ⟨Qi9,Qb2 a⟩ Qp7
theorem Az {L:List Nd} {n:Nat} (h:∀a g,a<=L.length->g<=a->a<=(eL L n a g).2.1/\(eL L n a g).2.1<=L.length/\(eL L n a g).2.2<=(eL L n a g).2.1):∀k a g,a<=L.length->g<=a->a<=(ee (eL L n) k a g).2.1/\(ee (eL L n) k a g).2.1<=L.length/\(ee (eL L n) k a g).2.2<=(ee (eL L n) k a g).2.1
 | 0,a,g,h1,b=>⟨Zah _,h1,b⟩
 | k+1,a,g,h1,b=>by
  have:=h a g h1 b;unfold ee;split
  ·exact this
  ·have:=Az h k _ _ this.2.1 this.2.2;omega
theorem KP (L:List Nd):∀n a g,a<=L.length->g<=a->a<=(eL L n a g).2.1/\(eL L n a g).2.1<=L.length/\(eL L n a g).2.2<=(eL L n a g).2.1
 | 0,a,g,h1,b=>⟨Zah _,h1,b⟩
 | n+1,a,g,h1,b=>by
  unfold eL;split
  ·grind
  ·split
   ·grind
   ·have:=Az (KP L n) (bw (L.getD a (nd 0)) g).1.toNat (a+1) (if (L.getD a (nd 0)).op=6 then g+1 else g) ω (by grind);omega
theorem Qjb (y:Zd) (A:xM.pre y):HR y:=by
 obtain⟨⟨l,a,g⟩,d⟩:=y;obtain⟨⟨h1,e⟩,u,v,c⟩:(l.length<=1000000/\∀x∈l,iK x)/\(0<=a/\a<=l.length)/\(0<=g/\g<=a)/\0<=d/\d<=241:=A;obtain⟨a,rfl⟩:=Zau u.1;obtain⟨g,rfl⟩:=Zau v.1;obtain⟨d,rfl⟩:=Zau c.1;have eS:nO (⟨l,a,g⟩,d)=eL l (241-d) a g:=by rfl
 have o:=KP l;unfold HR;simp only[QaU,dq,aj,ZaX,ZaY,ZaZ,Zan,Zao,dA,Zad,D6];have t:an .i64 (d:Int) 1=((d+1:Nat):Int):=by grind
 have p:(⟨(l.getD a ⟨0,[],0,0,false,0,0⟩).op,(l.getD a ⟨0,[],0,0,false,0,0⟩).r,(l.getD a ⟨0,[],0,0,false,0,0⟩).mn,(l.getD a ⟨0,[],0,0,false,0,0⟩).mx,(l.getD a ⟨0,[],0,0,false,0,0⟩).lz,(l.getD a ⟨0,[],0,0,false,0,0⟩).cap,(l.getD a ⟨0,[],0,0,false,0,0⟩).kids⟩:Nd)=l.getD a (nd 0):=rfl;have s:(l.getD a ⟨0,[],0,0,false,0,0⟩).op=(l.getD a (nd 0)).op:=rfl;rw[p,s,t,eS];have zero:∀(n:Nat),(n=0\/l.length<=a\/(bw (l.getD a (nd 0)) g).2=false)->false=(eL l n a g).1/\(a:Int)=((eL l n a g).2.1:Nat)/\(g:Int)=((eL l n a g).2.2:Nat):=λn h=>by
  cases n with
  | zero=>exact⟨rfl,rfl,rfl⟩
  | succ n=>
   grind [eL]
 have H:an .i64 (a:Int) 1=(a:Int)+1:=aV ω ω;have I:an .i64 (g:Int) 1=(g:Int)+1:=aV ω ω;have on:QeN (⟨l,a,g⟩,d)=l.getD a (nd 0):=rfl;have B:Ng (⟨l,a,g⟩,d)=if (l.getD a (nd 0)).op=6 then(g:Int)+1 else g:=by rfl
 have ok:Nh (⟨l,a,g⟩,d)=((a:Int)<l.length/\(d:Int)<=240/\(bw (l.getD a (nd 0)) g).2):=by rfl
 rw[B,ok];refine⟨λk=>zero _ (.inr (.inl ω)),λk=>⟨λk2=>zero _ (.inl ω),λk2=>⟨ω,ω,⟨e _ ?_,ω,ω⟩,λkf=>⟨λk3=>zero _ (.inr (.inr k3)),λk3=>⟨⟨λk4=>?_,λk4=>?_⟩,λ_=>⟨⟨((a:Int)+1,(if (l.getD a (nd 0)).op=6 then(g:Int)+1 else g),(bw (l.getD a (nd 0)) g).1),rfl,rfl,rfl,?_⟩,λx z=>?_⟩⟩⟩⟩⟩⟩
 ·grind
 ·grind
 ·grind
 ·have L:a<l.length:=ω;have K:d<=240:=ω;have E:241-d=(240-d)+1:=ω;obtain⟨G,J⟩:∃G:Nat,(if (l.getD a (nd 0)).op=6 then g+1 else g)=G:=⟨_,rfl⟩;have i:(if (l.getD a (nd 0)).op=6 then(g:Int)+1 else g)=(G:Int):=by grind
  have w:G<=g+1:=ω;rw[i];refine⟨⟨⟨h1,e⟩,⟨show 0<=(a:Int)+1 by omega,show(a:Int)+1<=(l.length:Int) by omega⟩,⟨show 0<=(G:Int) by omega,show(G:Int)<=(a:Int)+1 by omega⟩,c.1,c.2⟩,show(a:Int)<(l.length:Int) by omega,?_,λ_=>k2,kf.2⟩;grind [eL,Int.toNat_natCast]
 ·obtain⟨b,g1,q⟩:=x;obtain⟨⟨_,i1,i2,_⟩,i3,i4,i5,i6⟩:=z;have i1:0<=b/\b<=(l.length:Int):=i1;have i2:0<=g1/\g1<=b:=i2;have i4:ee (eL l (240-d)) q.toNat b.toNat g1.toNat=eL l (241-d) a g:=i4.trans eS;obtain⟨b,rfl⟩:=Zau i1.1;obtain⟨g1,rfl⟩:=Zau i2.1;simp only[Zad] at i4;have f:nO (⟨l,b,g1⟩,((d+1:Nat):Int))=eL l (240-d) b g1:=by
   grind [nO,Int.toNat_natCast]
  simp only;rw[f];obtain⟨b1,C,D⟩:=o (240-d) b g1 ω ω;refine⟨λk4=>⟨⟨⟨⟨h1,e⟩,i1,i2,ω,show((d+1:Nat):Int)<=241 by omega⟩,ω⟩,λk5=>?_,λk5=>?_⟩,λk4=>?_⟩
  ·obtain⟨m,j⟩:∃m,q.toNat=m+1:=⟨q.toNat-1,ω⟩;grind [ee]
  ·obtain⟨m,j⟩:∃m,q.toNat=m+1:=⟨q.toNat-1,ω⟩;rw[j] at i4;unfold ee at i4;rw[Zaa (by grind)] at i4;have e2:da .i64 q 1=q-1:=o6 ω (by grind);have F:(q-1).toNat=m:=ω;rw[e2];refine⟨(((eL l (240-d) b g1).2.1:Nat),((eL l (240-d) b g1).2.2:Nat),q-1),rfl,rfl,rfl,⟨⟨⟨h1,e⟩,⟨ZaF _,show((eL l (240-d) b g1).2.1:Int)<=(l.length:Int) by omega⟩,⟨ZaF _,show((eL l (240-d) b g1).2.2:Int)<=((eL l (240-d) b g1).2.1:Int) by omega⟩,c.1,c.2⟩,i3,?_,λ_=>k2,by grind⟩,by grind⟩;grind [Int.toNat_natCast]
  ·rw[show q.toNat=0 by omega] at i4;rw[<-i4];exact⟨rfl,rfl,rfl⟩
def QeO (a:Ok dc):Ok xM:=OJ (λy=>241-y.2.toNat) SC (Qja a) Qjb
theorem Qp8 (y:List Nd) (c:HQ.pre y):SD y:=by
 have c:∀x∈y,iK x:=c;unfold SD;simp only[dq,aj,uo,gf,gG];have e:nO (⟨y,0,0⟩,0)=eL y 241 0 0:=rfl;rw[e];unfold cR;have d:∀a b:Nat,(a==b)=decide ((a:Int)=b):=λa b=>by grind
 rw[d];refine⟨λh=>?_,λh=>⟨λf=>?_,λf=>⟨⟨⟨show y.length<=1000000 by omega,c⟩,⟨ZaQ _,ZaF _⟩,⟨ZaQ _,ZaQ _⟩,ZaQ _,show(0:Int)<=241 by decide⟩,λg=>?_,λg=>?_⟩⟩⟩
 ·grind
 ·grind
 ·grind
 ·grind
def Qcm (a:Ok dc):Ok HQ:=okZ [xM] Tryz.f44 (λ_=>cX ()) (QeO a) Qp8
abbrev QL:=List Int×List Int
abbrev QS:=QL×bO
def gq (p:QL):List Gt:=(List.range p.1.length).map λi=>(if p.1.getD i 0= -1 then 65533 else p.1.getD i 0,p.2.getD (i+1) 0-p.2.getD i 0)
structure Ca (p:QL):Prop where
 len:p.1.length<=1000
 r:∀i,i<p.1.length->p.1.getD i 0=if eD (gq p) i then-1 else aD (gq p) i
 a:∀i,i<=p.1.length->p.2.getD i 0=place (gq p) i
 al:p.2.length=p.1.length+1
 f:Fx (gq p)
 n:∀g∈gq p,1<=g.2/\g.2<=4
 p0:∀i,0<=aD (gq p) i
def fv (y:QS):Prop:=Ca y.1/\(0<=y.2.i/\y.2.i<=100000)/\y.2.opens=0/\0<=y.2.ae/\y.2.ae<=4
def qO (p:QL) (s:bO):List (Nat×AO D.E):=[(0,.cells [.list 14 p.1,.list 5 p.2,.int .i64 s.i,.int .i64 s.ae,.int .i64 s.err,.int .i64 s.wh] 141 false)]
def QeP (v:AV D.E) (s:St D.E):C QS:=match v with
 | .ptr b _=>av (cE (s.h.get b)) λo=>match o with
  | .cells cs _ _=>match cs with
   | [r,a,i,g,e,w]=>av (rowsOf D s 14 r) λr=>av (rowsOf D s 5 a) λa=>aI (cT i) λ_ i=>aI (cT g) λ_ g=>aI (cT e) λ_ e=>aI (cT w) λ_ w=>.ret (((r:List Int),(a:List Int)),⟨i,0,g,e,w⟩)
   | _=>.fail
  | _=>.fail
 | _=>.fail
def inQ (args:List (AV D.E)) (s:St D.E):C QS:=match args with
 | [p]=>QeP p s
 | _=>.fail
def SE (args:List (AV D.E)) (s:St D.E):C (QS×Int):=match args with
 | [p,a]=>av (QeP p s) λy=>aI (cT a) λ_ n=>.ret (y,n)
 | _=>.fail
def Qcn (args:List (AV D.E)) (s:St D.E):C (QS×Int×Int):=match args with
 | [p,a,b]=>av (QeP p s) λy=>aI (cT a) λ_ m=>aI (cT b) λ_ n=>.ret (y,m,n)
 | _=>.fail
abbrev xN (f:FuncId) (Y:Type) (qs:Y->QS) (zy:List (AV D.E)->St D.E->C Y) (pre:Y->Prop) (args:Y->List (AV D.E)) (out:Y->bO) (res:Y->AV D.E):bf D:=⟨f,Y,zy,λy=>fv (qs y)/\pre y,λy=>.ptr 0 0::args y,λy=>qO (qs y).1 (qs y).2,res,λy=>qO (qs y).1 (out y),1,1⟩
variable {G:List Gt}
def Qjc (s:bO) (e a:Int):bO:=⟨s.i,s.opens,s.ae,cj (az s.err 0) e s.err,cj (az s.err 0) a s.wh⟩
def sw:bf D:=xN 54 (QS×Int×Int) (·.1) Qcn (λ_=>True) (λy=>[Qu9 y.2.1,Qu9 y.2.2]) (λy=>Qjc y.1.2 y.2.1 y.2.2) λ_=>.tuple []
def zd:bf D:=xN 55 QS (λy=>y) inQ (λy=>y.2.i<=y.1.1.length) (λ_=>[]) (λy=>y.2) λy=>Qu9 (place (gq y.1) (nn y.2).i)
def rb:bf D:=xN 86 (QS×Int) (·.1) SE (λy=>0<=y.2/\y.2<=127) (λy=>[.int .i32 y.2]) (λy=>y.1.2) λy=>.bool (aQ (gq y.1.1) (nn y.1.2) y.2)
def SF:bf D:=bZ 198 Int (λa _=>in1 a) (λ_=>True) (λy=>[.int .i32 y]) λy=>.bool (ic y)
def AA:bf D:=bZ 176 (List Rg) Ef (λ_=>True) (λy=>[.list 6 y]) λy=>.list 7 [xb y]
def SH:bf D:=bZ 197 (List Rg) Ef (λ_=>True) (λy=>[.list 6 y]) λy=>.bool (cY y)
def Cb:bf D:={ y9 with f:=87 }
def Qqe (y:Cb.Y):cH D:=⟨[],[],[(250,⟨Nat,[1],λx=>[(5,.grow 7 ({ nd y.1 with kids:=y.2.length }::(y.2.take x).flatten) 0),(6,Qu9 x)],[],λ_=>[(0,.tok 7 131)],1,λx=>x<=y.2.length,λx=>y.2.length-x⟩)],[],1,[]⟩
def SI:bf D:={ M5 with f:=181 }
def Ni:bf D:={ Hy with f:=182 }
def Qqh (y:Ni.Y):cH D:=⟨[],[],[(122,⟨Nat,[0],λx=>[(4,Qu9 (gF (y.take x))),(5,Qu9 x)],[],λ_=>[],0,λx=>x<=y.length,λx=>y.length-x⟩)],[],1,[]⟩
def Nj:bf D:=xN 180 QS (λy=>y) inQ (λ_=>True) (λ_=>[]) (λy=>zz (dh (gq y.1) (nn y.2))) λy=>.tuple [.str (gI (gq y.1) (nn y.2)),.bool (gv (gq y.1) (nn y.2))]
def Nk (y:QS) (x:Int×By×Bool):Prop:=(0<=x.1/\x.1<=100000)/\x.2.1.length<=x.1/\(nn y.2).i<=x.1.toNat/\(x.2.2=decide ((nn y.2).i<x.1.toNat))/\∃n,(gq y.1).length<=n+x.1.toNat/\b6 (gq y.1) n x.1.toNat x.2.1=b6 (gq y.1) ((gq y.1).length-(nn y.2).i) (nn y.2).i []
def Qqj (y:Nj.Y):cH D:=⟨[],[],[(28,⟨Int×By×Bool,[0],λx=>[(4,.str x.2.1),(5,.bool x.2.2)],[],λx=>qO y.1 ⟨x.1,0,y.2.ae,y.2.err,y.2.wh⟩,1,Nk y,λx=>y.1.1.length-x.1.toNat⟩)],[],1,[]⟩
def SJ (y:(((List Int)×(List Int))×bO)×Int×Int):Prop:=let a:=az y.1.2.err 0;let b:=cj a y.2.2 y.1.2.wh;let c:=cj a y.2.1 y.1.2.err;let d:=λp:Prop=>aa [y.1.1.1,y.1.1.2] (aa [y.1.2.i,y.1.2.ae] p);ag a (d (y.2.1=c/\y.2.2=b/\True)) (d (y.1.2.err=c/\y.1.2.wh=b/\True))
def SK (y:((List Int)×(List Int))×bO):Prop:=let a:=gt 0 y.1.2 y.2.i.toNat;aC 0 y.2.i/\ax y.2.i (ab y.1.2)/\aa [y.1.2] (aa [y.2.i,a] (a=place (gq y.1) y.2.i.toNat/\aa [y.1.1,y.1.2] (aa [y.2.i,y.2.ae,y.2.err,y.2.wh] (True))))
def SM (y:(((List Int)×(List Int))×bO)×Int):Prop:=let a:=aQ (gq y.1.1) (nn y.1.2) y.2;let b:=ax y.1.2.i (ab y.1.1.1);let c:=gt 0 y.1.1.1 y.1.2.i.toNat;let d:Prop:=(aa [y.1.1.1,y.1.1.2] (aa [y.1.2.i,y.1.2.ae,y.1.2.err,y.1.2.wh] (True)));ag b (aC 0 y.1.2.i/\b/\aa [y.1.2.i] (aa [y.1.1.1,y.1.1.1] (aa [y.1.2.i,c] (az c y.2=a/\d)))) (aa [y.1.2.i] (aa [y.1.1.1] (false=a/\d)))
def Qco (y:Int):Prop:=let a:Prop:=(ag (aC 123 y) (aC y 126=ic y/\True) (false=ic y/\True));let b:Prop:=(ag (aC 91 y) (ag (aC y 96) (true=ic y/\True) (a)) (a));let c:Prop:=(ag (aC 58 y) (ag (aC y 64) (true=ic y/\True) (b)) (b));ag (aC 33 y) (ag (aC y 47) (true=ic y/\True) (c)) (c)
def HS (y:List (Int×Int)):Prop:=
 ([Nd.mk 2 y 0 0 false 0 0]:List Nd)=([xb y]:List Nd)/\
 True
def SO (y:List (Int×Int)):Prop:=let a:=(gt (0,0) y 0).1;let b:=(gt (0,0) y 0).2;ag (az (ab y) 1) (Tt 1 (ax 0 (ab y)/\Tt 1 (ax 0 (ab y)/\aa [a,b] (az a b=cY y/\True)))) (false=cY y/\True)
def SP (y:Int×(List (List Nd))):Prop:=let a:=ab y.2;let b:=y.2.length;let c:=bK y.1 y.2;let d:=Nd.mk y.1 [] 0 0 false 0 (b:Int);ag (az a 1) (Tt 1 (ax 0 a/\gt [] y.2 0=c/\True)) (ag (az a 0) (([Nd.mk 1 [] 0 0 false 0 0]:List Nd)=c/\True) ((∃z:Nat,aa [y.2] (([Nd.mk y.1 [] 0 0 false 0 a]:List Nd)=(d::(List.flatten (List.take z y.2)))/\0=(z:Int)/\(Iv (z<=b))))/\(∀x:Nat,let e:=(d::(List.flatten (List.take x y.2)));let f:=aZ e (gt [] y.2 (x:Int).toNat);(Iv (x<=b))->ag (ax (x:Int) a) (aC 0 (x:Int)/\ax (x:Int) a/\fits (ab f) 72/\∃z:Nat,aa [y.2] (f=(d::(List.flatten (List.take z y.2)))/\an .i64 (x:Int) 1=(z:Int)/\(Iv (z<=b/\(b-z)<(b-x))))) (e=c/\True))))
def SQ (y:(List UInt8)×(List UInt8)):Prop:=let a:=!(az (eO y.1) (eO y.2));ag a (ax (eO y.1) (eO y.2)=ie y.1 y.2/\True) (slt y.1 y.2=ie y.1 y.2/\True)
def SR (y:List UInt8):Prop:=ag (ax 2 (eO y)) (0=(eE y).1/\false=(eE y).2/\True) ((∃z:Nat,aa [y] (0=gF (List.take z y)/\0=(z:Int)/\(Iv (z<=y.length))))/\(∀x:Nat,let a:=y.length;let b:=gF (List.take x y);let c:=ax (x:Int) (eO y);(Iv (x<=a))->ag c (aC 0 (x:Int)/\c/\∃z:Nat,aa [y] (an .i64 (iR .i64 b 10) (wc .i64 (da .u8 (sat y (x:Int)) 48))=gF (List.take z y)/\an .i64 (x:Int) 1=(z:Int)/\(Iv (z<=a/\(a-z)<(a-x))))) (b=(eE y).1/\aC b 30=(eE y).2/\True)))
def SS (y:((List Int)×(List Int))×bO):Prop:=let a:=y.1.1;let j:=gI (gq y.1) (nn y.2);let e:=ab a;let k:=gv (gq y.1) (nn y.2);let l:=((b6 (gq y.1) ((gq y.1).length-y.2.i.toNat) y.2.i.toNat []).1:Int);let f:=λp:Prop=>aa [a,y.1.2] p;let g:=λp:Prop=>aa [y.2.ae,y.2.err,y.2.wh] p;let m:Prop:=(y.2.ae=((y.2.ae.toNat:Nat):Int)/\aa [y.2.err,y.2.wh] (True));(∃z:Int×(List UInt8)×Bool,[]=z.2.1/\false=z.2.2/\f (y.2.i=z.1/\g ((Iv (Nk y z)))))/\(∀x:Int×(List UInt8)×Bool,let b:=gt 0 a x.1.toNat;let h:=we x.2.1 (Utf8.encode b).data.toList;let c:Prop:=(x.2.1=j/\x.2.2=k/\f (x.1=l/\m));let d:Prop:=(aC 0 x.1/\ax x.1 e/\aC (eO h) BIG/\aa [a] (aa [x.1,b] (∃z:Int×(List UInt8)×Bool,h=z.2.1/\true=z.2.2/\f (an .i64 x.1 1=z.1/\g ((Iv (Nk y z/\(a.length-z.1.toNat)<(a.length-x.1.toNat))))))));(Iv (Nk y x))->ag (ax x.1 e) (aC 0 x.1/\ax x.1 e/\ag (aC 48 b) (aC 0 x.1/\ax x.1 e/\aa [x.1] (aa [a,a] (aa [x.1,b] (aa [a] (aa [x.1,b] (ag (aC b 57) (ag (!(seq x.2.1 [])) (d) (aC 0 x.1/\ax x.1 e/\aa [a] (aa [x.1,b] (ag (!(az b 48)) (d) (∃z:Int×(List UInt8)×Bool,x.2.1=z.2.1/\true=z.2.2/\f (an .i64 x.1 1=z.1/\g ((Iv (Nk y z/\(a.length-z.1.toNat)<(a.length-x.1.toNat)))))))))) (c))))))) (aa [x.1] (aa [a,a] (aa [x.1,b] (c))))) (aa [x.1] (aa [a] (c))))
def xO (p:QL):(gq p).length=p.1.length:=by unfold gq;simp
theorem EA {i:Nat} (h:eD G i):aD G i=65533:=by
 grind [aD,eD]
theorem Ca.rune {p:QL} (h:Ca p) {i:Nat} (hi:i<p.1.length):(eD (gq p) i=false/\p.1.getD i 0=aD (gq p) i)\/(eD (gq p) i/\p.1.getD i 0= -1/\aD (gq p) i=65533):=by
 have:=h.r i hi;grind [EA]
def HU {s:Ps} (r:Int) (h:s.i<G.length):aQ G s r=decide (aD G s.i=r):=R7 r h
def Qql (y:QS×Int×Int) (a:sw.pre y):SJ y:=by
 unfold SJ;simp only[Qbt];exact⟨λh=>by rw[h];exact⟨rfl,rfl⟩,λh=>by rw[h];exact⟨rfl,rfl⟩⟩
def ux:Ok sw:=okZ [] Tryz.f54 (λ_=>cX ()) trivial Qql
def Qqm (y:QS) (d:zd.pre y):SK y:=by
 obtain⟨⟨h1,b,_⟩,c⟩:=d;have h1:Ca y.1:=h1;have b:0<=y.2.i/\y.2.i<=100000:=b;have c:y.2.i<=y.1.1.length:=c;have e:=h1.al;unfold SK;simp only[cG,Zai,dP,gf,aj,dA];exact⟨b.1,ω,h1.a _ ω⟩
def EB:Ok zd:=okZ [] Tryz.f55 (λ_=>cX ()) trivial Qqm
theorem Qqn (y:QS×Int) (d:rb.pre y):SM y:=by
 obtain⟨⟨h1,a,_⟩,b,c⟩:=d;have h1:Ca y.1.1:=h1;have a:0<=y.1.2.i/\y.1.2.i<=100000:=a;have b:0<=y.2:=b;have c:y.2<=127:=c;have hl:=xO y.1.1;unfold SM;simp only[Qbt,dP,gf,gG,aj,dA];refine⟨λh=>⟨a.1,h,?_⟩,λh=>(B' (s:=nn y.1.2) y.2 (show(gq y.1.1).length<=y.1.2.i.toNat by omega)).symm⟩;rw[HU (s:=nn y.1.2) y.2 (show y.1.2.i.toNat<(gq y.1.1).length by omega)];have e:(nn y.1.2).i=y.1.2.i.toNat:=rfl;rcases h1.rune (i:=y.1.2.i.toNat) ω with⟨_,h⟩ | ⟨_,h,f⟩
 ·grind
 ·grind
def xP:Ok rb:=okZ [] Tryz.f86 (λ_=>cX ()) trivial Qqn
def Qqo (y:Int) (a:SF.pre y):Qco y:=QiA y trivial
def Qje:Ok SF:=okZ [] Tryz.f198 (λ_=>cX ()) trivial Qqo
theorem Qjf (y:List Rg) (a:AA.pre y):HS y:=by
 unfold HS
 first
 | exact⟨rfl,trivial⟩
 | (simp only[Qbt];rfl)
def QeQ:Ok AA:=okZ [] Tryz.f176 (λ_=>cX ()) trivial Qjf
theorem Qqp (y:List Rg) (a:SH.pre y):SO y:=by
 unfold SO;simp only[Qbt,gf,gg,iH,aj,dA];grind [cY]
def Qjg:Ok SH:=okZ [] Tryz.f197 (λ_=>cX ()) trivial Qqp
theorem Qqq (y:By×By) (a:SI.pre y):SQ y:=by
 unfold SQ;simp only[tm,Zai,lO,Zan,Zao,gg,iH];unfold ie;refine⟨λh=>?_,λh=>?_⟩
 ·grind
 ·rw[ZaN (show ¬y.1.length<y.2.length by omega),show(y.1.length==y.2.length)=true by grind,bytesLess_eq];rfl
def Qjh:Ok SI:=okZ [] Tryz.f181 (λ_=>cX ()) trivial Qqq
theorem QeR (a:Int):iR .i64 10 a=iR .i64 a 10:=by grind [iR]
theorem Qqr (y:By) (a:Ni.pre y):SR y:=by
 have h:=QiE y a;unfold KH at h;unfold SR;grind [QeR]
def Qji:Ok Ni:=okZ [] Tryz.f182 Qqh trivial Qqr
theorem Qqs (y:Int×List (List Nd)) (a:Cb.pre y):SP y:=by
 have h:=QiD y a;unfold KI at h;unfold SP;simp only[Qbt] at h ⊢;grind
def Qcp:Ok Cb:=okZ [] Tryz.f87 Qqe trivial Qqs
theorem Cc {n:Int} (h0:0<=n) (h1:n<128):(Utf8.encode n).data.toList=[UInt8.ofNat n.toNat]:=by
 obtain⟨m,rfl⟩:=Zau h0;have:∀k:Nat,k<128->(Utf8.encode (k:Int)).data.toList=[UInt8.ofNat k]:=by decide
 grind
theorem Qqt (y:QS) (B:Nj.pre y):SS y:=by
 obtain⟨⟨h1,f,E,q⟩,_⟩:=B;have h1:Ca y.1:=h1;have f:0<=y.2.i/\y.2.i<=100000:=f;have q:0<=y.2.ae/\y.2.ae<=4:=q;have hl:=xO y.1;have len:=h1.len;unfold SS;simp only[QaU,Qbt,aj,lO,xn,db,dA,Zan,Zao];have s:y.2.ae=((y.2.ae.toNat:Nat):Int):=ω;refine⟨⟨(y.2.i,[],false),rfl,rfl,rfl,f,by grind,Zah _,by simp[nn],_,?_,rfl⟩,λx A=>?_⟩
 ·show _<=(gq y.1).length-y.2.i.toNat+y.2.i.toNat;omega
 ·obtain⟨i,b,k⟩:=x;obtain⟨i1,i2,i3,i4,n,i5,i6⟩:=A;simp only at*
  have i3:y.2.i.toNat<=i.toNat:=i3;have i4:k=decide (y.2.i.toNat<i.toNat):=i4;have fin:b6 (gq y.1) n i.toNat b=(i.toNat,b)->b=gI (gq y.1) (nn y.2)/\k=gv (gq y.1) (nn y.2)/\i=((b6 (gq y.1) ((gq y.1).length-y.2.i.toNat) y.2.i.toNat []).1:Int)/\y.2.ae=((y.2.ae.toNat:Nat):Int):=λh=>by
   have e:b6 (gq y.1) ((gq y.1).length-(nn y.2).i) (nn y.2).i []=(i.toNat,b):=i6.symm.trans h;refine⟨by grind [gI],by grind [gv],?_,s⟩;have e:b6 (gq y.1) ((gq y.1).length-y.2.i.toNat) y.2.i.toNat []=(i.toNat,b):=e;grind
  have stop:¬(i.toNat<(gq y.1).length/\48<=aD (gq y.1) i.toNat/\aD (gq y.1) i.toNat<=57)->b6 (gq y.1) n i.toNat b=(i.toNat,b):=λh=>by
   cases n with
   | zero=>rfl
   | succ n=>unfold b6;rw[Zaa h]
  refine⟨λd=>⟨i1.1,d,λo=>⟨i1.1,d,λp=>?_,λp=>fin (stop λw=>?_)⟩,λo=>fin (stop λw=>?_)⟩,λd=>fin (stop λw=>ω)⟩
  ·have v:eD (gq y.1) i.toNat=false/\y.1.1.getD i.toNat 0=aD (gq y.1) i.toNat:=by
    rcases h1.rune (i:=i.toNat) ω with h | ⟨_,h,_⟩
    ·exact h
    ·omega
   rw[v.2] at o p ⊢;have r:an .i64 i 1=i+1:=aV ω ω;have e2:(i+1).toNat=i.toNat+1:=ω;have u:y.1.1.length-(i+1).toNat<y.1.1.length-i.toNat:=ω;have g:(gq y.1).length<=n-1+(i+1).toNat:=ω;have j:0<=i+1/\i+1<=100000:=ω;have a:y.2.i.toNat<=(i+1).toNat/\true=decide (y.2.i.toNat<(i+1).toNat):=⟨ω,by grind⟩;have l:(b.length:Int)<=i+1:=ω;rw[Cc ω ω,r];obtain⟨m,rfl⟩:∃m,n=m+1:=⟨n-1,ω⟩;have c:(if i.toNat<(gq y.1).length/\48<=aD (gq y.1) i.toNat/\aD (gq y.1) i.toNat<=57 then b6 (gq y.1) m (i.toNat+1) (if 48<aD (gq y.1) i.toNat\/b≠[] then b++[UInt8.ofNat (aD (gq y.1) i.toNat).toNat] else b) else(i.toNat,b))=_:=i6;rw[Zac ⟨ω,o,p⟩] at c;have go:(48<aD (gq y.1) i.toNat\/b≠[])->0<=i/\i<(y.1.1.length:Int)/\((we b [UInt8.ofNat (aD (gq y.1) i.toNat).toNat]).length:Int)<=BIG/\∃z:Int×By×Bool,we b [UInt8.ofNat (aD (gq y.1) i.toNat).toNat]=z.2.1/\true=z.2.2/\i+1=z.1/\Nk y z/\y.1.1.length-z.1.toNat<y.1.1.length-i.toNat:=λh=>by
    rw[Zac h] at c;have hlen:(we b [UInt8.ofNat (aD (gq y.1) i.toNat).toNat]).length=b.length+1:=by unfold we;simp
    refine⟨i1.1,d,by grind [BIG],(i+1,_,true),rfl,rfl,rfl,⟨⟨ω,ω⟩,by grind,ω,by grind,m,by assumption,?_⟩,by assumption⟩;grind
   refine⟨λC=>go (.inr λh=>by grind),λC=>⟨i1.1,d,λD=>go (.inl ω),λD=>?_⟩⟩;refine⟨(i+1,b,true),rfl,rfl,rfl,⟨j,l,a.1,a.2,m,g,?_⟩,u⟩;grind
  ·rcases h1.rune (i:=i.toNat) ω with⟨_,h⟩ | ⟨_,h,t⟩<;>omega
  ·rcases h1.rune (i:=i.toNat) ω with⟨_,h⟩ | ⟨_,h,t⟩<;>omega
def Qjj:Ok Nj:=okZ [] Tryz.f180 Qqj trivial Qqt
end
end sx
namespace syn
open Go Go.RowKit cls
structure RB (G:List Gt) (k:Nat) (s t:Ps):Prop where
 le:s.i<=t.i
 len:t.i<=G.length+k
 op:t.opens=s.opens
 gr:s.ae<=t.ae
 gm:t.ae<=4
section
variable {G:List Gt} {k:Nat} {s t u:Ps}
theorem RB.refl (h:s.i<=G.length+k) (g:s.ae<=4):RB G k s s:=⟨Zah _,h,rfl,Zah _,g⟩
def RB.trans {j:Nat} (h:RB G j s t) (a:RB G k t u):RB G k s u:=⟨Zav h.le a.le,a.len,a.op.trans h.op,Zav h.gr a.gr,a.gm⟩
def RB.mono {j:Nat} (h:RB G j s t) (a:j<=k):RB G k s t:=⟨h.le,by have:=h.len;omega,h.op,h.gr,h.gm⟩
theorem RB.ak (h:RB G k s t) (f:Nat) (e:Int):RB G k s (t.ak G f e):=⟨by simpa using h.le,by simpa using h.len,by simpa using h.op,by simpa using h.gr,by simpa using h.gm⟩
theorem RB.next (h:RB G k s t):RB G (k+1) s t.next:=⟨by have:=h.le;simp;omega,by have:=h.len;simp;omega,h.op,h.gr,h.gm⟩
def RB.pf (h:RB G k s t) (hl:t.i<G.length):RB G 0 s t.next:=⟨by have:=h.le;simp;omega,by simp;omega,h.op,h.gr,h.gm⟩
def RB.skip (h:RB G k s t) (r:Int):RB G k s (aY G t r):=by
 unfold aY;split
 ·rename_i a;exact(h.pf (cQ a)).mono (Zaj _)
 ·exact h
def vK (h:RB G k s t):RB G k s (dh G t):=by
 have:=jF (G:=G) (G.length-t.i) t.i [];have h1:=h.le;have a:=h.len;exact⟨by show _<=(b6 G _ _ []).1;omega,by show(b6 G (G.length-t.i) t.i []).1<=_;omega,h.op,h.gr,h.gm⟩
theorem SU (h:RB G k s t) (f:Nat):RB G k s (r_ G t f).1/\t.i<=(r_ G t f).1.i/\(r_ G t f).2.length<=8:=by
 have m1:(aL [(9,10),(13,13),(32,32)]).length<=6:=pP _;have m2:(aL [(48,57),(65,90),(95,95),(97,122)]).length<=8:=pP _;unfold r_;by_cases h1:G.length<=t.i
 ·rw[Zac h1];exact⟨h.ak _ _,by simp,by simp⟩
 ·rw[Zaa h1];have n:=(h.pf ω).mono (k:=k) (Zaj _);dsimp only
  repeat' split
  all_goals first
   | exact⟨h.ak _ _,by simp,by simp⟩
   | exact⟨n.ak _ _,by simp,by simp⟩
   | exact⟨n,by simp,Zav m1 (by decide)⟩
   | exact⟨n,by simp,m2⟩
   | exact⟨n,by simp,by simp⟩
theorem vL (h:RB G k s t) (hl:t.i<G.length):RB G 0 s (fl G t).1/\t.i<(fl G t).1.i/\(fl G t).2.length<=8:=by
 have n:=h.pf hl;unfold fl;dsimp only
 repeat' split
 ·exact⟨n.ak _ _,by simp,by simp⟩
 ·obtain⟨a,b,c⟩:=SU n t.i;exact⟨a,by assumption,c⟩
 ·exact⟨n.ak _ _,by simp,by simp⟩
 ·simp_all
theorem Zs (h:RB G k s t) (hk:t.i<=G.length) (f:Nat) (a l:List Rg) (g:a.length<=8):RB G 0 s (kP G t f a l).1/\t.i<=(kP G t f a l).1.i/\(kP G t f a l).2.1.length<=l.length+8:=by
 have h0:RB G 0 s t:=⟨h.le,ω,h.op,h.gr,h.gm⟩;unfold kP;by_cases h1:t.err≠0\/aQ G t 45=false
 ·grind
 ·rw[Zaa h1];have c:aQ G t 45:=by
   grind
  have n:=h.pf (cQ c);dsimp only;split
  ·exact⟨n.ak _ _,by simp,by simp⟩
  ·rename_i e
   obtain⟨b1,b,d⟩:=vL n (show t.next.i<G.length by omega);simp only[jg] at b;split
   ·exact⟨b1.ak _ _,by simp;omega,by simp⟩
   ·grind
theorem sy:∀(n:Nat) (t:Ps) (l:List Rg) (b:Bool),RB G 0 s t->RB G 0 s (dp G n t l b).1/\t.i<=(dp G n t l b).1.i/\(dp G n t l b).2.1.length<=l.length+8*((dp G n t l b).1.i-t.i)
 | 0,t,l,b,h=>⟨h,Zah _,by simp[dp]⟩
 | n+1,t,l,b,h=>by
  unfold dp;split
  ·rename_i c
   obtain⟨a,a2,a3⟩:=vL h c.2.1;obtain⟨m1,m2,m3⟩:=Zs a (by have:=a.len;omega) t.i (fl G t).2 l a3;dsimp only;split
   ·grind
   ·have:=sy n _ (kP G (fl G t).1 t.i (fl G t).2 l).2.1 true m1;grind
  ·grind
def QeS (h:RB G k s t) (hk:t.i<=G.length) (f:Nat):RB G 1 s (y4 G t f).1/\t.i<(y4 G t f).1.i:=by
 have h0:RB G 0 s t:=⟨h.le,ω,h.op,h.gr,h.gm⟩;have h1:=h0.skip 94;have a:t.i<=(aY G t 94).i:=by unfold aY;split<;>simp
 obtain⟨c1,c2,_⟩:=sy (G.length+2-(aY G t 94).i) _ [] false h1;unfold y4;dsimp only;split
 ·exact⟨(c1.ak f 4).next,by simp;omega⟩
 ·exact⟨c1.next,by simp;omega⟩
theorem AB (h:RB G k s t) (hl:t.i<G.length):RB G 1 s (ej G t).1/\t.i<(ej G t).1.i:=by
 have n:=vK (h.pf hl);have g:t.i<(dh G t.next).i:=by
  have:=jF (G:=G) (G.length-t.next.i) t.next.i [];show _<(b6 G (G.length-t.next.i) t.next.i []).1
  grind [jg]
 have key:∀(u:Ps) (f:Nat) (m n:List UInt8) (ok op:Bool),RB G 0 s u->t.i<u.i->RB G 1 s (jG G f u m n ok op).1/\t.i<(jG G f u m n ok op).1.i:=λu f m n ok op hu hi=>by
  unfold jG;dsimp only;have w:∀c:Bool,RB G 0 s (if c then u.ak G f 4 else u)/\t.i<(if c then u.ak G f 4 else u).i:=λc=>by
   cases c
   ·grind
   ·exact⟨hu.ak _ _,by simp_all⟩
  obtain⟨a,d⟩:=w (decide (ok=false\/aQ G u 125=false\/(op=false/\ie n m)));simp only[ZaP] at a d;generalize (if ok=false\/aQ G u 125=false\/(op=false/\ie n m) then u.ak G f 4 else u)=v at*
  have e:∀(c:Prop) [Decidable c],RB G 1 s (if c then v.next.ak G f 2 else v.next)/\t.i<(if c then v.next.ak G f 2 else v.next).i:=λc _=>by
   split
   ·exact⟨a.next.ak _ _,by simp;omega⟩
   ·exact⟨a.next,by simp;omega⟩
  exact e _
 unfold ej;dsimp only;split
 ·rename_i b
  have m:=vK (n.pf (cQ b.2));grind [jF,dh,jg]
 ·grind
def AD (h:RB G k s t) (f:Nat):RB G (k+1) s (ff G t f)/\(ff G t f).i=t.i+1:=by
 unfold ff;split
 ·exact⟨(h.ak f 4).next,by simp⟩
 ·exact⟨h.next,by simp⟩
def sA (G:List Gt) (k:Nat) (alt:Ps->Ps×List Nd):Prop:=∀s,s.i<=G.length->s.ae<=4->RB G k s (alt s).1/\(alt s).2.length<=3*((alt s).1.i-s.i)+1
variable {alt:Ps->Ps×List Nd}
theorem Nl (A:sA G k alt) (deep:Nat) (hl:t.i<=G.length) (e:t.ae<=4) (f:Nat):RB G (k+1) t (jh G alt deep t f).1/\(jh G alt deep t f).2.length<=3*((jh G alt deep t f).1.i-t.i)+3:=by
 have r:RB G (k+1) t t:=RB.refl ω e;unfold jh;dsimp only;by_cases h1:aQ G t 63/\aQ G t.next 58=false
 ·rw[Zac h1];exact⟨r.ak _ _,by simp⟩
 ·rw[Zaa h1];by_cases c:20<=deep
  ·rw[Zac c];exact⟨r.ak _ _,by simp⟩
  ·rw[Zaa c];by_cases d:aQ G t 63
   ·rw[Zac d];have b:aQ G t.next 58:=by
     grind
    have g:=cQ b;simp only[jg] at g;obtain⟨a,a2⟩:=A t.next.next (by simp;omega) e;obtain⟨c1,c2⟩:=AD a f;have a3:=a.le;simp only[jg] at a2 a3;refine⟨⟨?_,c1.len,c1.op,c1.gr,c1.gm⟩,?_⟩
    ·grind
    ·grind
   ·rw[Zaa d];by_cases b:4<=t.ae
    ·rw[Zac b];exact⟨r.ak _ _,by simp⟩
    ·rw[Zaa b];obtain⟨a,a2⟩:=A { t with ae:=t.ae+1 } hl (by grind);obtain⟨c1,c2⟩:=AD a f;have a3:t.i<=(alt { t with ae:=t.ae+1 }).1.i:=a.le;have a4:(alt { t with ae:=t.ae+1 }).2.length<=3*((alt { t with ae:=t.ae+1 }).1.i-t.i)+1:=a2;have a5:t.ae+1<=(alt { t with ae:=t.ae+1 }).1.ae:=a.gr;have c3:=c1.gr;simp only at c3;refine⟨⟨?_,c1.len,c1.op,?_,c1.gm⟩,?_⟩
     ·grind
     ·grind
     ·grind
theorem EC (A:sA G k alt) (deep:Nat) (hl:t.i<G.length) (d:t.ae<=4):RB G (k+1) t (fG G alt deep t).1/\t.i<(fG G alt deep t).1.i/\(fG G alt deep t).2.length<=3*((fG G alt deep t).1.i-t.i):=by
 have r:RB G 0 t t:=RB.refl ω d;have n:=r.pf hl;have e:=n.mono (k:=k+1) (Zaj _);unfold fG;dsimp only
 repeat' split
 ·exact⟨e.ak _ _,by simp,by simp⟩
 ·obtain⟨a,b⟩:=Nl A deep (t:=t.next) (by simp;omega) d t.i;have c:=a.le;simp only[jg] at b c;exact⟨⟨ω,a.len,a.op,a.gr,a.gm⟩,ω,ω⟩
 ·obtain⟨a,b⟩:=QeS n (by simp;omega) t.i;simp only[jg] at b;exact⟨a.mono ω,by grind,by grind⟩
 ·simp_all
 ·simp_all
 ·simp_all
 ·grind [SU,jg]
 ·exact⟨e.ak _ _,by simp,by simp⟩
 ·simp_all
theorem KQ (A:sA G k alt) (deep:Nat) (hl:t.i<G.length) (f:t.ae<=4):RB G (k+1) t (sd G alt deep t).1/\t.i<(sd G alt deep t).1.i/\(sd G alt deep t).2.length<=3*((sd G alt deep t).1.i-t.i):=by
 obtain⟨a,b,c⟩:=EC A deep hl f;have key:∀(u:Ps) (mn mx:Int),RB G (k+1) t u->(fG G alt deep t).1.i<u.i->RB G (k+1) t (jH G u mn mx (fG G alt deep t).2).1/\t.i<(jH G u mn mx (fG G alt deep t).2).1.i/\(jH G u mn mx (fG G alt deep t).2).2.length<=3*((jH G u mn mx (fG G alt deep t).2).1.i-t.i):=λu mn mx h1 d=>by
  have e:u.i<=(aY G u 63).i:=by unfold aY;split<;>simp
  unfold jH;exact⟨h1.skip 63,by grind,by grind⟩
 unfold sd;dsimp only;by_cases h1:(fG G alt deep t).1.err≠0\/G.length<=(fG G alt deep t).1.i
 ·grind
 ·rw[Zaa h1];have d:(fG G alt deep t).1.i<G.length:=ω;have n:=(a.pf d).mono (k:=k+1) (Zaj _);have e:=AB a d
  repeat' split
  ·exact key _ _ _ n (by simp)
  ·exact key _ _ _ n (by simp)
  ·exact key _ _ _ n (by simp)
  ·exact key _ _ _ (e.1.mono ω) e.2
  ·grind
theorem AE (A:sA G k alt) (deep:Nat):∀(n:Nat) (t:Ps) (d:List (List Nd)),RB G (k+1) s t->total d<=3*(t.i-s.i)->RB G (k+1) s (ea G alt deep n t d).1/\total (ea G alt deep n t d).2<=3*((ea G alt deep n t d).1.i-s.i)
 | 0,t,d,h,e=>⟨h,e⟩
 | n+1,t,d,h,e=>by
  unfold ea;split
  ·rename_i f
   obtain⟨a,b,c⟩:=KQ A deep f.2.1 h.gm;refine AE A deep n _ _ (h.trans a) ?_;rw[gb];have:=h.le;omega
  ·grind
def vM (A:sA G k alt) (deep:Nat) (hl:s.i<=G.length) (c:s.ae<=4):RB G (k+1) s (oy G alt deep s).1/\(oy G alt deep s).2.length<=3*((oy G alt deep s).1.i-s.i)+1:=by
 obtain⟨a,b⟩:=AE A deep (G.length+2-s.i) s [] (RB.refl ω c) (by simp[total]);have:=xg 3 (ea G alt deep (G.length+2-s.i) s []).2;exact⟨a,by show(bK 3 _).length<=3*((ea G alt deep (G.length+2-s.i) s []).1.i-_)+1;omega⟩
theorem AF (A:sA G k alt) (deep:Nat):∀(n:Nat) (t:Ps) (c:List (List Nd)),RB G (k+1) s t->0<c.length->total c+2*c.length<=3*(t.i-s.i)+3->RB G (k+1) s (dJ G alt deep n t c).1/\0<(dJ G alt deep n t c).2.length/\total (dJ G alt deep n t c).2+2*(dJ G alt deep n t c).2.length<=3*((dJ G alt deep n t c).1.i-s.i)+3
 | 0,t,c,h,h0,d=>⟨h,h0,d⟩
 | n+1,t,c,h,h0,d=>by
  unfold dJ;split
  ·rename_i f
   have hl:=cQ f.2;obtain⟨a,b⟩:=vM A deep (s:=t.next) (by simp;omega) h.gm;have e:=a.le;have h1:=h.le;simp only[jg] at e b;refine AF A deep n _ _ ⟨ω,a.len,a.op.trans h.op,Zav h.gr a.gr,a.gm⟩ (by simp) ?_;grind [gb]
  ·grind
theorem SV (A:sA G k alt) (deep:Nat) (hl:s.i<=G.length) (g:s.ae<=4):RB G (k+1) s (uk G alt deep s).1/\(uk G alt deep s).2.length<=3*((uk G alt deep s).1.i-s.i)+1:=by
 obtain⟨a,b⟩:=vM A deep hl g;have e:total [(oy G alt deep s).2]=(oy G alt deep s).2.length:=by simp[total]
 obtain⟨c,d,f⟩:=AF A deep (G.length+2-(oy G alt deep s).1.i) _ [(oy G alt deep s).2] a (by simp) (by grind);have:=uj 4 _ d;exact⟨c,by show(bK 4 _).length<=3*((dJ G alt deep _ _ _).1.i-_)+1;omega⟩
end
theorem Cd (G:List Gt):∀n deep,sA G n (y5 G n deep)
 | 0,_=>λs h g=>⟨RB.refl ω g,by simp[y5]⟩
 | n+1,deep=>λs h g=>SV (Cd G n (deep+1)) deep h g
end syn
set_option maxRecDepth 100000
set_option maxHeartbeats 4000000
namespace sx
noncomputable section
open Go Go.RowKit cls syn
def lk {α:Type} (a:α):α:=Classical.choose (⟨a,rfl⟩:∃b,b=a)
theorem aq {α:Type} (a:α):lk a=a:=ZcZ (⟨a,rfl⟩:∃b,b=a)
open Classical in
def ix (G:List Gt) (a:Int):Nat:=if h:∃i,i<=G.length/\place G i=a then Classical.choose h else 0
def xQ (G:List Gt) (a:Int):Prop:=∃i,i<=G.length/\a=place G i
def tx (y:QS×Int):Ps×List Rg:=r_ (gq y.1.1) (nn y.1.2) (ix (gq y.1.1) y.2)
def Qby (y:QS×Int):Prop:=y.1.2.i<=y.1.1.1.length/\xQ (gq y.1.1) y.2
def HV:bf D:=xN 179 (QS×Int) (·.1) SE Qby (λy=>[Qu9 y.2]) (λy=>zz (tx y).1) λy=>.list 6 (tx y).2
def QbM (y:QS):Prop:=y.2.i<y.1.1.length
def ze (y:QS):Ps×List Rg:=fl (gq y.1) (nn y.2)
def SX:bf D:=xN 196 QS (λy=>y) inQ QbM (λ_=>[]) (λy=>zz (ze y).1) λy=>.tuple [.list 6 (ze y).2,Qu9 (place (gq y.1) (nn y.2).i)]
def Nn:bf D:=xN 195 (QS×Int) (·.1) SE (λy=>y.1.2.i<=90000/\xQ (gq y.1.1) y.2) (λy=>[Qu9 y.2]) (λy=>zz (ff (gq y.1.1) (nn y.1.2) (ix (gq y.1.1) y.2))) λ_=>.tuple []
def nP (y:QS):Ps×By×Bool:=
 lk (if gv (gq y.1) (nn y.2).next/\aQ (gq y.1) (dh (gq y.1) (nn y.2).next) 44=true then(dh (gq y.1) (dh (gq y.1) (nn y.2).next).next,gI (gq y.1) (dh (gq y.1) (nn y.2).next).next,!gv (gq y.1) (dh (gq y.1) (nn y.2).next).next)
 else(dh (gq y.1) (nn y.2).next,gI (gq y.1) (nn y.2).next,false))
def gL (y:QS):Ps:=lk (if gv (gq y.1) (nn y.2).next=false\/aQ (gq y.1) (nP y).1 125=false\/((nP y).2.2=false/\ie (nP y).2.1 (gI (gq y.1) (nn y.2).next)) then(nP y).1.ak (gq y.1) (nn y.2).i 4 else(nP y).1)
def Ce (y:QS):Int×Bool:=lk (if (nP y).2.2 then(-1,true) else eE (nP y).2.1)
def re (y:QS):Ps×Int×Int:=lk (ej (gq y.1) (nn y.2))
def HW:bf D:=xN 149 QS (λy=>y) inQ QbM (λ_=>[]) (λy=>zz (re y).1) λy=>.tuple [Qu9 (re y).2.1,Qu9 (re y).2.2]
def Qqx (y:HW.Y):cH D:=⟨[],[],[],[
 (63,⟨Unit,[0,4,5,6],λ_=>[(7,.str (nP y).2.1),(8,.bool (nP y).2.2)],[],λ_=>qO y.1 (zz (nP y).1),1,λ_=>True,λ_=>0⟩),
 (127,⟨Unit,[0,4,5,7,8],λ_=>[],[],λ_=>qO y.1 (zz (gL y)),1,λ_=>True,λ_=>0⟩),
 (2047,⟨Unit,[0,4,11,12],λ_=>[(13,Qu9 (Ce y).1),(14,.bool (Ce y).2)],[0],λ_=>[],1,λ_=>True,λ_=>0⟩)],1,[]⟩
def xR (y:QS×Int):Ps×List Rg:=lk (y4 (gq y.1.1) (nn y.1.2) (ix (gq y.1.1) y.2))
def sB (y:QS×Int):Ps×List Rg×Bool:=lk (dp (gq y.1.1) ((gq y.1.1).length+2-(aY (gq y.1.1) (nn y.1.2) 94).i) (aY (gq y.1.1) (nn y.1.2) 94) [] false)
def oz (y:QS×Int):Ps:=lk (if (sB y).1.err=0/\((sB y).2.2=false\/aQ (gq y.1.1) (sB y).1 93=false) then(sB y).1.ak (gq y.1.1) (ix (gq y.1.1) y.2) 4 else(sB y).1)
def HY (y:QS×Int) (x:bO×List Rg×Bool):Prop:=(0<=x.1.i/\x.1.i<=y.1.1.1.length)/\x.1.opens=0/\(0<=x.1.ae/\x.1.ae<=4)/\x.2.1.length<=20*(nn x.1).i/\∃n,y.1.1.1.length+2<=n+(nn x.1).i/\dp (gq y.1.1) n (nn x.1) x.2.1 x.2.2=sB y
def HZ:bf D:=xN 177 (QS×Int) (·.1) SE Qby (λy=>[Qu9 y.2]) (λy=>zz (xR y).1) λy=>.list 6 (xR y).2
def Qqz (y:HZ.Y):cH D:=⟨[],[],[(252,⟨bO×List Rg×Bool,[0,1,5],λx=>[(6,.grow 6 x.2.1 1),(7,.bool x.2.2)],[],λx=>qO y.1.1 x.1++[(1,.tok 6 267)],2,HY y,λx=>y.1.1.1.length-(nn x.1).i⟩)],
  [(7,⟨Unit,[0,1],λ_=>[(5,.bool (aQ (gq y.1.1) (nn y.1.2) 94))],[],λ_=>qO y.1.1 (zz (aY (gq y.1.1) (nn y.1.2) 94)),1,λ_=>True,λ_=>0⟩),
   (127,⟨Unit,[0,5,6],λ_=>[],[],λ_=>qO y.1.1 (zz (oz y)),1,λ_=>True,λ_=>0⟩),
   (63,⟨Unit,[0,1,5],λ_=>[(6,.list 6 (sB y).2.1),(7,.bool (sB y).2.2)],[],λ_=>qO y.1.1 (zz (sB y).1),1,λ_=>True,λ_=>0⟩)],1,[]⟩
structure gO where
 d:iT
 v:ig
def Gc (b m n:Nat) (y:gO):List (Nat×AO D.E):=(b,.cells [.ptr (b+1) 0,.ptr (b+2) 0] 167 false)::(b+1,.cells [.int .u8 y.d.a,.int .u8 y.d.b,.int .u8 y.d.c,.int .u8 y.d.d,.int .i64 y.d.n] 198 false)::CX (b+2) m n y.v
def ED (v:AV D.E) (s:St D.E):C gO:=match v with
 | .ptr b _=>av (cE (s.h.get b)) λo=>match o with
  | .cells cs _ _=>match cs with
   | [d,v]=>av (M3 d s) λd=>av (Ha v s) λv=>.ret ⟨d,v⟩
   | _=>.fail
  | _=>.fail
 | _=>.fail
def iL (y:gO) (c:Int):gO:=lk ⟨(rG y.d c).1,mX y.v (rG y.d c).2⟩
def bA (s:gO):gO:=lk ⟨L2,Q5 (RR s.v) s.v.p.ah.length⟩
def tz (y:gO):Prop:=y.v.p.code.length<=4096/\y.v.p.ah.length<=1000
def xS (y:gO):Prop:=0<=y.d.n/\y.d.n<=3/\RX y.v 900000000000
def xT:bf D:=⟨33,gO×Int,λa s=>match a with
 | [p,c]=>av (ED p s) λy=>aI (cT c) λ_ c=>.ret (y,c)
 | _=>.fail,λy=>xS y.1,λy=>[.ptr 0 0,.int .u8 y.2],λy=>Gc 0 5 6 y.1,λ_=>.tuple [],λy=>Gc 0 7 6 (iL y.1 y.2),7,8⟩
def H_:bf D:=⟨71,gO,λa s=>match a with
 | [p]=>ED p s
 | _=>.fail,tz,λ_=>[.ptr 0 0],Gc 0 5 6,λ_=>.ptr 7 0,λy=>Gc 0 5 6 y++Gc 7 12 13 (bA y),7,14⟩
def Qcq (y:gO×Int):Prop:=let f:=(rG y.1.d y.2).1;let g:=(rG y.1.d y.2).2;let e:=mX y.1.v g;Iv (0<=y.1.d.n/\y.1.d.n<=3)/\aa [y.2,y.1.d.a,y.1.d.b,y.1.d.c,y.1.d.d,y.1.d.n] (Iv (rsP (W1.mk y.1.v g))/\aa [g] (aa [y.1.v.p.code] (aa [y.1.v.p.ah] (aa [y.1.v.place,ab y.1.v.L,ab y.1.v.s.pl,ab y.1.v.s.us] (aa [y.1.v.s.us] (aa [y.1.v.s.pl] (aa [y.1.v.L] (f.a=(iL y.1 y.2).d.a/\f.b=(iL y.1 y.2).d.b/\f.c=(iL y.1 y.2).d.c/\f.d=(iL y.1 y.2).d.d/\f.n=(iL y.1 y.2).d.n/\e.p.code=(iL y.1 y.2).v.p.code/\e.p.ah=(iL y.1 y.2).v.p.ah/\e.place=(iL y.1 y.2).v.place/\ab e.L=ab (iL y.1 y.2).v.L/\ab e.s.pl=ab (iL y.1 y.2).v.s.pl/\ab e.s.us=ab (iL y.1 y.2).v.s.us/\e.s.us=(iL y.1 y.2).v.s.us/\e.s.pl=(iL y.1 y.2).v.s.pl/\e.L=(iL y.1 y.2).v.L/\True))))))))
def Qcr (y:gO):Prop:=let e:=y.v.p.code.length;let f:=y.v.p.ah.length;Iv True/\Iv (e<=4096/\f<=1000)/\aa [y.v.p.code] (aa [y.v.p.ah] (aa [y.v.place,ab y.v.L,ab y.v.s.pl,ab y.v.s.us] (aa [y.v.s.us] (aa [y.v.s.pl] (aa [y.v.L] (y.v.p.code=(bA y).v.p.code/\y.v.p.ah=(bA y).v.p.ah/\0=(bA y).v.place/\ab (rE++List.map iS (List.take f y.v.p.ah))=ab (bA y).v.L/\ab (uP (e:Int))=ab (bA y).v.s.pl/\ab i_=ab (bA y).v.s.us/\i_=(bA y).v.s.us/\uP (e:Int)=(bA y).v.s.pl/\(rE++List.map iS (List.take f y.v.p.ah))=(bA y).v.L/\0=(bA y).d.a/\0=(bA y).d.b/\0=(bA y).d.c/\0=(bA y).d.d/\0=(bA y).d.n/\aa [y.d.a,y.d.b,y.d.c,y.d.d,y.d.n] (aa [y.v.p.code] (aa [y.v.p.ah] (aa [y.v.place,ab y.v.L,ab y.v.s.pl,ab y.v.s.us] (aa [y.v.s.pl] (aa [y.v.s.us] (aa [y.v.L] (True)))))))))))))
theorem xU:∀(k:Nat) (y:iT) (l:List Gt),(nK k y l).2.length<=l.length+k
 | 0,y,l=>Zah _
 | k+1,y,l=>by
  rw[nK];split
  ·have:=xU k (y7 y (iU y).2.toNat) (l++[iU y]);grind
  ·grind
def EE:Ok xT:=okZ (V:=Qcq) [RV,ssC] Tryz.f33 (λ_=>cX ()) ⟨Qiy,Qiz⟩ λy b=>by
 unfold Qcq;simp only[dq,show iL y.1 y.2=_ from aq _];obtain⟨h1,a,g1,g2,g3,g4⟩:xS y.1:=b;have hl:(rG y.1.d y.2).2.length<=0+4:=xU 4 _ [];exact⟨⟨h1,a⟩,g1,g2,g3,by show y.1.v.place+4*((rG y.1.d y.2).2.length:Int)<=_;omega⟩
def KR:Ok H_:=okZ (V:=Qcr) [unC,Yw] Tryz.f71 (λ_=>cX ()) ⟨Qew,Qip⟩ λy a=>by
 unfold Qcr;simp only[dq,show bA y=_ from aq _];exact⟨a,rfl,rfl,rfl,rfl,rfl,rfl,rfl,rfl,rfl,rfl,rfl,rfl,rfl,rfl⟩
def Ia (y:gO):ig:=mX ⟨y.v.p,y.v.place,y.v.L,⟨uP y.v.p.code.length,i_⟩⟩ (CZ (uoF (ec y.d)).n.toNat)
def gj (y:gO):List fP:=(gJ (Ia y) (Ia y).L.length).2
def qu (y:gO):Prop:=xS y/\(ec y.d=[]\/gz (ec y.d))
def zf:bf D:=⟨69,gO,λa s=>match a with
 | [p]=>ED p s
 | _=>.fail,qu,λ_=>[.ptr 0 0],Gc 0 5 6,λy=>.list 2 (gj y),Gc 0 5 6,7,7⟩
def Ib (y:gO):Prop:=let f:=ec y.d;let k:=lQ f 0;let l:=lQ f 3;let m:=lQ f 2;let o:=lQ f 1;let q:=y.v.p.code.length;let h:=uP (q:Int);let r:=ig.mk y.v.p y.v.place y.v.L (iy.mk h i_);let i:=ite (f.length<=4) (f.length:Int) 4;let j:=CZ i.toNat;let e:=mX r j;let g:Prop:=(aa [y.d.a,y.d.b,y.d.c,y.d.d,y.d.n] (aa [y.v.p.code] (aa [y.v.p.ah] (aa [y.v.place,ab y.v.L,ab y.v.s.pl,ab y.v.s.us] (aa [y.v.s.pl] (aa [y.v.s.us] (aa [y.v.L] (True))))))));Iv (uv y.d)/\aa [y.d.a,y.d.b,y.d.c,y.d.d,y.d.n] (Iv ((f=[])\/(gz f))/\aa [f] (ag (!(az 0 0)) ([]=gj y/\g) (Iv (q<=4096/\Et y.v.L)/\aa [y.v.p.code] (aa [y.v.p.ah] (aa [y.v.place,ab y.v.L,ab y.v.s.pl,ab y.v.s.us] (aa [y.v.s.us] (aa [y.v.s.pl] (aa [y.v.L] (Iv (uv (iT.mk k o m l i))/\aa [k,o,m,l,i] (Iv (rsP (W1.mk r j))/\aa [j] (aa [y.v.p.code] (aa [y.v.p.ah] (aa [y.v.place,ab y.v.L,ab h,ab i_] (aa [i_] (aa [h] (aa [y.v.L] (Iv (YB e)/\aa [e.p.code] (aa [e.p.ah] (aa [e.place,ab e.L,ab e.s.pl,ab e.s.us] (aa [e.s.us] (aa [e.s.pl] (aa [e.L] ((gJ e e.L.length).2=gj y/\g)))))))))))))))))))))))
def EF {v:ig} {N:Int} (h:RX v N):RX ⟨v.p,v.place,v.L,⟨uP v.p.code.length,i_⟩⟩ N:=by
 obtain⟨⟨⟨_,_,a⟩,b,c⟩,d,e,f⟩:=h;refine⟨⟨⟨by show(uP v.p.code.length).length=_;unfold uP;simp,λx g=>?_,a⟩,b,c⟩,d,e,f⟩;have:x=0:=Zdw (show x∈List.replicate (v.p.code.length:Int).toNat (0:Int) from g);omega
theorem Qjl (y:gO) (f:qu y):Ib y:=by
 unfold Ib;simp only[dq];obtain⟨⟨h1,g,c⟩,e⟩:=f;have b:=c.1;have h:y.v.p.code.length<=1000:=b.1.2.2.1;have a:=EF c;refine⟨⟨h1,ω⟩,e,λq=>absurd q (by decide),λ_=>⟨⟨ω,b.2.1,b.2.2⟩,?_,?_,?_,rfl⟩⟩
 ·show 0<=(if _ then _ else _:Int)/\(if _ then _ else _:Int)<=4
  grind
 ·have i:(CZ (if (ec y.d).length<=4 then((ec y.d).length:Int) else 4).toNat).length<=4:=by
   grind [CZ]
  exact⟨a.1,a.2.1,a.2.2.1,by have j:y.v.place<=900000000000:=a.2.2.2;show y.v.place+4*((CZ (if (ec y.d).length<=4 then((ec y.d).length:Int) else 4).toNat).length:Int)<=1000000000000;omega⟩
 ·have:=nL (l:=CZ (if (ec y.d).length<=4 then((ec y.d).length:Int) else 4).toNat) a _ (Zah _);rw[ZaM] at this;exact this.1
def tD:Ok zf:=okZ [uhC,uoC,Yx,ueC,ssC,Er] Tryz.f69 (λ_=>cX ()) ⟨Qix,Qo6,Qiq,Qo5,Qiz,Qem⟩ Qjl
end
end sx
end Go.Proofs.YtadfknojfbmjgaaGreat
