/- PointReads: a part of the proof. -/
import Derived.Test.YtiiiphndmbabcaaGreatC5
import Derived.Test.YtiiiphndmbabcaaGreatC13
import Derived.Test.YtiiiphndmbabcaaGreatC4
import Derived.Test.YtiiiphndmbabcaaGreatC12
import Derived.Test.YtiiiphndmbabcaaGreatC11
import Derived.Test.YtiiiphndmbabcaaGreatProg
import Derived.Test.YtiiiphndmbabcaaGreatC3
import Derived.Shelf.Strings.Builder1
import Derived.Deep.RegionHeld3
import Derived.Test.YtiiiphndmbabcaaGreatC6
import Derived.WalkKit
import Derived.ProofKit
set_option linter.all false
namespace Go.Proofs.YtiiiphndmbabcaaGreat
open Go.Proofs.Tryz
set_option maxRecDepth 100000
set_option maxHeartbeats 4000000
namespace sx
noncomputable section
open Go Go.RowKit cls syn
variable {M:Pm D} {l:List Row} {i:Nat} {Z b:List Value}
theorem Qml {a b c:AV D.E} {A:Array Value} (h:LR M [a,b,c] A.toList):∃v u t,A=#[v,u,t]/\VR M a v/\VR M b u/\VR M c t:=by
 obtain⟨l⟩:=A;obtain⟨v,r,e,h1,d⟩:=h.aM;obtain⟨u,m,e2,j,f⟩:=d.aM;obtain⟨t,n,i,k,g⟩:=f.aM;have:=g.jA;grind
theorem Qmm:Ok Qf1:=okZ (V:=Qdv) [] f172 (λ_=>⟨[],[7],[],[],1,[]⟩) trivial λy a=>by
 unfold Qdv;simp only[bL,bC,au,br,aT];have h:y.1.length<=1000:=a.2
 skip
 grind
theorem JD (c:Nat) (xs:List (D.E c)) (n:Nat):aV c (xs.drop n)=(aV c xs).drop (n*D.size c):=by
 by_cases h:n<=xs.length
 ·have e:aV c xs=aV c (xs.take n)++aV c (xs.drop n):=by rw[<-fR,ZaO]
  grind [bf,fL]
 ·rw[Zbu ω,Zbu (by rw[bf fL];exact Zbc _ ω)];rfl
noncomputable def vK (l:List Row):List (AV D.E):=aV (D:=D) 16 l
def FW (a b:List Row):vK (a++b)=vK a++vK b:=fR (D:=D) 16 a b
def O6 (l:List Row) (i:Nat):vK (l.take i)=(vK l).take (i*2):=nF (D:=D) fL 16 l i
def O7 (l:List Row) (i:Nat):vK (l.drop i)=(vK l).drop (i*2):=JD 16 l i
def FX (l:List Row):(vK l).length=l.length*2:=bf (D:=D) fL 16 l
def Qf2 {r:Row} (a:LR M (vK l) Z) (c:LR M (vK [r]) b):LR M (vK (lE l i r)) (Z.take (i*2)++(b++Z.drop (i*2))):=by
 have e:lE l i r=l.take i++([r]++l.drop i):=rfl;rw[e,FW,FW,O6,O7];exact(a.take _).app (c.app (a.drop _))
theorem FY {n:Nat} {C:Nat->Option Value} (a:Z.length=n*2) (hi:i<=n) (c:b.length=2) (p1:∀q,q<i*2->C q=Z[q]?) (p2:∀j,j<2->C (i*2+j)=b[j]?)
  (p3:∀j,j<(n-i)*2->C ((i+1)*2+j)=(Z.drop (i*2))[j]?) {q:Nat} {u:Value} (h:(Z.take (i*2)++(b++Z.drop (i*2)))[q]?=some u):C q=some u:=by
 have ht:(Z.take (i*2)).length=i*2:=by rw[Zar];omega
 by_cases h1:q<i*2
 ·grind
 ·rw[Zaz ω,ht] at h;grind
theorem Xu {H:Hp D} {w:World} (g:ee M H w) {b:Nat} {n:Int} {v:Value} (i:H b=some (.arr 16 l 275 false)) (p:n=l.length) (q:0<l.length) (m:VR M (.own b 2 n) v):
  ∃a cap C c cs,M.pl b=some a/\a.real/\a.len=l.length/\a.je=2/\v=.slice (some ⟨a.bY,a.sh,none⟩) l.length cap/\l.length<=cap/\a.sh+cap*2=a.qK/\
   w.heap[a.bY]?=some (.cells C 275 c)/\C.size=a.qK/\c.1=c.2/\LR M (vK l) cs/\cs.length=l.length*2/\∀j v,cs[j]?=some v->w.cell? ⟨a.bY,a.sh+j,none⟩=some v:=by
 obtain⟨a,e,hl,hz,k⟩:=g.obj b _ i;replace hl:a.len=l.length:=hl;replace hz:a.je=2:=hz;cases m with
 | own g1 g2 g3 g4 g5 g6 g7=>
  rename_i cap o
  rw[e] at g1;cases g1;have d:=k g3;obtain⟨cs,h1,f⟩:=d.rd.list;obtain⟨C,c,k1,k2,k3,k4,k5⟩:=d;refine⟨a,cap,C,c,cs,e,g3,hl,hz,by rw[hl],ω,by rw[hz] at g7;exact g7,k1,k2,(k5 rfl).elim id λh=>ω,h1,?_,f⟩;rw[<-h1.1];exact FX l
 | kD g1 g2 g3 g4 g5=>omega
theorem Qdx:Ok s6:=by
 refine⟨⟨f172,_,by kernel_rfl,cN (by kernel_rfl)⟩,λy hy M A w hA J hT R hR=>?_⟩;obtain⟨hi,hl⟩:=hy;by_cases K:y.2.1=y.1.length
 ·have e:lE y.1 y.2.1 y.2.2=y.1++[y.2.2]:=by unfold lE;rw[K,ZaM,ZbH]
  have O:LR M [.own 0 2 (ag y.1),.int .i64 y.2.1,.own 1 2 1] A.toList:=hA;rw[K] at O;refine Qmm.2 y ⟨K,hl⟩ M A w (by show LR M [.own 0 2 (ag y.1),.int .i64 (ag y.1),.own 1 2 1] _;rw[au y.1] at O ⊢;exact O) J hT R λM' v' w' hv k=>hR M' v' w' ?_ ?_
  ·show VR M' (.own 2 2 (ag (lE y.1 y.2.1 y.2.2))) v'
   rw[e];exact hv
  ·show cU _ M w (λt=>cA [rwO 2 (lE y.1 y.2.1 y.2.2)] t) M' w' 2 3
   rw[e];exact k
 ·obtain⟨v0,v1,v2,rfl,hv0,hv1,hv2⟩:=Qml hA;obtain rfl:=fE hv1;have s:y.2.1<y.1.length:=Nat.lt_of_le_of_ne hi K;obtain⟨m0,cap,C,fz,cs,B,H,hl0,hz0,rfl,X,htot,hC,hCs,hfz,Y,g,p⟩:=Xu J (b:=0) rfl (au y.1) ω hv0;obtain⟨m1,I,C1,fz1,d,hm1,hr1,hl1,hz1,rfl,hcap1,Qva,V,Qwu,hfz1,hvs,m,f⟩:=Xu J (b:=1) (l:=[y.2.2]) rfl rfl (by simp) hv2;have hne:m1.bY≠m0.bY:=λe=>absurd (J.inj 1 0 _ _ m1 m0 rfl rfl hm1 B hr1 H e) (by decide)
  have T:∀v∈cs,v.oneCell':=tg Y (ec.2 λv hv=>(ef fL hv).1);have U:∀v∈d,v.oneCell':=tg hvs (ec.2 λv hv=>(ef fL hv).1);generalize hi2:y.2.1=i at*
  generalize P:y.1=l at*
  generalize hr2:y.2.2=r at*
  replace m:d.length=2:=m;have W:=Qf2 (i:=i) Y hvs;have F:(lE l i r).length=l.length+1:=by unfold lE;rw[Zab,Zae,Zar,Zbg];omega
  have hnr:(aV (D:=D) 16 (lE l i r)).length=(l.length+1)*2:=by rw[<-F];exact FX _
  have hdl:(cs.drop (i*2)).length=(l.length-i)*2:=by rw[Zbg,g];omega
  have L:∀{M':Pm D} {w':World} {mi:MI} {cap:Nat},M'.pl 2=some mi->mi.real->mi.je=2->mi.len=l.length+1->l.length+1<=cap->mi.sh+cap*2=mi.qK->
    cU (λt=>cA (s6.heap y) t) M w (λc=>if c=2 then some (.arr 16 (lE l i r) 275 false) else if c=0 then none else cA (s6.heap y) c) M' w' 2 3->
    R (.returned (.slice (some ⟨mi.bY,mi.sh,none⟩) (l.length+1) cap)) w':=λ{M' w' mi cap} S a2 a3 a4 a5 a6 k=>by
   refine hR M' _ w' ?_ ?_
   ·show VR M' (.own 2 2 (ag (lE y.1 y.2.1 y.2.2))) _
    rw[P,hi2,hr2,<-a4];exact VR.own S a3 a2 (by rw[a4,au,F]) ω ω (by rw[a3];exact a6)
   ·have:=k.trans (cU.drop (b:=1) k.fJ 3);have e:(λt=>cA (s6.dy y) t)=ja (λc=>if c=2 then some (.arr 16 (lE l i r) 275 false) else if c=0 then none else cA (s6.heap y) c) 1 none:=by
     funext t;show cA [(2,AO.arr (E:=D.E) 16 (lE y.1 y.2.1 y.2.2) _ false)] t=if t=1 then none else if t=2 then _ else if t=0 then none else cA [(0,_),(1,_)] t
     rw[P,hi2,hr2,fh,fh,fh];by_cases h1:t=1
     ·subst h1;rfl
     ·by_cases h2:t=2
      ·grind
      ·by_cases h3:t=0
       ·subst h3;rfl
       ·grind
    rw[e];exact this
  have hmx:l.length+1<=9223372036854775807:=ω;by_cases z:l.length+1<=cap
  ·have Quf:∀j,w.frozen? ⟨m0.bY,j,none⟩=false:=λj=>by simp only[World.frozen?,hC,hfz];simp
   have N:∀j,w.frozen? ⟨m1.bY,j,none⟩=false:=λj=>by simp only[World.frozen?,V,hfz1];simp
   refine(ins.shift m0.bY m0.sh l.length cap i m1.bY m1.sh I cs d w s z ω hne g m p (λj hj=>?_) (λj _=>Quf _) f T U ins.R ins.R C1.size C.size (by simp[World.shape?,V]) (by simp[World.shape?,hC]) ω (N _) (N _)).mono λe w' ⟨K,hw⟩=>?_
   ·grind [World.cell?]
   ·subst K hw;obtain⟨C2,c1,c2,c3⟩:=fy m0.bY _ fz (cs.drop (i*2)) (m0.sh+(i+1)*2) w.drew C hC ω;obtain⟨n,d1,d2,Q⟩:=fy m0.bY _ fz d (m0.sh+i*2) _ C2 c1 ω;obtain⟨e1,e2,e3⟩:=dV m0.bY (cs.drop (i*2)) (m0.sh+(i+1)*2) w.drew;obtain⟨f1,f2,f3⟩:=dV m0.bY d (m0.sh+i*2) (w.drew.setCells m0.bY (m0.sh+(i+1)*2) (cs.drop (i*2)));have Z:M.pl 2=none:=hT 2 (Zah 2)
    let mi:MI:=⟨m0.bY,m0.sh,m0.qK,m0.je,l.length+1,true⟩
    have hle:sx.Le M (M.add 2 mi):=Pm.qU Z;have hC0:∀q u,cs[q]?=some u->C[m0.sh+q]?=some u:=λq u h=>by
     grind [World.cell?]
    have x:∀q u,(cs.take (i*2)++(d++cs.drop (i*2)))[q]?=some u->n[m0.sh+q]?=some u:=λq u h=>by
     refine FY (C:=λq=>n[m0.sh+q]?) g (Zcx s) m (λq hq=>?_) (λj hj=>?_) (λj hj=>?_) h
     ·grind
     ·show n[m0.sh+(i*2+j)]?=_
      rw[Q,Zac ω,show m0.sh+(i*2+j) -(m0.sh+i*2)=j by omega]
     ·show n[m0.sh+((i+1)*2+j)]?=_
      rw[Q,Zaa ω,c3,Zac ω,show m0.sh+((i+1)*2+j) -(m0.sh+(i+1)*2)=j by omega]
    have k:=cU.upon (M1:=M.add 2 mi) (sg1:=M.sg) (b0:=0) (b1:=2) (o1:=.arr 16 (lE l i r) 275 false) (rI:=m0) (B3:=mi) (lo:=2) (hi:=3) (w':=(w.drew.setCells m0.bY (m0.sh+(i+1)*2) (cs.drop (i*2))).setCells m0.bY (m0.sh+i*2) d) J (show cA (s6.heap y) 0=some (.arr 16 l 275 false) by rw[<-P];rfl) rfl B H rfl rfl rfl (.inr ⟨rfl,Z,rfl⟩) (λ_ _ _ h=>h) (λ_ _ h=>.inl h)
     ((dU _ _ _ _).trans (dU _ _ _ _)) (λc hc=>(dH _ _ _ _ c hc).trans (dH _ _ _ _ c hc)) (f1.trans e1) (f2.trans e2) (f3.trans e3)
     ⟨F.symm,hz0,λ_=>⟨n,fz,d1,by rw[d2,c2,hCs],by rw[hnr];show m0.sh+_<=m0.qK;omega,λq u hu=>?_,λ_=>.inl hfz⟩⟩ (λo v h=>?_) (λ_ j _=>?_)
    ·exact L (M':=M.add 2 mi) (mi:=mi) rfl rfl hz0 rfl z htot k
    ·obtain⟨u',S,a2⟩:=W.get hu;exact⟨u',x q u' S,a2.mono hle⟩
    ·rw[J.sep 0 _ m0 (show cA (s6.heap y) 0=_ from rfl) rfl B H o trivial] at h;cases h
    ·exact J.sep 0 _ m0 (show cA (s6.heap y) 0=_ from rfl) rfl B H j trivial
  ·have hN:(ins.O4 w l.length cap i cs).size=grownCap w (l.length+1) cap ins.R*2:=ins.BE (Zcx s) g;have hG:=grownCap_ge w (l.length+1) cap ins.R;refine(ins.grow m0.bY m0.sh l.length cap i m1.bY m1.sh I cs d w s X ω ω g m p f T U).mono λe w' ⟨K,hw⟩=>?_
   subst K;generalize hGG:grownCap w (l.length+1) cap ins.R=G at*
   generalize hRR:ins.O4 w l.length cap i cs=a at*
   have hg:(w.alloc (.cells a ins.R)).drew.heap[w.heap.size]?=some (.cells a ins.R (0,0)):=by show(w.heap.push _)[w.heap.size]?=_;simp
   obtain⟨C2,c1,c2,c3⟩:=fy w.heap.size _ (0,0) d (i*2) _ a hg ω;obtain⟨n,d1,d2,Q⟩:=fy w.heap.size _ (0,0) (cs.drop (i*2)) ((i+1)*2) ((w.alloc (.cells a ins.R)).drew.setCells w.heap.size (i*2) d).drew C2 c1 ω;obtain⟨e1,e2,e3⟩:=dV w.heap.size d (i*2) (w.alloc (.cells a ins.R)).drew;obtain⟨f1,f2,f3⟩:=dV w.heap.size (cs.drop (i*2)) ((i+1)*2) ((w.alloc (.cells a ins.R)).drew.setCells w.heap.size (i*2) d).drew;have s1:=dU w.heap.size d (i*2) (w.alloc (.cells a ins.R)).drew;have s2:=dU w.heap.size (cs.drop (i*2)) ((i+1)*2) ((w.alloc (.cells a ins.R)).drew.setCells w.heap.size (i*2) d).drew;have b1:=dH w.heap.size d (i*2) (w.alloc (.cells a ins.R)).drew;have b2:=dH w.heap.size (cs.drop (i*2)) ((i+1)*2) ((w.alloc (.cells a ins.R)).drew.setCells w.heap.size (i*2) d).drew;rw[<-hw] at d1 f1 f2 f3 s2 b2;have di:w'.heap.size=w.heap.size+1:=s2.trans (s1.trans (by show(w.heap.push _).size=_;simp));have hblk:∀c,c<w.heap.size->w'.heap[c]?=w.heap[c]?:=λc hc=>(b2 c ω).trans ((b1 c ω).trans (Below.heap_alloc _ _ _ hc))
   have Z:M.pl 2=none:=hT 2 (Zah 2)
   let mi:MI:=⟨w.heap.size,0,a.size,2,l.length+1,true⟩
   have hle:sx.Le M (M.add 2 mi):=Pm.qU Z;have x:∀q u,(cs.take (i*2)++(d++cs.drop (i*2)))[q]?=some u->n[0+q]?=some u:=λq u h=>by
    rw[Za6];refine FY (C:=λq=>n[q]?) g (Zcx s) m (λq hq=>?_) (λj hj=>?_) (λj hj=>?_) h
    ·show n[q]?=_
     rw[Q,Zaa ω,c3,Zaa ω,<-hRR];have ht:(cs.take (i*2)).length=i*2:=by rw[Zar];omega
     show((cs.take (i*2)).toArray++_++_)[q]?=_
     rw[ZbT (by rw[Zct,Zb5];omega),ZbT (by rw[Zb5];omega),Zc0,Za7,Zac hq]
    ·show n[i*2+j]?=_
     rw[Q,Zaa ω,c3,Zac ω,show i*2+j-i*2=j by omega]
    ·show n[(i+1)*2+j]?=_
     rw[Q,Zac ω,show(i+1)*2+j-(i+1)*2=j by omega]
   have st1:=cU.nB (lo:=2) J Z (.arr 16 (lE l i r) 275 false) mi (λ_=>rfl) ω hblk (f1.trans e1) (f2.trans e2) (f3.trans e3)
    ⟨F.symm,rfl,λ_=>⟨n,(0,0),d1,by rw[d2,c2],by rw[hnr];show 0+_<=a.size;omega,λq u hu=>let ⟨u',S,a2⟩:=W.get hu;⟨u',x q u' S,a2.mono hle⟩,λ_=>.inl rfl⟩⟩ (λ_ _ _ h=>by cases h)
   have st2:=st1.trans (cU.drop (b:=0) st1.fJ 3);have e:(λc=>if c=2 then some (AO.arr (E:=D.E) 16 (lE l i r) 275 false) else if c=0 then none else cA (s6.heap y) c)=ja (ja (λt=>cA (s6.heap y) t) 2 (some (.arr 16 (lE l i r) 275 false))) 0 none:=by
    funext t;grind [ja]
   exact L (M':=M.add 2 mi) (mi:=mi) rfl rfl rfl rfl hG (by show 0+G*2=a.size;omega) (by rw[e];exact st2)
theorem Qbo {k:By} (h:jM l k):lL l k<l.length:=by
 obtain⟨r,a,e⟩:=ZcT.1 h;refine List.findIdx_lt_length_of_exists ⟨r,a,?_⟩;grind
theorem Qmn:Ok IT:=okZ (V:=Qdw) [Ow,s6] f112 (λ_=>⟨[],[5],[],[],1,[]⟩) ⟨Qkh,Qdx⟩ λy a=>by
 unfold Qdw;simp only[bL,bC,au,br,aT,cS,dq,Zad];have b:lL y.l y.k<=y.l.length:=ZdL;refine⟨a,λh=>?_,λh=>?_⟩
 ·grind [rD,Qbo]
 ·have e:lE y.l (lL y.l y.k) ([(⟨y.k,y.v⟩:Row)].getD 0 IS)=rD y.l y.k y.v:=by unfold rD lE;rw[h,Zaa (by decide)];rfl
  exact⟨⟨b,a.2⟩,rfl,rfl,(by rw[h];rfl),ZaR (λl:List Row=>(l.length:Int)) e,e⟩
end
end sx
namespace sx
open Go Go.RowKit cls syn
set_option maxRecDepth 100000
noncomputable section
def Qbp:bh D:=bO 250 (List Rg) Cr (λy=>y.length<=10/\aU y=y) (λy=>[.list 6 y]) λy=>.list 6 y
def Qmo:Ok Qbp:=⟨Mx.1,λy c M A w f h i R g=>by
 have c:y.length<=10/\aU y=y:=c;refine Mx.2 y (by show y.length<=_;omega) M A w f h i R λd e j a b=>g d e j ?_ b
 have a:VR d (.list 6 (aU y)) e:=a;rw[c.2] at a;exact a⟩
def cdK (t:TypeId):Option Nat:=bif Nat.beq t (nat_lit 4000000000) then some (nat_lit 0) else cdD t
def vcI (tab:s7) (a:List (Nat×List Nat)) (un n:Nat) (fn:Func) (k:bh D) (mu:List Nat) (y:k.Y):Prop:=bif Nat.ble (kb (k.args y)) fn.ntmps then J3 prog D cdK (inl prog D cdK un tab a n) ⟨[],mu,[],[],un,[]⟩ fn.ntmps k (xG fn) fn.results.toList y else False
def okI {k:bh D} {V:k.Y->Prop} (tab:s7) (c:List (Nat×List Nat)) (un n:Nat) (fn:Func) (mu:List Nat) (ht:RA tab) (h:∀y,k.pre y->V y) (l:∀y,V y=vcI tab c un n fn k mu y:=by intro y;kernel_rfl)
  (b:Tryz.prog.funcs[k.f]?=some fn:=by kernel_rfl) (e:fn.body.isSome:=by kernel_rfl):Ok k:=by
 refine⟨⟨fn,_,b,cN e⟩,λy m=>?_⟩;have a:=Eq.mp (l y) (h y m);unfold vcI at a;rw[uB] at a;by_cases d:Nat.ble (k.args y).length fn.ntmps
 ·rw[d] at a;exact λM A w hl i j R g=>ke fL mixed sm b (cN e) (Xr fL mixed sm ht.all c n) (ZcY d) a M A w hl i j R g
 ·rw[Bool.not_eq_true] at d;rw[d] at a;exact a.elim
def Qug:List (Nat×List Nat):=[(290,[4]),(204,[3]),(216,[6,7]),(220,[9]),(291,[13]),(166,[6]),(243,[1,2]),(112,[5])]
def Qf3:s7:=[Qbp,s6,S3 1,S3 2,S3 3,S3 4,Hl,VG]
end
end sx
namespace sx
open Go Go.RowKit cls syn
set_option maxRecDepth 100000
def Mz:List Gt:=[(120,1)]
def BF:List Rg:=[(120,120)]
def MA:List Nd:=[⟨2,[(120,120)],0,0,false,0,0⟩]
def Xv:List aW:=[⟨4,0,0,[]⟩,⟨1,0,0,[(120,120)]⟩,⟨4,1,0,[]⟩,⟨7,0,0,[]⟩]
def MB:By:=[0,1,3,1,2]
def Qdy:List aX:=[⟨0,(-1),(-1),(-1),(-1),(-1),(-1),(-1),(-1),(-1),(-1)⟩]
def MC:By:=[1,1,1,3,1,2,6,207,117,27,177,205,249,0,0,0,0,0,0,0,0,0,0,0,0,0,0,1,1,0,0,0,0,0,0,0,0,0,0,0,1,1,0,0,0,0,0,0,0,0,0,0,0,0,0,0]
def Xw (_:Unit):Prop:=let c:=λp:Prop=>RAH ((-1):Int) ((-1):Int) (p);let d:=λp:Prop=>Iv (Qbp.pre ([(120,120)]:List Rg))/\(RAG (BF:List Rg) (p));let a:=λp:Prop=>c (c (p));let e:=λp:Prop=>aa ([Mz,Mz]:List (List Gt)) (p);let b:=λp:Prop=>RAH (120:Int) (120:Int) (p);let f:=λp:Prop=>RAH (0:Int) (false:Bool) (p);Iv (s6.pre ([],(0,⟨[97],0⟩)))/\(aa ([0,0,1]:List (Int)) (aa ([[⟨[97],0⟩],[]]:List (List Row)) (e (e (aa ([Mz]:List (List Gt)) (d (e (e (e (aa ([Mz]:List (List Gt)) (aa ([MA,MA]:List (List Nd)) (aa ([2]:List (Int)) (aa ([BF]:List (List Rg)) (aa ([0]:List (Int)) (f (aa ([0,0]:List (Int)) (d (b (b (aa ([2]:List (Int)) (aa ([BF]:List (List Rg)) (aa ([0]:List (Int)) (f (aa ([0,0]:List (Int)) (aa ([MA,MA]:List (List Nd)) (aa ([2]:List (Int)) (aa ([BF]:List (List Rg)) (aa ([0]:List (Int)) (f (aa ([0,0]:List (Int)) (d (b (b (aa ([2]:List (Int)) (aa ([BF]:List (List Rg)) (aa ([0]:List (Int)) (f (aa ([0,0,1]:List (Int)) (aa ([[⟨4,0,0,[]⟩]]:List (List aW)) (aa ([BF]:List (List Rg)) (aa ([[⟨4,0,0,[]⟩,⟨1,0,0,[(120,120)]⟩],[⟨4,0,0,[]⟩,⟨1,0,0,[(120,120)]⟩,⟨4,1,0,[]⟩]]:List (List aW)) (aa ([[],[],[]]:List (By)) (d (b (b (Iv (Hl.pre (⟨⟨[⟨4,0,0,[]⟩,⟨1,0,0,[(120,120)]⟩,⟨4,1,0,[]⟩,⟨7,0,0,[]⟩],[0]⟩,0,[],⟨[0,0,0,0],[]⟩⟩:pq))/\(aa ([Xv]:List (List aW)) (aa ([[0]]:List (List Int)) (aa ([0,0,4,0]:List (Int)) (aa ([[]]:List (List Item)) (aa ([[0,0,0,0]]:List (List Int)) (aa ([[]]:List (List dd)) (aa ([MB,MB,MB,MB]:List (By)) (aa ([1]:List (Int)) (aa ([[],[],[]]:List (By)) (d (b (b (Iv (VG.pre (⟨⟨[⟨4,0,0,[]⟩,⟨1,0,0,[(120,120)]⟩,⟨4,1,0,[]⟩,⟨7,0,0,[]⟩],[0]⟩,0,⟨false,(-1),(-1),(-1),(-1),(-1),(-1),(-1),(-1),(-1),(-1),[⟨0,(-1),(-1),(-1),(-1),(-1),(-1),(-1),(-1),(-1),(-1)⟩]⟩,0⟩:zO))/\(aa ([Xv]:List (List aW)) (aa ([[0]]:List (List Int)) (f (a (a (c (aa ([Qdy]:List (List aX)) (aa ([0]:List (Int)) (a (a (a (a (a (a (a (c (aa ([Xv]:List (List aW)) (aa ([[0]]:List (List Int)) (aa ([false]:List (Bool)) (a (a (c (aa ([Qdy]:List (List aX)) (aa ([[]]:List (By)) (aa ([1]:List (Int)) (aa ([[]]:List (By)) (aa ([1]:List (Int)) (aa ([[97],[120],[120],[]]:List (By)) (a (a (a (a (a (a (a (a (a (a (aa ([[],[]]:List (By)) (aa ([1,1,1]:List (Int)) (aa ([[],[]]:List (By)) (aa ([1]:List (Int)) (aa ([[]]:List (By)) (aa ([1]:List (Int)) (aa ([MC,MC,MC,MC,[]]:List (By)) (True)))))))))))))))))))))))))))))))))))))))))))))))))))))))))))))))))))))))))))))))))))))))))))))))))))))))))
def Quh (y:Unit):Xw y:=by
 have a:Qbp.pre ([(120,120)]:List Rg):=⟨by decide,by
  unfold aU;simp only[Zbt,List.flatMap_nil,Zaw,show eg (120,120)=[(120,120)] by kernel_rfl,List.mergeSort_singleton];rfl⟩
 have c:s6.pre ([],(0,⟨[97],0⟩)):=⟨Zah _,Zaj _⟩;have v:∀(p:iC) (s:re),p.av.length<=10->Hl.pre (⟨p,0,[],s⟩:pq):=λp s h=>by
  show p.av.length+0<=1000000
  omega
 unfold Xw;simp only[bC,a,c];refine⟨v _ _ (by decide),?_⟩;show wtP _
 unfold wtP;refine⟨?_,by decide,by decide,by decide⟩;exact⟨⟨by decide,by decide+kernel⟩,by decide,by decide⟩
def Qmp (hw:Ok VG):Ok QfS:=okI (V:=Xw) Qf3 Qug 400 40 Tryz.f8 [1] ⟨Qmo,Qdx,KX 1 (by decide) (by decide),KX 2 (by decide) (by decide),KX 3 (by decide) (by decide),KX 4 (by decide) (by decide),QhP,hw⟩ λy _=>Quh y
end sx
namespace bld
open Go Go.RowKit
abbrev BT:TypeId:=369
abbrev self (b:Nat):Value:=.pointer (some ⟨b,0,none⟩)
theorem Qdz:∃j,Tryz.prog.info? BT=some j/\j.size=2:=by
 obtain⟨j,a,hs⟩:=ZdM.1 (show(Tryz.prog.info? BT).map (·.size)=some 2 by kernel_rfl);grind
set_option maxHeartbeats 2000000 in
set_option maxRecDepth 100000 in
theorem O8 (b:Nat) (w:World) (h0:w.cell? ⟨b,0,none⟩=some (self b)):
  Calls prog 306 #[self b] w λe d=>e=.returned (.tuple #[])/\d=w:=by
 obtain⟨j,a,c⟩:=Qdz
 go_enter Tryz.func306,Tryz.ntmps306
 go_wp2
 rw[Lib.run_neq_ptr_same w _ Tryz.underlying367 a]
 go_wp2
 go_end0
 grind
set_option maxHeartbeats 2000000 in
set_option maxRecDepth 100000 in
theorem JE (b:Nat) (w:World) (h0:w.cell? ⟨b,0,none⟩=some (.pointer none)) (a:w.shape? b=some (BT,2)) (d:w.frozen? ⟨b,0,none⟩=false):
  Calls prog 306 #[self b] w λe g=>e=.returned (.tuple #[])/\g=w.setCell ⟨b,0,none⟩ (self b):=by
 obtain⟨j,c,f⟩:=Qdz
 go_enter Tryz.func306,Tryz.ntmps306
 go_wp2
 rw[Lib.run_to_unsafe w ⟨b,0,none⟩ Tryz.underlying367 Tryz.underlying390 c ω a (Nat.zero_lt_succ 1)]
 simp only[Result.andThen]
 rw[Oper.upon_value]
 go_wp2
 rw[run_callFunc_extern Tryz.func317 (by kernel_rfl) (by kernel_rfl) (by kernel_rfl) (e:=Extern.AbiNoEscape.same) (by kernel_rfl)]
 rw[Lib.run_noEscape]
 simp only[Result.andThen]
 rw[Oper.upon_value]
 go_wp2
 rw[Lib.run_from_unsafe w ⟨b,0,none⟩ Tryz.underlying390 Tryz.underlying367 c a (by kernel_rfl)]
 simp only[Result.andThen]
 rw[Oper.upon_value]
 go_wp2
 go_end0
 grind
section
variable {P:Program}
def liesAt_bytes {e:TypeId} (b:P.cellsOf e=1) (count o n:Nat) (c:o+n<=count):liesAt P P.depth e count o e n:=by
 have a:P.depth=(2*(P.types.size+Made.depth)+1)+1:=rfl;rw[a];simp only[liesAt,ZbM];left;rw[a];simp[rowAt,b,c,sameLayout,Nat.mod_one]
theorem uf (w:World) (pt it ty e:TypeId) (hp:P.underlying pt=some (.pointer e)) (hc:P.cellsOf e=1) (g o cells:Nat) (hsh:w.shape? g=some (e,cells)) (l:List UInt8) (h0:l≠[]) (hn:o+l.length<=cells) (h63:l.length<=9223372036854775807)
  (hcell:∀j x,l[j]?=some x->w.cell? ((⟨g,o,none⟩:Addr).add j)=some (.int .u8 x.toNat)):
  (Builtin.unsafeString_ #[pt,it] ty #[.pointer (some ⟨g,o,none⟩),.int .i64 l.length]).run P w=.ok (.string ⟨l.toArray⟩) (w.freeze ⟨g,o,none⟩ l.length):=by
 have hl:l.length≠0:=by grind
 have hlb:=Lib.run_loadBytes (P:=P) w l ⟨g,o,none⟩ .empty hcell;have hlies:=liesAt_bytes (P:=P) hc (cells / P.cellsOf e) o l.length (by grind);have h63':¬(9223372036854775807:Int)<(l.length:Int):=ω;have hdef:Builtin.unsafeString_ #[pt,it] ty #[.pointer (some ⟨g,o,none⟩),.int .i64 l.length]=
   (do
    let n <-asInt (.int .i64 l.length)
    if n<0 then runtimePanic (.error "unsafe.String: len out of range")
    if n>IntKind.i64.max then unsupported (.unsafePointer "String: a length above the largest int")
    if n=0 then pure (.string .empty)
    else if <-variablesAt ⟨g,o,none⟩ (<-elemOf pt) n.toNat then do
     let s <-loadBytes ⟨g,o,none⟩ .empty n.toNat
     freeze ⟨g,o,none⟩ n.toNat
     pure (.string s)
    else unsupported (.unsafePointer "String: not so many bytes at ptr")):=rfl
 rw[hdef];have hmax:IntKind.i64.max=9223372036854775807:=rfl;have hneg:¬(l.length:Int)<0:=ω;simp[asInt,asIntOf,hmax,h63',hneg,hl,variablesAt,hsh,elemOf,Zza hp,hlies,hlb]
end
set_option maxHeartbeats 1000000 in
set_option maxRecDepth 100000 in
theorem Qui (b g o cap:Nat) (p:Value) (l:List UInt8) (C:Array Value) (i c:Nat×Nat) (w:World) (h0:l≠[]) (f:w.heap[b]?=some (.cells #[p,.slice (some ⟨g,o,none⟩) l.length cap] BT i))
  (n:w.heap[g]?=some (.cells C 5 c)) (r:o+l.length<=C.size) (t:l.length<=cap) (d:l.length<=9223372036854775807)
  (a:∀j x,l[j]?=some x->w.cell? ((⟨g,o,none⟩:Addr).add j)=some (.int .u8 x.toNat)):
  Calls prog 297 #[self b] w λe s=>e=.returned (.string ⟨l.toArray⟩)/\s=w.drew.freeze ⟨g,o,none⟩ l.length:=by
 have q:l.length≠0:=by grind
 have c1:w.drew.cell? ⟨b,1,none⟩=some (.slice (some ⟨g,o,none⟩) l.length cap):=by
  have:w.drew.heap[b]?=some (.cells #[p,.slice (some ⟨g,o,none⟩) l.length cap] BT i):=f
  rw[Lib.cell_of_heap this];rfl
 have k:(Builtin.unsafeSliceData_ #[29] 380 #[.slice (some ⟨g,o,none⟩) l.length cap]).run prog w.drew=.ok (.pointer (some ⟨g,o,none⟩)) w.drew:=
  Lib.run_unsafeSliceData_row _ _ _ _ _ _ ω
 have m:(Builtin.unsafeString_ #[380,3] 9 #[.pointer (some ⟨g,o,none⟩),.int .i64 l.length]).run prog w.drew=.ok (.string ⟨l.toArray⟩) (w.drew.freeze ⟨g,o,none⟩ l.length):=by
  refine uf w.drew 380 3 9 5 Tryz.underlying380 (by kernel_rfl) g o C.size (by have h:w.drew.heap[g]?=some (.cells C 5 c):=n;simp[World.shape?,h]) l h0 r d a
 have mixed:Tryz.prog.follows .mixedOrders=true:=by kernel_rfl
 go_enter Tryz.func297,Tryz.ntmps297
 go_wp2
 go_region_o
 all_goals (go_wp2;go_ret;exact⟨rfl,rfl⟩)
set_option maxHeartbeats 2000000 in
set_option maxRecDepth 100000 in
theorem Quj (b:Nat) (p:Value) (c:Nat×Nat) (w:World) (a:w.heap[b]?=some (.cells #[p,.slice none 0 0] BT c)):
  Calls prog 297 #[self b] w λe g=>e=.returned (.string ⟨#[]⟩)/\g=w.drew:=by
 have f:∀(W:World) (q:Option Addr),(Builtin.unsafeString_ #[380,3] 9 #[.pointer q,.int .i64 0]).run prog W=.ok (.string .empty) W:=λW q=>Lib.run_unsafeString_none W _ _ _ q
 have c1:w.drew.cell? ⟨b,1,none⟩=some (.slice none 0 0):=by
  have:w.drew.heap[b]?=some (.cells #[p,.slice none 0 0] BT c):=a
  rw[Lib.cell_of_heap this];rfl
 have d:(Builtin.unsafeSliceData_ #[29] 380 #[.slice none 0 0]).run prog w.drew=.ok (.pointer none) w.drew:=rfl
 have mixed:Tryz.prog.follows .mixedOrders=true:=by kernel_rfl
 go_enter Tryz.func297,Tryz.ntmps297
 go_wp2
 go_region_o
 all_goals (go_wp2;go_ret;exact⟨rfl,rfl⟩)
end bld
set_option maxRecDepth 100000
set_option maxHeartbeats 4000000
namespace sx
noncomputable section
open Go Go.RowKit cls syn
variable {x:Nat} {b:By} {G:List Gt}
def QdA (y:Int):Prop:=let a:=([b8 y]:List UInt8);let q1:=([UInt8.ofNat y.toNat]:List UInt8);Iv True/\bJ (ag a) 1/\ag a=ag q1/\a=q1/\True
def QdB (y:(List UInt8)×Int):Prop:=let a:=bM y.1 [b8 y.2];Iv True/\aa [ag y.1] (aa [y.1] (bJ (ag a) 1/\ag a=ag (y.1++[UInt8.ofNat y.2.toNat])/\a=(y.1++[UInt8.ofNat y.2.toNat])/\True))
def Qmq (y:Unit):Prop:=
 (0:Int)=(0:Int)/\
 True
def QdC (y:List UInt8):Prop:=aa [ag y,ag y] (aa [y] (True))
def Xx (y:(List (Int×Int))×b7):Prop:=let f:=y.1.length;let q1:=ag y.1;let r:=gJ y.1 (nn y.2);let s:=gU y.1 (nn y.2);let t:=((ct y.1 (f-y.2.i.toNat) y.2.i.toNat []).1:Int);let C:=λp:Prop=>aa [y.2.i] p;let v:=λp:Prop=>aa [y.1] (aa [bP y.1] p);let A:=λp:Prop=>aa [y.2.i] (aa [y.1] (aa [bP y.1] p));let B:=λp:Prop=>aa [y.2.ak,y.2.ab,y.2.an,y.2.wh] p;let u:Prop:=(y.2.ak=((y.2.ak.toNat:Nat):Int)/\y.2.ab=((y.2.ab.toNat:Nat):Int)/\aa [y.2.an,y.2.wh] (True));∃z:Unit,(∃w:Nat,A (y.2.i=(w:Int)/\B ((Iv (tK y w [])))))/\(∀x:Nat,let l:=ay .i64 (x:Int) 1;let d:=(gt (0,0) y.1 (x:Int).toNat).1;let h:=jP .u8 d;let m:=([UInt8.ofNat h.toNat]:List UInt8);let q:=λp:Prop=>aa [y.1] (aa [(x:Int),d] p);let j:Prop:=(Iv True/\aa [(x:Int),(x:Int)] ([]=s/\aw y.2.i (x:Int)=r/\v ((x:Int)=t/\u)));let n:Prop:=(aG 0 (x:Int)/\aw (x:Int) q1/\Iv (Hg h)/\aa [h] (aa [y.1] (aa [(x:Int),d] (((∃b:Nat,y.2.i=y.2.i/\False)\/(∃b:Nat×(List UInt8),y.2.i=y.2.i/\ag m=ag b.2/\m=b.2/\y.1=y.1/\bP y.1=bP y.1/\l=(b.1:Int)/\y.2.ak=y.2.ak/\y.2.ab=y.2.ab/\y.2.an=y.2.an/\y.2.wh=y.2.wh/\Iv ((tK y b.1 b.2/\Ne b.2 [])/\(f-b.1)<(f-x))))))));(Iv (tK y x []))->aj (aw (x:Int) q1) (aG 0 (x:Int)/\aw (x:Int) q1/\aj (aG 48 d) (aG 0 (x:Int)/\aw (x:Int) q1/\aa [(x:Int)] (aa [y.1,y.1] (aa [(x:Int),d] (aa [y.1] (aa [(x:Int),d] (aj (aG d 57) (aG 0 (x:Int)/\aw (x:Int) q1/\aj (aw 48 d) (q (n)) (Iv True/\q (aj (aw 0 0) (n) (((∃b:Nat,y.2.i=y.2.i/\y.1=y.1/\bP y.1=bP y.1/\l=(b:Int)/\y.2.ak=y.2.ak/\y.2.ab=y.2.ab/\y.2.an=y.2.an/\y.2.wh=y.2.wh/\Iv (tK y b []/\(f-b)<(f-x)))\/(∃b:Nat×(List UInt8),y.2.i=y.2.i/\False)))))) (j))))))) (aa [(x:Int)] (aa [y.1,y.1] (aa [(x:Int),d] (j))))) (aa [(x:Int)] (aa [y.1] (j))))/\(∀x:Nat×(List UInt8),let e:=ag x.2;let a:=(x.1:Int);let c:=(gt (0,0) y.1 a.toNat).1;let g:=jP .u8 c;let k:Prop:=(Iv (Ne x.2 [])/\aa [e] (aa [x.2] (aa [a,a] (x.2=s/\aw y.2.i a=r/\v (a=t/\u)))));let o:Prop:=(aG 0 a/\aw a q1/\Iv (x.2.length<=1000000/\Hg g)/\aa [g,e] (aa [x.2] (aa [y.1] (aa [a,c] (((∃b:Nat,y.2.i=y.2.i/\False)\/(∃b:Nat×(List UInt8),y.2.i=y.2.i/\ag (x.2++[UInt8.ofNat g.toNat])=ag b.2/\(x.2++[UInt8.ofNat g.toNat])=b.2/\y.1=y.1/\bP y.1=bP y.1/\ay .i64 a 1=(b.1:Int)/\y.2.ak=y.2.ak/\y.2.ab=y.2.ab/\y.2.an=y.2.an/\y.2.wh=y.2.wh/\Iv ((tK y b.1 b.2/\Ne b.2 [])/\(f-b.1)<(f-x.1)))))))));(Iv (tK y x.1 x.2/\Ne x.2 []))->aj (aw a q1) (aG 0 a/\aw a q1/\aj (aG 48 c) (aG 0 a/\aw a q1/\aa [a] (aa [y.1,y.1] (aa [a,c] (aa [y.1] (aa [a,c] (aj (aG c 57) (aG 0 a/\aw a q1/\aj (aw 48 c) (aa [y.1] (aa [a,c] (o))) (Iv True/\aa [e] (aa [x.2] (aa [y.1] (aa [a,c] (aj (aw 0 e) (o) (((∃b:Nat,y.2.i=y.2.i/\False)\/(∃b:Nat×(List UInt8),y.2.i=y.2.i/\e=ag b.2/\x.2=b.2/\y.1=y.1/\bP y.1=bP y.1/\ay .i64 a 1=(b.1:Int)/\y.2.ak=y.2.ak/\y.2.ab=y.2.ab/\y.2.an=y.2.an/\y.2.wh=y.2.wh/\Iv ((tK y b.1 b.2/\Ne b.2 [])/\(f-b.1)<(f-x.1))))))))))) (k))))))) (aa [a] (aa [y.1,y.1] (aa [a,c] (k))))) (aa [a] (aa [y.1] (k))))
theorem Qmr:Ok QiO:=by
 refine⟨⟨f306,_,by kernel_rfl,cN (by kernel_rfl)⟩,λy o M A w f c _ R h=>?_⟩;obtain⟨v,rfl,k⟩:=yd f;cases k with
 | ptr d n=>
  obtain⟨_,hs,ht,C,m,g,hl,_⟩:=pw c (b:=0) (cs:=[.ptr 0 0,.own 1 1 (ag y)]) rfl d;obtain⟨p,q,rfl,h0,h1⟩:=EC hl;cases h0 with
  | ptr a j=>
   rw[d] at a;cases a;rw[hs];refine(bld.O8 _ w (by rw[Lib.cell_of_heap g,hs];rfl)).mono λe l ⟨i,hw⟩=>?_
   subst i hw;exact h M _ l (VR.DC .nil) (.refl c 2)
theorem Qms:Ok Zi:=by
 refine⟨⟨f306,_,by kernel_rfl,cN (by kernel_rfl)⟩,λy D M A w p k _ R r=>?_⟩;obtain⟨v,rfl,u⟩:=yd p;cases u with
 | @ptr _ _ x f g=>
  obtain⟨_,hs,ht,C,m,c,hl,d⟩:=pw k (b:=0) (cs:=[.fT,.dF]) rfl f;obtain⟨E,F,rfl,h0,h1⟩:=EC hl;cases h0;cases h1;rw[hs];have a:=d rfl;refine(bld.JE _ w (by rw[Lib.cell_of_heap c];rfl) (by simp[World.shape?,c]) (by
   simp only[World.frozen?,c];rcases a with h | h
   ·rw[h];simp;try omega
   ·have:=h.1;simp at this ⊢;try omega)).mono λe G ⟨s,hw⟩=>?_
  subst s hw;obtain⟨_,_,j⟩:=rR (o1:=.cells [.ptr 0 0,.dF] 369 false) (q:=0) (vs':=[bld.self x.bY]) (b:=0) k rfl rfl f g c (by grind) (by grind) ω (λ_=>trivial) (λl z H B=>⟨⟨g,hs,ht⟩,l,m,z,by grind,by grind,(λi v e=>by
   rw[hs,Za6,B]
   match i,e with
   | 0,e=>cases e;exact⟨_,rfl,by have:=VR.ptr (o:=0) f g;rw[hs] at this;exact this⟩
   | 1,e=>cases e;exact⟨_,rfl,.dF⟩
   | n+2,e=>cases e),λ_=>ω⟩) 1
  refine r M _ _ (VR.DC .nil) ?_;have e:(λt=>cA (Zi.dy y) t)=ja (λt=>cA (Zi.heap y) t) 0 (some (.cells [.ptr 0 0,.dF] 369 false)):=by
   funext t;show cA (Tn 0 (.ptr 0 0)) t=_
   unfold ja Tn;by_cases ht:t=0
   ·subst ht;rfl
   ·rw[Zaa ht,fh,Zaa (λh=>ht h.symm)];show cA [] t=cA (Tn 0 .fT) t
    grind [Tn,fh]
  rw[e];exact j
theorem MD {M:Pm D} {H:Hp D} {w:World} (i:ee M H w) {b:Nat} {o:AO D.E} {d:MI} (k:H b=some o) (hw:o.wr) (g:∀j,o.ti d j) (l:M.pl b=some d) (p:d.real) (a:Addr) (G:a.block=d.bY) (n lo:Nat):
  cU H M w (λ_=>none) M (w.drew.freeze a n) lo lo:=by
 have f:∀W:World,(W.freeze a n).os=W.os/\(W.freeze a n).tape=W.tape/\(W.freeze a n).output=W.output/\(W.freeze a n).heap.size=W.heap.size/\∀c,c≠d.bY->(W.freeze a n).heap[c]?=W.heap[c]?:=λW=>by
  grind [World.freeze]
 obtain⟨s,t,u,x,y⟩:=f w.drew;have hk:∀c,c≠d.bY->(w.drew.freeze a n).heap[c]?=w.heap[c]?:=y;refine⟨⟨λb o h=>(nomatch h),λb F o J m I h=>(nomatch h),λc q v h=>?_,λb o m h=>(nomatch h),λb c xs e m h=>(nomatch h),⟨⟨by rw[x];exact i.mh.1.1,D.gst _ _ (λc z=>hk c ?_) i.mh.1.2⟩,λb o m h=>(nomatch h)⟩⟩,λ_ _=>rfl,λ_ _ _ h=>h,λ_ _ h=>.inl h,by simp_all,λc z A=>hk c ?_,λb o m h=>(nomatch h),λb h=>absurd rfl h,s,t,u,Zah _⟩
 ·obtain⟨B,C,r,e2⟩:=i.gR c q v h;refine⟨B,C,?_,e2⟩;rw[<-r];exact gk (hk c λe=>by
   have:=i.sep b o d k hw l p q (g q);rw[<-e,h] at this;cases this)
 ·have:=i.mh.2 b o d k hw l p;omega
 ·exact λe=>A ⟨b,o,d,k,hw,l,p,e.symm⟩
theorem Qmt:Ok QiP:=by
 refine⟨⟨f297,_,by kernel_rfl,cN (by kernel_rfl)⟩,λy n M A w f a _ R h=>?_⟩;obtain⟨v,rfl,l⟩:=yd f;cases l with
 | @ptr _ _ m c k=>
  obtain⟨_,hs,ht,C,d,g,hl,j⟩:=pw a (b:=0) (cs:=[.fT,.dF]) rfl c;obtain⟨o,p,rfl,h0,h1⟩:=EC hl;cases h0;cases h1;rw[hs];refine(bld.Quj _ _ d w g).mono λe q ⟨i,hw⟩=>?_
  subst i hw;have:=MD a (b:=0) rfl rfl (λ_=>trivial) c k ⟨m.bY,0,none⟩ rfl 0 1;exact h M (.string ⟨⟨[]⟩⟩) _ (.str (Zaj _)) this
theorem Qmu:Ok QiQ:=by
 refine⟨⟨f297,_,by kernel_rfl,cN (by kernel_rfl)⟩,λy n M A w q h _ R r=>?_⟩;obtain⟨v,rfl,E⟩:=yd q;cases E with
 | @ptr _ _ I B H=>
  obtain⟨_,hs,ht,C,p,m,hl,t⟩:=pw h (b:=0) (cs:=[.ptr 0 0,.own 1 1 (ag y)]) rfl B;obtain⟨J,K,rfl,h0,h1⟩:=EC hl;obtain⟨a,d,c,f,i⟩:=h.obj 1 (.arr 0 y 5 false) rfl;have z:ag y=(y.length:Int):=au y;cases h1 with
  | own g1 g2 g3 g4 g5 g6 g7=>
   rw[d] at g1;cases g1;obtain⟨o,g,k1,k2,k3,k4,k5⟩:=i g3;replace c:a.len=y.length:=c;replace f:a.je=1:=f;rw[c] at m g5 g6;rw[hs];have k:=bf fL 0 y;rw[show D.size 0=1 from rfl,Zb8] at k;have G:a.sh+y.length<=a.qK:=by grind
   refine(bld.Qui _ _ _ _ _ y o p g w n m k1 ω g6 g5 (λj x F=>?_)).mono λe N ⟨s,hw⟩=>?_
   ·obtain⟨u,rfl⟩:=Zam.1 F;have e:=fQ fL 0 y j 0 u (by decide);obtain⟨L,l,a2⟩:=k4 (j*D.size 0+0) _ e;obtain rfl:=fE a2;have:(⟨a.bY,a.sh,none⟩:Addr).add j=⟨a.bY,a.sh+j,none⟩:=by
     grind [Addr.add]
    rw[this,Lib.cell_of_heap k1];have e2:a.sh+(j*D.size 0+0)=a.sh+j:=by show a.sh+(j*1+0)=_;omega
    rw[e2] at l;exact l
   ·subst s hw;have:=MD h (b:=1) rfl rfl (λ_=>trivial) d g3 ⟨a.bY,a.sh,none⟩ rfl y.length 2;exact r M (.string ⟨⟨y⟩⟩) _ (.str g5) this
  | kD g1 g2 g3 g4 g5=>exact absurd (Zap ω) n
theorem Qmv:Ok Zj:=okZ (V:=QdA) [Zi] f296 (λ_=>⟨[],[2],[],[],1,[]⟩) Qms λy a=>by
 unfold QdA;simp only[kU,Zal,au];exact⟨br.2 (by grind),rfl,rfl,trivial⟩
theorem Qmw:Ok Zk:=okZ (V:=QdB) [QiO] f296 (λ_=>dY ()) Qmr λy a=>by
 unfold QdB;simp only[bC,au,aT];obtain⟨h1,b⟩:y.1.length<=1000000/\Hg y.2:=a;refine⟨br.2 ?_,rfl,rfl⟩;grind
def Qmx:Ok Zl:=okZ (V:=Qmq) [] f295 (λ_=>dY ()) trivial λy a=>⟨rfl,trivial⟩
theorem Qmy:Ok Zm:=okZ (V:=QdC) [] f295 (λ_=>dY ()) trivial λy a=>by
 grind [QdC]
theorem JF {i:Nat} (h:¬(i<G.length/\48<=aK G i/\aK G i<=57)):ct G x i b=(i,b):=by
 rcases x with _ | x
 ·rfl
 ·grind [ct]
theorem Xy (h:x<G.length/\48<=aK G x/\aK G x<=57):ct G (G.length-x) x b=ct G (G.length-(x+1)) (x+1) (if 48<aK G x\/b≠[] then b++[UInt8.ofNat (aK G x).toNat] else b):=by
 obtain⟨m,a⟩:∃m,G.length-x=m+1:=⟨G.length-x-1,ω⟩;grind [ct]
def nv {y:PS} (a:bx y) (l:tK y x b) (h:¬(x<y.1.length/\48<=aK y.1 x/\aK y.1 x<=57)):
  b=gU y.1 (nn y.2)/\aw y.2.i x=gJ y.1 (nn y.2)/\(x:Int)=((ct y.1 (y.1.length-y.2.i.toNat) y.2.i.toNat []).1:Nat)/\y.2.ak=(y.2.ak.toNat:Nat)/\y.2.ab=(y.2.ab.toNat:Nat):=by
 have e:=l.2.2.2;rw[JF h] at e;obtain⟨c,a2,a3,a4,_⟩:=a;refine⟨?_,?_,?_,ω,ω⟩
 ·show b=(ct y.1 (y.1.length-(nn y.2).i) (nn y.2).i []).2
  rw[<-e]
 ·show _=decide ((nn y.2).i<(ct y.1 (y.1.length-(nn y.2).i) (nn y.2).i []).1)
  rw[<-e];apply ZaG.2;rw[dA,ZbP];show y.2.i<x↔y.2.i.toNat<x
  omega
 ·show(x:Int)=((ct y.1 (y.1.length-(nn y.2).i) (nn y.2).i []).1:Nat)
  rw[<-e]
theorem Xz {y:PS} (a:bx y) (l:tK y x b) (h:x<y.1.length/\48<=aK y.1 x/\aK y.1 x<=57):
  ay .i64 (x:Int) 1=((x+1:Nat):Int)/\jP .u8 (aK y.1 x)=aK y.1 x/\Hg (aK y.1 x)/\tK y (x+1) (if 48<aK y.1 x\/b≠[] then b++[UInt8.ofNat (aK y.1 x).toNat] else b)/\y.1.length-(x+1)<y.1.length-x:=by
 obtain⟨q1,e,f,c⟩:=l;have d:=a.1;refine⟨ba ω ω,dG (cL.2 ⟨by show(0:Int)<=_;omega,by show _<=(255:Int);omega⟩),⟨ω,ω⟩,⟨ω,ω,?_,by rw[<-c,Xy h]⟩,ω⟩;grind
theorem Quk:∀y,yk.pre y->Xx y:=λy j=>by
 unfold Xx;simp only[bL,bC,au,dq,Zad,ZaX,ZaY,ZaZ,Zdt,Zdv,Zd2];obtain⟨b,-⟩:=j;replace b:bx y:=b;obtain⟨k,a2,-⟩:=id b;simp only[show ∀x:Nat,(y.1.getD x (0,0)).1=aK y.1 x from λ_=>rfl];refine⟨⟨(nn y.2).i,by show y.2.i=(y.2.i.toNat:Int);omega,Zah _,by show y.2.i.toNat<=_;omega,Zaj _,rfl⟩,λx a=>?_,λx a=>?_⟩
 ·refine⟨λh1=>⟨ω,h1,λd=>⟨ω,h1,λe=>⟨ω,h1,?_⟩,λe=>nv b a λh=>?_⟩,λd=>nv b a λh=>?_⟩,λh1=>nv b a λh=>?_⟩
  ·obtain⟨g1,g2,g3,g4,g5⟩:=Xz b a ⟨ω,d,e⟩;rw[g2];refine⟨λf=>⟨ω,h1,g3,⟨(x+1,[UInt8.ofNat (aK y.1 x).toNat]),rfl,rfl,g1,⟨?_,by simp⟩,g5⟩⟩,λf=>⟨λh=>absurd h (by decide),λ_=>⟨x+1,g1,?_,g5⟩⟩⟩
   ·grind
   ·grind
  all_goals omega
 ·obtain⟨i,l⟩:=x;obtain⟨a,hl⟩:=a;refine⟨λh1=>⟨ω,h1,λd=>⟨ω,h1,λe=>⟨ω,h1,?_⟩,λe=>⟨hl,nv b a λh=>?_⟩⟩,λd=>⟨hl,nv b a λh=>?_⟩⟩,λh1=>⟨hl,nv b a λh=>?_⟩⟩
  ·obtain⟨g1,g2,g3,g4,g5⟩:=Xz b a ⟨ω,d,e⟩;simp only at g2 hl ⊢;rw[g2];rw[Zac (.inr hl)] at g4;have o:l.length<=1000000:=by have m:l.length<=i:=a.2.2.1;have n:i<=y.1.length:=a.2.1;omega
   have g:∃c:Nat×By,((l++[UInt8.ofNat (aK y.1 i).toNat]).length:Int)=(c.2.length:Int)/\l++[UInt8.ofNat (aK y.1 i).toNat]=c.2/\ay .i64 (i:Int) 1=(c.1:Int)/\(tK y c.1 c.2/\c.2≠[])/\y.1.length-c.1<y.1.length-i:=
    ⟨(i+1,_),rfl,rfl,g1,⟨g4,by simp⟩,g5⟩
   grind [List.length_pos_iff]
  all_goals omega
def Qmz:Ok yk:=okZ [Zl,Zm,Zj,Zk,QiP,QiQ] f269 Qpc ⟨Qmx,Qmy,Qmv,Qmw,Qmt,Qmu⟩ Quk
end
end sx
namespace join
open Go Go.ChangeShapes Go.WideShapes Go.ChangeAt Go.RowKit
def p1 (P:Program) (_f:FuncId) (a:Func) (s:ChangeSpec) (c:OpenClaim):Bool:=(c.wf (OpenSpec.ofChange s)&&laidOutB P&&mapsRowed P)
def p2 (P:Program) (_f:FuncId) (fn:Func) (s:ChangeSpec) (c:OpenClaim):Bool:=(fn.params.all (P.readableRec ·)&&namedTie P c.named s.vars&&(c.stops==[])&&(P.stops==[])&&(c.knobs==[])&&(P.stopKnobs==[]))
def p3 (P:Program) (f:FuncId) (a:Func) (b:ChangeSpec) (c:OpenClaim):Bool:=(c.inPlace==P.inPlace f)
def p4 (P:Program) (f:FuncId) (a:Func) (b:ChangeSpec) (c:OpenClaim):Bool:=(c.unfollowed==P.unfollowed f)
def p5 (P:Program) (f:FuncId) (a:Func) (b:ChangeSpec) (c:OpenClaim):Bool:=(c.recurses==P.recurses f)
def p6 (P:Program) (f:FuncId) (a:Func) (b:ChangeSpec) (c:OpenClaim):Bool:=(c.named==P.varsNamed f)
def p7 (P:Program) (_f:FuncId) (fn:Func) (s:ChangeSpec) (c:OpenClaim):Bool:=((c.maps==(fn.params.toList++s.plain.varTypes P).any (P.mapsRec ·))&&(c.ifaces==(fn.params.toList++s.plain.varTypes P).any (P.ifacesRec ·))&&(c.mapsOut==P.mapsAmong fn.resultTypes.toList)&&(c.loops==(fn.params.toList++s.plain.varTypes P).any (P.loopsFrom ·))&&(c.wideKeys==(fn.params.toList++s.plain.varTypes P++fn.resultTypes.toList).any (P.wideKeysFrom ·))&&s.vars.all (P.varReadable ·)&&fn.resultTypes.all (λt=>P.readableRec t&&decide (t<P.types.size))&&(c.ifacesOut==fn.resultTypes.toList.any (P.ifacesRec ·))&&(c.loopsOut==fn.resultTypes.toList.any (P.loopsFrom ·)))
def p8 (P:Program) (_f:FuncId) (a:Func) (b:ChangeSpec) (c:OpenClaim):Bool:=(c.plainKeys==P.plainKeys)
def p9 (P:Program) (_f:FuncId) (a:Func) (b:ChangeSpec) (c:OpenClaim):Bool:=(c.shortTexts.isNone&&P.stopsHeard&&P.mayEnter)
def p10 (P:Program) (_f:FuncId) (a:Func) (b:ChangeSpec) (c:OpenClaim):Bool:=(c.lifted==P.liftsFinal)
def p11 (P:Program) (_f:FuncId) (fn:Func) (a:ChangeSpec) (c:OpenClaim):Bool:=((P.make==some c.make)&&(c.kinds==(if c.domain.isEmpty then[] else fn.params.toList.map λt=>match P.underlying t with | some (.int k)=>some k | _=>none))&&(c.pinned==c.pinnedBy))
def p12 (P:Program) (_f:FuncId) (fn:Func) (s:ChangeSpec) (c:OpenClaim):Bool:=((c.veiled==(fn.params.toList++s.plain.varTypes P++fn.resultTypes.toList).any (P.veiledRec ·))&&c.veiledFits P fn.params.toList (fn.params.toList++s.plain.varTypes P++fn.resultTypes.toList))
def facts {P:Program} {f:FuncId} {fn:Func} {s:ChangeSpec} {c:OpenClaim} (h1:p1 P f fn s c) (e:p2 P f fn s c) (i:p3 P f fn s c) (j:p4 P f fn s c) (k:p5 P f fn s c) (l:p6 P f fn s c) (b:p7 P f fn s c) (m:p8 P f fn s c) (h:p9 P f fn s c) (g:p10 P f fn s c) (a:p11 P f fn s c) (d:p12 P f fn s c):joinedFacts P f fn s c:=by
 unfold p1 at h1;unfold p2 at e;unfold p3 at i;unfold p4 at j;unfold p5 at k;unfold p6 at l;unfold p7 at b;unfold p8 at m;unfold p9 at h;unfold p10 at g;unfold p11 at a;unfold p12 at d;unfold joinedFacts;simp only[ZaW,Zdc] at h1 e b h a d ⊢;exact⟨h1.1,h1.2.1,h1.2.2,e.1,e.2.1,e.2.2.1,e.2.2.2.1,e.2.2.2.2.1,e.2.2.2.2.2,i,j,k,l,b.1,b.2.1,b.2.2.1,b.2.2.2.1,b.2.2.2.2.1,b.2.2.2.2.2.1,b.2.2.2.2.2.2.1,b.2.2.2.2.2.2.2.1,b.2.2.2.2.2.2.2.2,m,h.1,h.2.1,h.2.2,g,a.1,a.2.1,a.2.2,d.1,d.2⟩
end join
end Go.Proofs.YtiiiphndmbabcaaGreat
