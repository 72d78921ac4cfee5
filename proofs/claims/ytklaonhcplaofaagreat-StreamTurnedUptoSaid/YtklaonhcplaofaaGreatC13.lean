/- StreamTurned: a part of the proof. -/
import Derived.Test.YtklaonhcplaofaaGreatC12
import Derived.Test.YtklaonhcplaofaaGreatC9
import Derived.Test.YtklaonhcplaofaaGreatC10
import Derived.Test.YtklaonhcplaofaaGreatC3
import Derived.Shelf.SlGeneric
import Derived.Shelf.SlSortCmp.WholeK
import Derived.Ground.SlsfProg
import Derived.Ground.NamesProg
import Derived.Shelf.Strings.Builder1
import Derived.Shelf.LaysM
import Derived.Test.YtklaonhcplaofaaGreatProg
import Derived.Lib.MinMax
import Derived.Deep.DeepMust
import Derived.RegionTactic
import Derived.Shelf.SlSortCmp.NoneTotal
import Derived.Test.YtklaonhcplaofaaGreatC5
import Derived.Shelf.Spec.SlicesInsert
import Derived.Lib.AppendZerosOnto
import Derived.Laws.NewBlocks
import Derived.Test.YtklaonhcplaofaaGreatC4
import Derived.Deep.RegionHeld3
import Derived.Test.YtklaonhcplaofaaGreatC6
import Derived.WalkKit
import Derived.ProofKit
set_option linter.all false
namespace Go.Proofs.YtklaonhcplaofaaGreat
open Go.Proofs.Tryz
set_option maxRecDepth 100000
set_option maxHeartbeats 4000000
namespace sx
noncomputable section
open Go Go.RowKit cls syn
variable {Z:lG} {x:jB} {p:eu} {Y:vu}
def QbE:Ok Vz:=okZ (V:=Qbn) [NJ] f24 (λ_=>ew ()) VN λy a=>by
 have a:lN y.r.p/\lN y.r.q:=a;unfold Qbn;simp only[bH,qg];exact⟨a,rfl,rfl,rfl⟩
def QbF:Ok NQ:=okZ (V:=Qbo) [] f22 Qrl trivial λy b=>by
 have hl:y.st.aQ.length<=1000:=b;unfold Qbo;simp only[bH,oM];refine⟨⟨0,rfl,rfl,Zaj _⟩,λx c=>⟨λk=>?_,λk=>?_⟩⟩
 ·have a:x<y.st.aQ.length:=by simpa [av] using gk.1 k
  exact⟨km.2 ω,k,λd=>⟨km.2 ω,k,M7 y.st.aT y.st.aQ x a hl d⟩,M8 y.st.aT y.st.aQ x a hl⟩
 ·have a:x=y.st.aQ.length:=by have:=oG.1 k;rw[av] at this;omega
  rw[a];exact(aI _).symm
def QbG:Ok VA:=okZ (V:=Qbp) [] f23 (λ_=>ew ()) trivial λy _=>by
 unfold Qbp;simp only[bH]
theorem QjI:Ok Τ:=okZ (V:=Qbq) [] f19 (λ_=>ew ()) trivial λy _=>by
 unfold Qbq;simp only[bI,bH]
 with_reducible repeat' first | apply And.intro | intro _
 all_goals grind [lbN,lbG,E_]
def sm (h:qP p Y):(yL ⟨p,Y⟩).length=p.aj.length:=by
 have:=(Cc (y:=⟨p,Y⟩) h Y.h.length).2.1;unfold yL mI;rw[Za2,List.length_range];exact this
def Iw (e:Int) (l:List dh):(kG e l).length<=l.length:=by
 rw[show kG e l=_ from aI _];exact te e l _
theorem EW:∀(n:Nat) (h:By) (l:List Gt),h.length<n->(It n h l).1.length<=3
 | 0,_,_,h=>by omega
 | n+1,h,l,a=>by
  rw[It];split
  ·rename_i k
   rcases k with rfl | k
   ·exact Zaj _
   ·exact TW k
  ·rename_i k
   have:=Lc (h:=h) λe=>k (.inl e)
   exact EW n _ _ (by rw[Zbg];omega)
def nG (h:qP p Y) (c:Int):qP p (tl ⟨p,Y,c⟩):=by
 refine⟨h.1,(VK (y:=⟨p,Y,c⟩) h _).2,?_⟩;have:=EW (Y.h.length+2) (Y.h++[b8 c]) [] (by rw[Zab];simp);exact Zav this ω
def qR (h:Ο p):qP p (qN p):=by
 refine⟨h,⟨by simp[qN,mH],λl hl=>?_⟩,Zaj _⟩;obtain⟨a,b,rfl⟩:=ZcL.1 hl;rw[ZaM] at b;obtain⟨k,hk,rfl⟩:=Za3 b;have:=h.2.2.2 k hk;rw[sk _ hk] at this;exact⟨by simp[nh],λt ht=>by simp only[nh,ZaI] at ht;subst ht;exact this⟩
def QjJ:Ok Χ:=okZ (V:=Qbr) [Vy,NO,Vz,NQ,VA] f21 (λ_=>ew ()) ⟨QjF,QbA,QbE,QbF,QbG⟩ λy B=>by
 obtain⟨a,e,b,m,hO,h⟩:iA y.r y.x:=B;have v:(!seq y.r.s.c [])=nN y.r:=rfl;have i:nN ⟨y.r.s,y.r.p,y.r.q,[]⟩=nN y.r:=rfl;have hk:iz ⟨y.r.s,y.r.p,y.r.q,[]⟩=iz y.r:=rfl;have w:=sm b;have A:y.r.p.aj.length<=1000:=a.2.1;have D:=Iw y.x.st.aT y.x.st.aQ;have E:=Iw y.x.st.bu (yL ⟨y.r.p,y.x.aG⟩);have f:x3 y=(y.x.st.ea&&((yL ⟨y.r.q,y.x.aZ⟩).getD 0 Bs).done&&aH (Υ y) 500):=rfl;have t:(yL ⟨y.r.q,y.x.aZ⟩).getD 0 ⟨false,0,0,0,0,0,0,0,0,0,0,[]⟩=(yL ⟨y.r.q,y.x.aZ⟩).getD 0 Bs:=rfl;have hz:aw .i64 (aw .i64 y.x.st.size 1) y.n=Υ y:=rfl;have u:bx (ag (bC (kG y.x.st.aT y.x.st.aQ) (kG y.x.st.bu (yL ⟨y.r.p,y.x.aG⟩)))) 104:=by
  simp only[bm,av,a7,Zab];omega
 unfold Qbr;simp only[bH,qg,v,i,hk,t,hz,cS,u,Zan,Zao];refine⟨λo=>?_,λo=>?_⟩
 ·obtain⟨C,l⟩:=hO o;obtain⟨c1,c2⟩:=m C;have k:=sm c2;refine⟨c2,by rw[gk,av,k];omega,λd=>⟨λz=>?_,λz=>?_⟩,λd=>?_⟩
  ·have g:x3 y:=by rw[f,o,d,z];rfl
   simp only[g,↓reduceIte,x4];exact⟨l,l,⟨a,e⟩,by(repeat' apply And.intro)<;>first | rfl | trivial⟩
  ·have g:x3 y=false:=by rw[f,z];simp
   simp only[g,ZaE,↓reduceIte,x4];refine⟨h,b,λj=>?_,λj=>?_⟩
   ·simp only[j,ZaE,↓reduceIte];exact⟨ω,⟨a,e⟩,by(repeat' apply And.intro)<;>first | rfl | trivial⟩
   ·simp only[j,↓reduceIte];exact⟨b,⟨a,e⟩,by(repeat' apply And.intro)<;>first | rfl | trivial⟩
  ·have g:x3 y=false:=by rw[f,d];simp
   simp only[g,ZaE,↓reduceIte,x4];refine⟨h,b,λj=>?_,λj=>?_⟩
   ·simp only[j,ZaE,↓reduceIte];exact⟨ω,⟨a,e⟩,by(repeat' apply And.intro)<;>first | rfl | trivial⟩
   ·simp only[j,↓reduceIte];exact⟨b,⟨a,e⟩,by(repeat' apply And.intro)<;>first | rfl | trivial⟩
 ·have g:x3 y=false:=by rw[f,o];simp
  simp only[g,ZaE,↓reduceIte,x4];refine⟨h,b,λj=>?_,λj=>?_⟩
  ·simp only[j,ZaE,↓reduceIte];exact⟨ω,⟨a,e⟩,by(repeat' apply And.intro)<;>first | rfl | trivial⟩
  ·simp only[j,↓reduceIte];exact⟨b,⟨a,e⟩,by(repeat' apply And.intro)<;>first | rfl | trivial⟩
def QjK:Ok VB:=okZ (V:=Qbs) [Τ,NO,Χ,NQ,VA,NJ,Vz] Tryz.f8 Qrs ⟨QjI,QbA,QjJ,QbF,QbG,VN,QbE⟩ λy t=>by
  obtain⟨e,f,h,i,hO,k⟩:iA y.r y.x:=t;have m:(!seq y.r.s.c [])=nN y.r:=rfl;have d:nN ⟨y.r.s,y.r.p,y.r.q,[]⟩=nN y.r:=rfl;have hk:E_ ⟨if y.x.st.bR=true then 0 else dbN y,y.x.st.bR,y.c⟩=E_ (ϊ y):=rfl;have n:cF .i64 y.x.st.pos y.x.st.bu=dbN y:=rfl;have u:=Iw y.x.st.aT y.x.st.aQ;have l:bx (ag (bC (kG y.x.st.aT y.x.st.aQ) [⟨2,y.x.st.bu,0,0,0,0,0,0,0,0,0,0,0⟩])) 104:=by
    simp only[bm,av,a7,Zab,ZbA];omega
  unfold Qbs;simp only[bH,qg,m,d,hk,n,l,nJ,l9,ZaY,ZaZ,ZaX];refine⟨⟨λg=>?_,λg=>?_⟩,λk1=>⟨h,λj=>⟨(i j).2,λo=>⟨(hO o).2,?_⟩,λo=>?_⟩,λj=>⟨λo=>⟨(hO o).2,?_⟩,λo=>?_⟩⟩,λk1=>⟨λk2=>⟨⟨e,f,h,i,hO,k⟩,?_⟩,λk2=>⟨λk3=>⟨k,⟨e,f⟩,?_⟩,λk3=>⟨λk5=>⟨⟨e,f⟩,?_⟩,λk5=>?_⟩⟩⟩⟩
  · rw[Zac g]
  · rw[Zaa (by simp[g])]
  all_goals
    first
      | (have a:cM y=db1 y:=Zac k1
         have b:Ol y=[]:=by unfold Ol;rw[k1];rfl
         simp only[a,b,db1,j,o,ZaE,↓reduceIte])
      | (have a:cM y=Iu ⟨y.r,NS y,dbN y⟩:=(Zaa k1).trans (Zac k2)
         have b:Ol y=x4 ⟨y.r,NS y,dbN y⟩:=Zac k2;simp only[a,b])
      | (have a:cM y=db3 y:=(Zaa k1).trans ((Zaa k2).trans (Zac k3))
         have b:Ol y=kG y.x.st.aT y.x.st.aQ++[⟨2,y.x.st.bu,0,0,0,0,0,0,0,0,0,0,0⟩]:=(Zaa k2).trans (Zac k3);simp only[a,b])
      | (have a:cM y=NP ⟨y.r,NS y⟩:=(Zaa k1).trans ((Zaa k2).trans ((Zaa k3).trans (Zac k5)))
         have b:Ol y=[]:=(Zaa k2).trans (Zaa k3);simp only[a,b])
      | (have a:cM y=NS y:=(Zaa k1).trans ((Zaa k2).trans ((Zaa k3).trans (Zaa k5)))
         have b:Ol y=[]:=(Zaa k2).trans (Zaa k3);simp only[a,b])
    (repeat' apply And.intro)<;>first | rfl | trivial | exact o.symm
def VO (c:Ο Z.p) (f:nN Z->Ο Z.q) (h1:lN Z.p) (a:lN Z.q) (d:nN Z->Z.q.aj.length=1) (hO:x.st.ea->nN Z/\qP Z.p x.aX) (b:x.st.aQ.length<=1000):iA Z (NP ⟨Z,x⟩):=by
 refine⟨h1,a,qR c,λj=>⟨d j,?_⟩,hO,b⟩;have e:iz Z=qN Z.q:=Zac j;show qP Z.q (iz Z)
 rw[e];exact qR (f j)
def Qd3 (h:iA Z x) (n:Int):iA Z (Iu ⟨Z,x,n⟩):=by
 obtain⟨e,i,c,d,hO,l⟩:=h;have hs:Z.p.aj.length<=1000:=e.2.1;have go:∀z:jB,(z.st.ea->nN Z/\qP Z.p z.aX)->z.st.aQ.length<=1000->iA Z (NP ⟨Z,z⟩):=λz a b=>VO c.1 (λj=>(d j).2.1) e i (λj=>(d j).1) a b
 unfold Iu;split
 ·rename_i g
  have o:x.st.ea:=by
   unfold x3 at g;simp only[ZaW] at g;exact g.1.1
  obtain⟨k,f⟩:=hO o;exact go _ (λ_=>⟨k,nG f 10⟩) (by show(yL ⟨Z.p,x.aX⟩).length<=_;rw[sm f];exact hs)
 ·split
  ·rename_i j
   exact go _ (λ_=>⟨j,nG c 10⟩) (by show(yL ⟨Z.p,x.aG⟩).length<=_;rw[sm c];exact hs)
  ·exact go _ nofun (Zaj _)
def Qd4 (h:iA Z x) (c:Int):iA Z (cM ⟨Z,x,c⟩):=by
 have f:=h;obtain⟨d,e,b,a,hO,g⟩:=h;unfold cM;split
 ·refine⟨d,e,nG b c,λj=>⟨(a j).1,?_⟩,λo=>⟨(hO o).1,?_⟩,g⟩
  ·show qP Z.q (if nN Z=true then tl ⟨Z.q,x.aZ,c⟩ else x.aZ)
   rw[Zac j];exact nG (a j).2 c
  ·have o:x.st.ea:=o;show qP Z.p (if x.st.ea=true then tl ⟨Z.p,x.aX,c⟩ else x.aX)
   rw[Zac o];exact nG (hO o).2 c
 split
 ·exact Qd3 (x:=NS ⟨Z,x,c⟩) f _
 split
 ·refine⟨d,e,qR b.1,λj=>⟨(a j).1,?_⟩,nofun,Zaj _⟩;show qP Z.q (iz Z)
  rw[show iz Z=qN Z.q from Zac j];exact qR (a j).2.1
 split
 ·exact VO b.1 (λj=>(a j).2.1) d e (λj=>(a j).1) hO g
 ·exact f
def AF (h:qP p Y) (a:lN p):Wf Y:=⟨h.2.2,by rw[h.2.1.1];exact a.2.1,λl hl=>(h.2.1.2 l hl).1⟩
def QbH (h:qP p Y) (e:lN p):lsP (yL ⟨p,Y⟩):=by
 refine⟨by rw[sm h];exact e.2.1,λl hl=>?_⟩;obtain⟨⟨d,b,_⟩,_,a⟩:=Cc (y:=⟨p,Y⟩) h Y.h.length;obtain⟨k,hk,rfl⟩:=ZcL.1 hl;have hk:=List.mem_range.1 hk;have c:dxP ⟨p,(yh ⟨p,Y⟩ Y.h.length).2.getD k Bs,(yh ⟨p,Y⟩ Y.h.length).1,true⟩:=by
  refine⟨d,b,?_,?_⟩
  ·show((yh ⟨p,Y⟩ Y.h.length).2.getD k Bs).aB.length<=_
   rw[sk _ hk];exact(a _ (Zas hk)).1
  ·show ∀t∈((yh ⟨p,Y⟩ Y.h.length).2.getD k Bs).aB,_
   rw[sk _ hk];exact(a _ (Zas hk)).2
 have:=(ET c).2.1;show(fJ ⟨p,(yh ⟨p,Y⟩ Y.h.length).2.getD k Bs,(yh ⟨p,Y⟩ Y.h.length).1,true⟩).2.w.aB.length<=_
 rw[this];exact Zaj _
def Cd:Wf Wg:=⟨Zaj _,Zaj _,nofun⟩
def tZ (x:jB):Prop:=Wf x.aX/\Wf x.aZ/\lsP x.st.aQ
def Ce {r:lG} (b:lN r.q) (a:nN r->Ο r.q):Wf (iz r):=by
 unfold iz;split
 ·rename_i j
  exact AF (qR (a j)) b
 ·exact Cd
def QjL (h:iA Z x) (g:tZ x) (n:Int):tZ (Iu ⟨Z,x,n⟩):=by
 obtain⟨a,d,b,c,hO,f⟩:=h;have hk:=Ce d λj=>(c j).2.1
 unfold Iu;split
 ·rename_i e
  have o:x.st.ea:=by
   unfold x3 at e;simp only[ZaW] at e;exact e.1.1
  exact⟨AF (nG (hO o).2 10) a,hk,QbH (hO o).2 a⟩
 ·split
  ·exact⟨AF (nG b 10) a,hk,QbH b a⟩
  ·exact⟨Cd,hk,Zaj _,nofun⟩
def QjM (h:iA Z x) (g:tZ x) (c:Int):tZ (cM ⟨Z,x,c⟩):=by
 have d:=h;obtain⟨e,b,f,a,hO,i⟩:=h;have hk:=Ce b λj=>(a j).2.1
 obtain⟨g1,g2,g3⟩:=g;unfold cM;split
 ·refine⟨?_,?_,g3⟩
  ·show Wf (if x.st.ea=true then tl ⟨Z.p,x.aX,c⟩ else x.aX)
   split
   ·rename_i o;exact AF (nG (hO o).2 c) e
   ·exact g1
  ·show Wf (if nN Z=true then tl ⟨Z.q,x.aZ,c⟩ else x.aZ)
   split
   ·rename_i j;exact AF (nG (a j).2 c) b
   ·exact g2
 split
 ·exact QjL (x:=NS ⟨Z,x,c⟩) d ⟨g1,g2,g3⟩ _
 split
 ·exact⟨Cd,hk,Zaj _,nofun⟩
 split
 ·exact⟨g1,hk,g3⟩
 ·exact⟨g1,g2,g3⟩
def Ϟ (h:iA Z x) (g:tZ x):Ir x:=⟨g.2.2,g.1,AF h.2.2.1 h.1,g.2.1⟩
theorem Lg {r:lG}:∀(l:By) (x:jB),iA r x->tZ x->iA r (l.foldl (λx c=>cM ⟨r,x,(c.toNat:Int)⟩) x)/\tZ (l.foldl (λx c=>cM ⟨r,x,(c.toNat:Int)⟩) x)
 | [],_,h,g=>⟨h,g⟩
 | c::l,x,h,g=>Lg l _ (Qd4 h _) (QjM h g _)
def VP {y:Om} {k:Nat} (h:k<(Fa y).length):gK y (k+1)=cM ⟨K8 y,gK y k,(((Fa y)[k]).toNat:Int)⟩:=by
 unfold gK;rw[<-Zb4 h,Zcd];rfl
def VQ (h:Ck p):Ο p:=⟨h.2.2.2.2.1,h.cod,by have:=h.2.1;omega,λk hk=>⟨(h.2.2.2.2.2 k hk).1,(h.2.2.2.2.2 k hk).2.1⟩⟩
def QbI {y:Om} (h:xK y.s) (k:Nat):iA (K8 y) (gK y k)/\Ir (gK y k):=by
 obtain⟨b1,b,c⟩:=UK h;have e:=qR (VQ b1);have a:nN (K8 y)->Ck (nX y.s).q/\(nX y.s).q.aj.length=1:=c;have h1:iA (K8 y) (Ν (K8 y) 0):=by
  refine⟨b1.pg,b,e,λj=>⟨(a j).2,?_⟩,nofun,Zaj _⟩;show qP (nX y.s).q (if nN (K8 y)=true then qN (nX y.s).q else Wg)
  rw[Zac j];exact qR (VQ (a j).1)
 have d:tZ (Ν (K8 y) 0):=⟨Cd,Ce (r:=K8 y) b λj=>VQ (a j).1,Zaj _,nofun⟩;obtain⟨g1,g2⟩:=Lg (r:=K8 y) ((Fa y).take k) _ h1 d;exact⟨g1,Ϟ g1 g2⟩
def QjN (y:Om):(⟨⟨if 3<y.s.r.length then y.s.r.take 3 else y.s.r,y.s.c⟩,(nX y.s).p,(nX y.s).q,[]⟩:lG)=K8 y/\(⟨(b5 (iF y.s)).ab,(b5 (iF y.s)).st⟩:eu)=(nX y.s).p/\(⟨(b5 (iF y.s)).cc,(b5 (iF y.s)).cs⟩:eu)=(nX y.s).q/\(b5 (iF y.s)).st=(nX y.s).p.aj:=by
 unfold K8;rw[show nX y.s=_ from aI _];exact⟨rfl,rfl,rfl,rfl⟩
def QbJ {s:cG} (h:xK s) (e:Ir x):wsP ⟨nX s,x.st,x.aX,x.aG,x.aZ⟩:=by
 obtain⟨a,a2,a3,a4⟩:=e;obtain⟨b1,b,c⟩:=UK h;exact⟨⟨b1,a3.2.1,a3.2.2⟩,⟨b1,a2.2.1,a2.2.2⟩,b,λd=>⟨(c d).1,a4.2.1,a4.2.2⟩,a.1⟩
def QjO (r:lG) (x:jB):nF ⟨⟨r.s,r.p,r.q,[]⟩,x.st,x.aX,x.aG,x.aZ⟩=nF ⟨r,x.st,x.aX,x.aG,x.aZ⟩:=by
 rw[show nF ⟨⟨r.s,r.p,r.q,[]⟩,x.st,x.aX,x.aG,x.aZ⟩=_ from aI _,show nF ⟨r,x.st,x.aX,x.aG,x.aZ⟩=_ from aI _];rfl
def Qrv (hl:Ok xy) (v:Ok yG) (u:Ok dr) (hs:Ok QdE):Ok tuC:=okZ (V:=QjC) tuT Tryz.f3 tuO ⟨QiJ hl v,QiG,Qa3,hs,VN,QjK,Qjj u,Qjw sT⟩ λy w=>by
 obtain⟨c,d⟩:tuP y:=w;have e:Nl ⟨y.l,300⟩:=⟨by show(0:Int)<=300;omega,by show(300:Int)<=100000;omega,c,d⟩;have A:(Fa y).length<=300:=List.length_take_le ..;have r:Ux ⟨y.f,0,8⟩:=⟨ZaQ 0,by show(0:Int)<=8;omega,by show(8:Int)<=1000000000000;omega⟩;obtain⟨o,i,j,n⟩:=QjN y;have p:∀x:jB,nF ⟨K8 y,x.st,x.aX,x.aG,x.aZ⟩=nF ⟨nX y.s,x.st,x.aX,x.aG,x.aZ⟩:=λx=>QjO (nX y.s) x
 unfold QjC;simp only[bH,qg,o,i,j,p,NT,ZaX,reduceCtorEq,ZbV,Zai];simp only[n];refine⟨λk=>⟨k.symm,e,?_,⟨0,rfl,rfl,rfl,rfl,rfl,rfl,rfl,rfl,rfl,rfl,rfl,rfl,rfl,rfl,rfl,rfl,rfl,rfl,Zaj _,k⟩,λx ⟨B,k⟩=>⟨λq=>?_,λq=>⟨⟨r,?_⟩,λC ⟨h1,k1⟩=>?_⟩⟩⟩,λk=>⟨k.symm,e⟩⟩
 ·obtain⟨b1,h,z⟩:=UK k;exact⟨b1.pg,h⟩
 ·have g:x<(Fa y).length:=by have:=gk.1 q;rw[av] at this;omega
  have t:gt 0 (Fa y) (x:Int).toNat=(Fa y)[x]:=sk _ g;rw[t,<-VP g];exact⟨km.2 ω,q,(QbI k x).1,x+1,ba ω ω,rfl,rfl,rfl,rfl,rfl,rfl,rfl,rfl,rfl,rfl,rfl,rfl,rfl,rfl,rfl,rfl,⟨ω,k⟩,ω⟩
 ·have a:=(QbI k x).2;refine⟨λ_=>?_,λ_=>⟨λ_=>?_,λ_=>⟨λ_=>?_,λ_=>⟨λ_=>?_,λ_=>⟨λ_=>?_,λ_=>⟨λ_=>?_,λ_=>⟨λ_=>?_,λ_=>⟨λ_=>?_,λ_=>⟨λ_=>?_,λ_=>?_⟩⟩⟩⟩⟩⟩⟩⟩⟩
  ·exact⟨{ gK y x with st:={ (gK y x).st with pos:=aw .i64 (gK y x).st.pos y.b } },rfl,rfl,rfl,rfl,rfl,rfl,rfl,rfl,rfl,rfl,rfl,rfl,rfl,rfl,rfl,rfl,a,k⟩
  ·exact⟨{ gK y x with st:={ (gK y x).st with bu:=aw .i64 (gK y x).st.bu y.b } },rfl,rfl,rfl,rfl,rfl,rfl,rfl,rfl,rfl,rfl,rfl,rfl,rfl,rfl,rfl,rfl,a,k⟩
  ·exact⟨{ gK y x with st:={ (gK y x).st with bR:=!(gK y x).st.bR } },rfl,rfl,rfl,rfl,rfl,rfl,rfl,rfl,rfl,rfl,rfl,rfl,rfl,rfl,rfl,rfl,a,k⟩
  ·exact⟨{ gK y x with st:={ (gK y x).st with ea:=!(gK y x).st.ea } },rfl,rfl,rfl,rfl,rfl,rfl,rfl,rfl,rfl,rfl,rfl,rfl,rfl,rfl,rfl,rfl,a,k⟩
  ·exact⟨{ gK y x with st:={ (gK y x).st with aT:=aw .i64 (gK y x).st.aT y.b } },rfl,rfl,rfl,rfl,rfl,rfl,rfl,rfl,rfl,rfl,rfl,rfl,rfl,rfl,rfl,rfl,a,k⟩
  ·exact⟨{ gK y x with st:={ (gK y x).st with size:=aw .i64 (gK y x).st.size y.b } },rfl,rfl,rfl,rfl,rfl,rfl,rfl,rfl,rfl,rfl,rfl,rfl,rfl,rfl,rfl,rfl,a,k⟩
  ·exact⟨{ gK y x with aG:={ (gK y x).aG with m:=aw .i64 (gK y x).aG.m y.b } },rfl,rfl,rfl,rfl,rfl,rfl,rfl,rfl,rfl,rfl,rfl,rfl,rfl,rfl,rfl,rfl,a,k⟩
  ·exact⟨{ gK y x with aX:=(gK y x).aG },rfl,rfl,rfl,rfl,rfl,rfl,rfl,rfl,rfl,rfl,rfl,rfl,rfl,rfl,rfl,rfl,⟨a.1,a.2.2.1,a.2.2⟩,k⟩
  ·exact⟨{ gK y x with st:={ (gK y x).st with aQ:=[] } },rfl,rfl,rfl,rfl,rfl,rfl,rfl,rfl,rfl,rfl,rfl,rfl,rfl,rfl,rfl,rfl,⟨⟨Zaj _,nofun⟩,a.2⟩,k⟩
  ·exact⟨gK y x,rfl,rfl,rfl,rfl,rfl,rfl,rfl,rfl,rfl,rfl,rfl,rfl,rfl,rfl,rfl,rfl,a,k⟩
 ·exact⟨QbJ k1 h1,QbJ k1 h1,QdF k1⟩
end
end sx
namespace sx
open Go Go.RowKit
noncomputable section
abbrev Rn (E:Nat->Type):=St E->T (AV E)->C (Ex×St E×T (AV E))
section
variable (P:Program) (D:Data) (cd:TypeId->Option Nat) (ca:tr D.E) (mu:List Nat) (N un:Nat)
def nxt (b:Rn D.E) (r:Ex×St D.E×T (AV D.E)):C (Ex×St D.E×T (AV D.E)):=match r.1 with
 | .normal=>b r.2.1 r.2.2
 | _=>.ret r
def VS (body:Rn D.E) (n:Nat):Rn D.E:=Nat.rec (motive:=λ_=>Rn D.E) (λ_ _=>.fail) (λ_ a s φ=>az (body s φ) (nxt D a)) n
def Qd5 (id:Nat) (r:Ex×St D.E×T (AV D.E)):Ex×St D.E×T (AV D.E):=match r.1 with
 | .exit j=>bif Nat.beq j id then(.normal,r.2) else r
 | _=>r
def Cf (c:Code):Rn D.E:=
 Code.rec (motive:=λ_=>Rn D.E)
  (λs φ=>.ret (.normal,s,φ))
  (λid ops draw s φ=>az (bif draw then Cw P D cd (Cz mu id) ca ops.toList N s φ else qj P D cd (Cz mu id) ca ops.toList N ops.toList (nat_lit 0) s φ) λq=>.ret (.normal,q))
  (λ_ _ b a s φ=>az (b s φ) (nxt D a))
  (λc _ _ b a s φ=>az (az (ev P D φ c) λv=>vD D v) λt=>bif t then b s φ else a s φ)
  (λid _ a s φ=>az (a s φ) λr=>.ret (Qd5 D id r))
  (λ_ a=>VS D a un)
  (λ_ _ _ _ _ _ _ _=>.fail)
  (λid s φ=>.ret (.exit id,s,φ))
  (λ_ _ _ _=>.fail)
  (λ_ s φ=>.ret (.normal,s,φ))
  (λ_ _ _=>.fail)
  (λs φ=>.ret (.ret,s,φ))
  (λ_ _ _=>.fail) c
def QjP (a:List (AV D.E)):C (AV D.E):=match a with
 | [v]=>match v with
  | .tuple _=>.fail
  | v=>.ret v
 | a=>.ret (.tuple a)
def QjQ (e:Ex):Bool:=match e with
 | .exit _=>false
 | _=>true
def VT (f:FuncId) (args:List (AV D.E)) (s:St D.E):C (AV D.E×St D.E):=az (cN P.funcs[f]?) λfn=>az (cN fn.body) λc=>bB (Nat.ble (jM args) fn.ntmps) (az (sA D args (nat_lit 0) .nil) λφ=>
 az (Cf P D cd ca mu fn.ntmps un c s φ) λr=>bB (QjQ r.1) (az (OX P D r.2.1 r.2.2 fn.results.toList) λa=>az (QjP D a) λv=>.ret (v,r.2.1)))
def inl (tab:List (br D)) (a:List (Nat×List Nat)) (n:Nat):tr D.E:=Nat.rec (motive:=λ_=>tr D.E) (Wv D tab)
 (λ_ b f args s=>bE (AZ (Wv D tab f args s)) (VT P D cd b ((cq a f).getD []) un f args s) (Wv D tab f args s)) n
end
end
section
variable {P:Program} {D:Data} {cd:TypeId->Option Nat} {ca:tr D.E} {M M':Pm D} {w w':World} {s s':St D.E} {φ φ':T (AV D.E)} {a:Act} {mu:List Nat} {N un:Nat}
variable {Z:List (AV D.E)} {v:AV D.E}
def QjR (P:Program) (N:Nat) (c:Code) (r:Rn D.E):Prop:=∀(s:St D.E) (φ:T (AV D.E)) (e:Ex) (b:St D.E) (d:T (AV D.E)),(r s φ).H (e,b,d)->s.nx<=b.nx/\
 ∀(M:Pm D) (a:Act) (w:World),dQ M s.h.get w->FR M φ a N->bT M s.nx b.nx->∀R:Exit->Act->World->Prop,
  (∀f g i,cP s.h.get M w b.h.get f i s.nx b.nx->FR f d g N->R (Qcb e) g i)->c.wp P R a w
theorem Lh {b:Code} {r:Rn D.E} (y:QjR P N b r):∀(n:Nat) (s:St D.E) (φ:T (AV D.E)) (e:Ex) (f:St D.E) (d:T (AV D.E)),(VS D r n s φ).H (e,f,d)->s.nx<=f.nx/\
  ∀(M:Pm D) (a:Act) (w:World),dQ M s.h.get w->FR M φ a N->bT M s.nx f.nx->∀R:Exit->Act->World->Prop,
   (∀v x A,cP s.h.get M w f.h.get v A s.nx f.nx->FR v d x N->R (Qcb e) x A)->Code.rounds P b R n a w
 | 0,s,φ,e,f,d,h=>(sB h).elim
 | n+1,s,φ,e,f,d,h=>by
  obtain⟨⟨F,I,u⟩,h1,q⟩:=ai.1 (show(az (r s φ) (nxt D (VS D r n))).H _ from h);obtain⟨t,k1⟩:=y _ _ _ _ _ h1;cases F with
  | normal=>
   obtain⟨z,k2⟩:=Lh y n _ _ _ _ _ (show(VS D r n I u).H _ from q);refine⟨Zav t z,λM a w m o c R l=>?_⟩;rw[rounds_succ];refine k1 M a w m o (c.fst z) _ λi j p g k=>?_
   exact k2 i j p g.fq k (c.next g) R λB a2 K J G=>l B a2 K (g.trans J) G
  | exit id=>
   cases au.1 (show(C.ret _).H _ from q);refine⟨t,λM a w m o c R l=>?_⟩;rw[rounds_succ];exact k1 M a w m o c _ λi j p g k=>l i j p g k
  | ret=>
   cases au.1 (show(C.ret _).H _ from q);refine⟨t,λM a w m o c R l=>?_⟩;rw[rounds_succ];exact k1 M a w m o c _ λi j p g k=>l i j p g k
theorem ϟ (W:aY D) (O:P.follows .mixedOrders) (Q:sH P) (L:sG P D ca) (c:Code):QjR P N c (Cf P D cd ca mu N un c):=by
 induction c with
 | skip=>
  intro s φ e z i h;cases au.1 (show(C.ret _).H _ from h);exact⟨Zah _,λM a w n g _ R m=>wp_skip (m M a w (.refl n _) g)⟩
 | region id ops draw=>
  intro s φ e z i h;obtain⟨⟨K,p⟩,h1,o⟩:=ai.1 (show(az _ λq=>C.ret (Ex.normal,q)).H _ from h);cases au.1 o;cases draw with
  | true=>exact CS (id:=id) W O Q L (show(Cw P D cd (Cz mu id) ca ops.toList N s φ).H _ from h1)
  | false=>
   obtain⟨l,k⟩:=po W Q L _ _ _ _ _ _ (show(qj P D cd (Cz mu id) ca ops.toList N ops.toList 0 s φ).H _ from h1);exact⟨l,λM a w n g d R m=>wp_region_list (k M a w n g d R m)⟩
 | seq x y G I=>
  intro s φ e z i h;obtain⟨⟨S,K,p⟩,h1,o⟩:=ai.1 (show(az (Cf P D cd ca mu N un x s φ) (nxt D (Cf P D cd ca mu N un y))).H _ from h);obtain⟨J,k1⟩:=G _ _ _ _ _ h1;cases S with
  | normal=>
   obtain⟨X,k2⟩:=I _ _ _ _ _ (show(Cf P D cd ca mu N un y K p).H _ from o);refine⟨Zav J X,λM a w n g d R m=>wp_seq (k1 M a w n g (d.fst X) _ λE u B A F=>?_)⟩;exact k2 E u B A.fq F (d.next A) R λY a2 w2 t2 Z=>m Y a2 w2 (A.trans t2) Z
  | exit id=>
   cases au.1 (show(C.ret _).H _ from o);exact⟨J,λM a w n g d R m=>wp_seq (k1 M a w n g d _ λE u B A F=>m E u B A F)⟩
  | ret=>
   cases au.1 (show(C.ret _).H _ from o);exact⟨J,λM a w n g d R m=>wp_seq (k1 M a w n g d _ λE u B A F=>m E u B A F)⟩
 | cond c x y G I=>
  intro s φ e z i h;obtain⟨t,h1,o⟩:=ai.1 (show(az (az (ev P D φ c) λv=>vD D v) λt=>bif t then Cf P D cd ca mu N un x s φ else Cf P D cd ca mu N un y s φ).H _ from h);obtain⟨v,U,V⟩:=ai.1 h1;cases t with
  | true=>
   obtain⟨l,k⟩:=G _ _ _ _ _ o;exact⟨l,λM a w n g d R m=>wp_cond_true (uQ V (dx U g)) (k M a w n g d R m)⟩
  | false=>
   obtain⟨l,k⟩:=I _ _ _ _ _ o;exact⟨l,λM a w n g d R m=>wp_cond_false (uQ V (dx U g)) (k M a w n g d R m)⟩
 | block id b T=>
  intro s φ e z i h;obtain⟨⟨S,K,p⟩,h1,o⟩:=ai.1 (show(az (Cf P D cd ca mu N un b s φ) λr=>C.ret (Qd5 D id r)).H _ from h);obtain⟨J,k1⟩:=T _ _ _ _ _ h1;have o:Qd5 D id (S,K,p)=(e,z,i):=au.1 o;cases S with
  | normal=>
   cases o;exact⟨J,λM a w n g d R m=>wp_block (k1 M a w n g d _ λE u B A F=>m E u B A F)⟩
  | ret=>
   cases o;exact⟨J,λM a w n g d R m=>wp_block (k1 M a w n g d _ λE u B A F=>m E u B A F)⟩
  | exit j=>
   by_cases q:j=id
   ·have o:(cond (Nat.beq j id) (Ex.normal,K,p) (Ex.exit j,K,p))=(e,z,i):=o;rw[aM.2 q] at o;cases o;refine⟨J,λM a w n g d R m=>wp_block (k1 M a w n g d _ λE u B A F=>?_)⟩;show Exit.inBlock id R (.exit j) u B
    simp only[Exit.inBlock,Zac q];exact m E u B A F
   ·have o:(cond (Nat.beq j id) (Ex.normal,K,p) (Ex.exit j,K,p))=(e,z,i):=o;rw[qZ.2 q] at o;cases o;refine⟨J,λM a w n g d R m=>wp_block (k1 M a w n g d _ λE u B A F=>?_)⟩;show Exit.inBlock id R (.exit j) u B
    simp only[Exit.inBlock,Zaa q];exact m E u B A F
 | loop b T=>
  intro s φ e z i h;obtain⟨l,k⟩:=Lh T un _ _ _ _ _ (show(VS D (Cf P D cd ca mu N un b) un s φ).H _ from h);exact⟨l,λM a w n g d R m=>wp_loop_rounds un (k M a w n g d R m)⟩
 | rangeFunc f ps x y G I=>exact λs φ e z i h=>(sB h).elim
 | exit id=>
  intro s φ e z i h;cases au.1 (show(C.ret _).H _ from h);exact⟨Zah _,λM a w n g _ R m=>wp_exit (m M a w (.refl n _) g)⟩
 | scope b T=>exact λs φ e z i h=>(sB h).elim
 | label l=>
  intro s φ e z i h;cases au.1 (show(C.ret _).H _ from h);exact⟨Zah _,λM a w n g _ R m=>wp_label (m M a w (.refl n _) g)⟩
 | goto l=>exact λs φ e z i h=>(sB h).elim
 | ret=>
  intro s φ e z i h;cases au.1 (show(C.ret _).H _ from h);exact⟨Zah _,λM a w n g _ R m=>wp_ret (m M a w (.refl n _) g)⟩
 | refuse y=>exact λs φ e z i h=>(sB h).elim
theorem Ϡ (h:(QjP D Z).H v):CA D v/\vK D v=Z:=by
 match Z,h with
 | [],h=>cases au.1 (show(C.ret _).H v from h);exact⟨rfl,rfl⟩
 | [x],h=>cases x<;>first | exact(sB h).elim | (cases au.1 (show(C.ret _).H v from h);exact⟨rfl,rfl⟩)
 | x::y::l,h=>cases au.1 (show(C.ret _).H v from h);exact⟨by simp[CA,gL];rfl,rfl⟩
theorem VU (B:aY D) (b:P.follows .mixedOrders) (x:sH P) (q:sG P D ca) {f:FuncId} (h:(VT P D cd ca mu un f Z s).H (v,s')):FI P D f Z s v s':=by
 obtain⟨fn,h1,I⟩:=ai.1 h;obtain⟨c,J,K⟩:=ai.1 I;obtain⟨L,N⟩:=bw.1 K;obtain⟨φ,O,Q⟩:=ai.1 N;obtain⟨⟨e,s1,φ1⟩,S,g⟩:=ai.1 Q;obtain⟨i,j⟩:=bw.1 g;obtain⟨vs,m,n⟩:=ai.1 j;obtain⟨u,o,p⟩:=ai.1 n;cases au.1 p;have a:=bz.1 h1;have C:=bz.1 J;obtain⟨l,k⟩:=ϟ B b x q c _ _ _ _ _ S;refine⟨l,⟨fn,c,a,C⟩,λM A w T V r R U=>calls_of_wp a C ?_⟩;have hl:Z.length<=fn.ntmps:=by have:=cm.1 L;rwa [gL] at this
 refine k M _ w V (zk O T hl) r _ λG y d t z=>?_
 obtain⟨vs',g1,g2⟩:=wm B m z t.fq;obtain⟨Y,args⟩:=Ϡ o;obtain⟨F,W,X⟩:=tE (res:=v) g2 Y (by rw[args];exact g1);have fin:y.defers=[]/\∃v,(results fn y.tmps).run P d=.ok v d/\R (.returned v) d:=⟨z.defers,F,W,U G F d X t⟩;cases e with
 | normal=>exact fin
 | ret=>exact fin
 | exit id=>cases i
theorem VV (d:aY D) (b:P.follows .mixedOrders) (c:sH P) {tab:List (br D)} (ht:∀k∈tab,Jn P D k) (a:List (Nat×List Nat)):∀n,sG P D (inl P D cd un tab a n)
 | 0=>Bf d ht
 | n+1=>λf args s v e h=>by
  rcases gA.1 (show(bE (AZ (Wv D tab f args s)) (VT P D cd (inl P D cd un tab a n) ((cq a f).getD []) un f args s) (Wv D tab f args s)).H (v,e) from h) with⟨_,h⟩ | ⟨_,h⟩
  ·exact VU d b c (VV d b c ht a n) h
  ·exact Bf d ht f args s v e h
end
end sx
end Go.Proofs.YtklaonhcplaofaaGreat
namespace Go.Proofs
open Go.Proofs.YtklaonhcplaofaaGreat Go.Proofs.Tryz
open Go.Shelf
def Tryz.sortRg_ren:Go.Shelf.Ren:=⟨λ| 6=>207 | 15=>231 | 14=>230 | 28=>247 | 29=>248 | 20=>239 | 21=>240 | 22=>241 | 23=>242 | 24=>243 | 25=>244 | 26=>245 | 27=>246 | 46=>250 | 47=>251 | 48=>252 | 49=>253 | 50=>254 | 57=>255 | n=>n,λ| 22=>147 | 24=>242 | 25=>300 | 3=>3 | 39=>234 | 0=>0 | 53=>337 | 55=>339 | 4=>4 | 46=>331 | 45=>330 | 50=>202 | 5=>5 | 9=>9 | 66=>342 | 70=>346 | 76=>348 | 77=>232 | n=>n,λ| n=>n⟩
def Tryz.sortRg:Go.Proofs.SlLaysF0.n6 prog Tryz.sortRg_ren:={
 mixed:=by kernel_rfl
 f6:=⟨Tryz.f207.name,by decide,Tryz.func207.trans (ZaR some (by kernel_rfl))⟩
 f14:=⟨Tryz.f230.name,by decide,Tryz.func230.trans (ZaR some (by kernel_rfl))⟩
 f15:=Tryz.func231.trans (ZaR some (by kernel_rfl))
 f20:=⟨Tryz.f239.name,by decide,Tryz.func239.trans (ZaR some (by kernel_rfl))⟩
 f21:=⟨Tryz.f240.name,by decide,Tryz.func240.trans (ZaR some (by kernel_rfl))⟩
 f22:=⟨Tryz.f241.name,by decide,Tryz.func241.trans (ZaR some (by kernel_rfl))⟩
 f23:=⟨Tryz.f242.name,by decide,Tryz.func242.trans (ZaR some (by kernel_rfl))⟩
 f24:=⟨Tryz.f243.name,by decide,Tryz.func243.trans (ZaR some (by kernel_rfl))⟩
 f25:=⟨Tryz.f244.name,by decide,Tryz.func244.trans (ZaR some (by kernel_rfl))⟩
 f26:=⟨Tryz.f245.name,by decide,Tryz.func245.trans (ZaR some (by kernel_rfl))⟩
 f27:=⟨Tryz.f246.name,by decide,Tryz.func246.trans (ZaR some (by kernel_rfl))⟩
 f28:=Tryz.func247.trans (ZaR some (by kernel_rfl))
 f29:=Tryz.func248.trans (ZaR some (by kernel_rfl))
 f46:=⟨Tryz.f250.name,by decide,Tryz.func250.trans (ZaR some (by kernel_rfl))⟩
 f47:=Tryz.func251.trans (ZaR some (by kernel_rfl))
 f48:=Tryz.func252.trans (ZaR some (by kernel_rfl))
 f49:=⟨Tryz.f253.name,by decide,Tryz.func253.trans (ZaR some (by kernel_rfl))⟩
 f50:=⟨Tryz.f254.name,by decide,Tryz.func254.trans (ZaR some (by kernel_rfl))⟩
 f57:=⟨Tryz.f255.name,by decide,Tryz.func255.trans (ZaR some (by kernel_rfl))⟩
 t0:=Tryz.underlying0
 a0:=Tryz.isAgg0
 z0:=Tryz.sizeOf0
 v0:=Tryz.zeroValue0
 t3:=Tryz.underlying3
 a3:=Tryz.isAgg3
 z3:=Tryz.sizeOf3
 v3:=Tryz.zeroValue3
 t4:=Tryz.underlying4
 a4:=Tryz.isAgg4
 z4:=Tryz.sizeOf4
 v4:=Tryz.zeroValue4
 t5:=Tryz.underlying5
 a5:=Tryz.isAgg5
 z5:=Tryz.sizeOf5
 v5:=Tryz.zeroValue5
 t9:=Tryz.underlying9
 a9:=Tryz.isAgg9
 z9:=Tryz.sizeOf9
 v9:=Tryz.zeroValue9
 t22:=Tryz.underlying147
 a22:=Tryz.isAgg147
 z22:=Tryz.sizeOf147
 v22:=Tryz.zeroValue147
 t25:=Tryz.underlying300
 a25:=Tryz.isAgg300
 z25:=Tryz.sizeOf300
 v25:=Tryz.zeroValue300
 t39:=Tryz.underlying234
 a39:=Tryz.isAgg234
 z39:=Tryz.sizeOf234
 v39:=Tryz.zeroValue234
 t45:=Tryz.underlying330
 a45:=Tryz.isAgg330
 z45:=Tryz.sizeOf330
 v45:=Tryz.zeroValue330
 t46:=Tryz.underlying331
 a46:=Tryz.isAgg331
 z46:=Tryz.sizeOf331
 v46:=Tryz.zeroValue331
 t50:=Tryz.underlying202
 a50:=Tryz.isAgg202
 z50:=Tryz.sizeOf202
 v50:=Tryz.zeroValue202
 t53:=Tryz.underlying337
 a53:=Tryz.isAgg337
 z53:=Tryz.sizeOf337
 v53:=Tryz.zeroValue337
 t55:=Tryz.underlying339
 a55:=Tryz.isAgg339
 z55:=Tryz.sizeOf339
 v55:=Tryz.zeroValue339
 t66:=Tryz.underlying342
 a66:=Tryz.isAgg342
 z66:=Tryz.sizeOf342
 v66:=Tryz.zeroValue342
 t70:=Tryz.underlying346
 a70:=Tryz.isAgg346
 z70:=Tryz.sizeOf346
 v70:=Tryz.zeroValue346
 t76:=Tryz.underlying348
 a76:=Tryz.isAgg348
 z76:=Tryz.sizeOf348
 v76:=Tryz.zeroValue348
 t77:=Tryz.underlying232
 a77:=Tryz.isAgg232
 z77:=Tryz.sizeOf232
 v77:=Tryz.zeroValue232 }
end Go.Proofs
namespace Go.Proofs.YtklaonhcplaofaaGreat
open Go.Proofs.Tryz
namespace cls
open Go.RowKit sl Go.Shelf
def er (r:Rg):List Value:=[.int .i32 r.1,.int .i32 r.2]
def jC (r:Rg):(er r).length=2:=rfl
def Rd.pair {w:World} {a:Option Addr} {l:List Rg} {cap:Nat} (h:Rd er w a l cap) {i:Nat} {x:Rg} (e:l[i]?=some x):
  ∃b off,a=some ⟨b,off,none⟩/\b<w.heap.size/\w.cell? ⟨b,off+i*2,none⟩=some (.int .i32 x.1)/\w.cell? ⟨b,off+i*2+1,none⟩=some (.int .i32 x.2):=by
 obtain⟨b,off,h1,d,c⟩:=h.cells jC e;exact⟨b,off,h1,d,c 0 _ ω rfl,by have:=c 1 (.int .i32 x.2) ω rfl;rwa [<-Za4] at this⟩
def x7 (r:Rg):∀u∈er r,u.oneCell':=by
 intro u hu;simp[er] at hu;rcases hu with rfl | rfl<;>rfl
def vv:lI prog 147 242 2 8:=lI.mk' (z:=.agg #[.int .i32 0,.int .i32 0]) Tryz.underlying147 (by kernel_rfl) rfl (by decide)
abbrev yN (B:Nat) (w:World) (v:Value) (l:List Rg):Prop:=jK er 2 242 B w v l
set_option maxHeartbeats 2000000 in
theorem QjS (x y:Int) (w:World):
  Calls prog 206 #[.agg #[.int .i32 x,.int .i32 y]] w λe C=>∃v,e=.returned v/\yN w.heap.size C v (dS (x,y))/\Below w.heap.size w C:=by
 obtain⟨lo,m⟩:∃lo,lo=max x 0:=⟨_,rfl⟩
 obtain⟨hi,l⟩:∃hi,hi=min y 1114111:=⟨_,rfl⟩
 have h:=Lib.hid m
 have f:=Lib.hid l
 clear m l
 go_enter Tryz.func206,Tryz.ntmps206
 go_wp2_with fail
 rw[<-h.out,<-f.out]
 obtain⟨b,a⟩:∃b,b=(w.alloc (.cells #[.int .i32 lo,.int .i32 hi] 242)).alloc (.cells #[.int .i32 0,.int .i32 55295,.int .i32 57344,.int .i32 1114111] 242):=⟨_,rfl⟩
 have D:Rd er b (some ⟨w.heap.size+1,0,none⟩) parts 2:=by
  subst a
  have:=Rd.built (bd:=er) (w:=w.alloc (.cells #[.int .i32 lo,.int .i32 hi] 242)) (E:=242) (cs:=#[.int .i32 0,.int .i32 55295,.int .i32 57344,.int .i32 1114111]) parts 2 rfl rfl ω
  simp_all
 have c:Below w.heap.size w b:=by
  subst a
  exact((Below.refl _ _).alloc (Zah _) _).alloc (by simp) _
 have r:b.cell? ⟨w.heap.size,0,none⟩=some (.int .i32 lo):=by subst a;simp[go_sem]
 have s:b.cell? ⟨w.heap.size,1,none⟩=some (.int .i32 hi):=by subst a;simp[go_sem]
 have da:w.heap.size<b.heap.size:=by subst a;simp;omega
 rw[<-a]
 clear a
 go_loopg [3,19] 2 (λg v i wr=>∃k:Nat,k<=2/\g=2-k/\i=.int .i64 k/\yN b.heap.size wr v ((parts.take k).flatMap (clip (lo,hi)))/\Below w.heap.size w wr/\Below b.heap.size b wr)
 case atStart=>exact⟨0,ω,rfl,rfl,jK.nil _ _ _ _ _,c,Below.refl _ _⟩
 case round=>
  obtain⟨k,hk,rfl,rfl,q,o,kP⟩:=hrel
  have hs:=o.size
  by_cases t:k<2
  ·obtain⟨⟨p0,p1⟩,u⟩:∃x,parts[k]?=some x:=⟨_,Zaf t⟩
   obtain⟨I,L,e2,A,c0,c1⟩:=Rd.pair (D.kept kP) u
   cases e2
   simp only[Za6] at c0 c1
   have J:=(kP.cell (p:=⟨w.heap.size,0,none⟩) da).trans r
   have K:=(kP.cell (p:=⟨w.heap.size,1,none⟩) da).trans s
   have B:w.heap.size<wr.heap.size:=ZbB da kP.size
   have z:=Lib.hid u
   clear u
   have hlen:=fg (clip (lo,hi)) 1 (C7 _) (parts.take k)
   have F:(parts.take k).length<=2:=by simp[parts];omega
   by_cases G:max lo p0<=min hi p1
   ·go_wp2_with (at_builtin;go_must (refine o6 vv rfl rfl rfl rfl (by simp) ((q.alloc _).alloc _) (max lo p0,min hi p1) rfl jC x7 ω ω (by have:=kP.size;simp;omega) ?_);intro M N H g1)
    go_roundg (2-(k+1))
    case measure=>omega
    case rel=>
     have d:clip (lo,hi) (p0,p1)=[(max lo p0,min hi p1)]:=by unfold clip;rw[Zac G]
     have n:=(q.alloc (.cells #[.int .i32 p0,.int .i32 p1] 242)).alloc (.cells #[.int .i32 (max lo p0),.int .i32 (min hi p1)] 242)
     have j:=((Below.refl wr.heap.size wr).alloc (Zah _) (.cells #[.int .i32 p0,.int .i32 p1] 242)).alloc (by simp) (.cells #[.int .i32 (max lo p0),.int .i32 (min hi p1)] 242)
     refine⟨k+1,ω,rfl,by go_num,?_,?_,?_⟩
     ·rw[tk _ z.out,d]
      exact H
     ·exact nA (o.trans (j.mono hs)) n g1 c.size (by simp;omega)
     ·exact nA (kP.trans (j.mono kP.size)) n g1 (Zah _) (by have:=kP.size;simp;omega)
   ·go_wp2_with fail
    go_roundg (2-(k+1))
    case measure=>omega
    case rel=>
     have d:clip (lo,hi) (p0,p1)=[]:=by unfold clip;rw[Zaa (show ¬max lo p0<=min hi p1 by omega)]
     have j:=((Below.refl wr.heap.size wr).alloc (Zah _) (.cells #[.int .i32 p0,.int .i32 p1] 242)).alloc (by simp) (.cells #[.int .i32 (max lo p0),.int .i32 (min hi p1)] 242)
     refine⟨k+1,ω,rfl,by go_num,?_,o.trans (j.mono hs),kP.trans (j.mono kP.size)⟩
     rw[tk _ z.out,d,Zaw]
     exact(q.alloc _).alloc _
  ·obtain rfl:k=2:=ω
   go_wp2_with fail
   go_ret
   refine⟨_,rfl,?_,o⟩
   have e:dS (x,y)=(parts.take 2).flatMap (clip (lo,hi)):=by simp only[dS,h.out,f.out];rfl
   rw[e]
   exact q.mono c.size
set_option maxHeartbeats 2000000 in
theorem cmp (x y:Rg) (w:World) (h: -2147483648<=x.1-y.1/\x.1-y.1<=2147483647):Calls prog 208 #[.agg #[.int .i32 x.1,.int .i32 x.2],.agg #[.int .i32 y.1,.int .i32 y.2]] w λe a=>e=.returned (.int .i64 (x.1-y.1))/\a=(w.alloc (.cells #[.int .i32 x.1,.int .i32 x.2] 242)).alloc (.cells #[.int .i32 y.1,.int .i32 y.2] 242):=by
 obtain⟨h1,b⟩:=h
 go_enter Tryz.func208,Tryz.ntmps208
 go_wp2_with fail
 go_ret
 simp_all
def VW {B:Nat} {w:World} {g n cap:Nat} {l:List Rg} (h:yN B w (.slice (some ⟨g,0,none⟩) n cap) l) (a:n=l.length) {i:Nat} {x:Rg} (b:l[i]?=some x):
  w.cell? ⟨g,i*2,none⟩=some (.int .i32 x.1)/\w.cell? ⟨g,i*2+1,none⟩=some (.int .i32 x.2)/\w.frozen? ⟨g,i*2,none⟩=false/\w.frozen? ⟨g,i*2+1,none⟩=false:=
 ⟨(h.cellAt a jC b (t:=0) ω rfl).1,(h.cellAt a jC b (t:=1) ω rfl).1,(h.cellAt a jC b (t:=0) ω rfl).2,(h.cellAt a jC b (t:=1) ω rfl).2⟩
open Go.Sort (Holds HoldsK flatK get_flatK size_flatK putRow putRowK putCells SWO mapBlock onCells PermIn SortedIn alloc_eq_grow grow_grow grow)
structure Cn where
 r:Rg
 lo:0<=r.1/\r.1<=1114111
instance:Inhabited Cn:=⟨⟨(0,0),by decide⟩⟩
variable {w:World} {g:Nat} {Z:Array Obj}
def ev (r:Cn):List Value:=er r.r
def cf (x y:Cn):Int:=x.r.1-y.r.1
theorem Li:∀(l:List Rg),(∀r∈l,0<=r.1/\r.1<=1114111)->∃b:List Cn,b.map Cn.r=l
 | [],_=>⟨[],rfl⟩
 | r::t,h=>by
  obtain⟨c,ht⟩:=Li t (λx a=>h x (by simp[a]));exact⟨⟨r,h r (by simp)⟩::c,by simp[ht]⟩
def Lj (a:List Cn):flat er (a.map Cn.r)=flat ev a:=by
 rw[flat,flat,Zdz];rfl
theorem Cg (r:Cn):(ev r).length=2:=rfl
theorem x8 (d:Array Cn):(flatK ev 2 d).toList=flat ev d.toList:=by
 apply Zb6;intro t;by_cases ht:t<d.size*2
 ·have h1:(flatK ev 2 d)[t]! =(ev d[t / 2]!)[t % 2]!:=get_flatK ev 2 d t ht;have a:t<(flatK ev 2 d).size:=by simpa using ht
  have c:t / 2<d.size:=ω;have e:d.toList[t / 2]?=some d[t / 2]!:=by
   grind
  have b:=xL Cg d.toList (t / 2) (t % 2) _ e ω;grind [Cg]
 ·rw[Zbd (by simp;omega),Zbd (by rw[mD Cg];simp;omega)]
theorem vw (x y:Cn):ltOf cf x y=decide (x.r.1<y.r.1):=by
 unfold ltOf cf;grind
def swo:SWO (ltOf cf) where
 irrefl x:=by rw[vw];simp
 trans x y z h1 h2:=by rw[vw] at*;simp at*;omega
 ntrans x y z h1 h2:=by rw[vw] at*;simp at*;omega
def ϡ (bV off size:Nat) (w:World):CmpLays prog 208 #[] ev 2 cf bV off size w:=by
 intro m os a _ x y;have b:=x.lo;have c:=y.lo;refine(cmp x.r y.r _ ω).mono ?_;rintro e d ⟨rfl,rfl⟩;exact⟨rfl,0,_,by rw[Go.Sort.alloc_eq_grow,Go.Sort.alloc_eq_grow,Go.Sort.grow_grow];rfl⟩
theorem EX {n:Nat} {aX:Array Value} {e:TypeId} {fr:Nat×Nat} (d:Array Value) (a:w.heap[g]?=some (.cells aX e fr)):
  (Go.Sort.grow (Go.Sort.putRow id (Go.Sort.ahead w n) g 0 d) Z).heap[g]?=some (.cells (Go.Sort.putCells id 0 d aX) e fr):=by
 grind [Go.Sort.heap_grow_old,Go.Sort.putRow,Go.Sort.mapBlock,Go.Sort.ahead,Go.Sort.onCells]
theorem Ix {n:Nat} (d:Array Value) (k:Nat) (hk:k<w.heap.size) (a:k≠g):(Go.Sort.grow (Go.Sort.putRow id (Go.Sort.ahead w n) g 0 d) Z).heap[k]?=w.heap[k]?:=by
 grind [Go.Sort.heap_grow_old,Go.Sort.putRow,Go.Sort.mapBlock,Go.Sort.ahead]
theorem yO (aX:Array Value) (a:List Value) (h:a.length<=aX.size):(Go.Sort.putCells id 0 a.toArray aX).toList.take a.length=a:=by
 apply Zb6;grind [Go.Sort.putCells]
theorem Ϣ (w:World):(isAgg 242).run prog w=.ok true w:=by
 simp_all
theorem sort {v:Value} {l:List Rg} (h:yN g w v l) (M:∀r∈l,0<=r.1/\r.1<=1114111) (hl:l.length<=1000000000) (O:g<=w.heap.size):
  Calls prog 207 #[v,.func (.func 208) #[] #[]] w λe o=>e=.returned (.tuple #[])/\
   ∃C,C.Perm l/\C.Pairwise (λa b=>a.1<=b.1)/\yN g o v C/\Below g w o:=by
 rcases h.2 with⟨rfl,y⟩ | ⟨B,cap,aX,rfl,p,E,y,I,hs,ht⟩
 ·obtain rfl:l=[]:=Zap y;refine(AnyF.slices_SortFunc_none Tryz.sortRg none 0 _ w).mono ?_;rintro e o ⟨rfl,rfl⟩;exact⟨rfl,[],List.Perm.refl _,List.Pairwise.nil,h,Below.refl _ _⟩
 ·obtain⟨d,rfl⟩:=Li l M;have F:∀args w,(callFunc 208 args).run prog w=.ok (.enter 208 args) w:=enters_of Tryz.func208 (by kernel_rfl) rfl
  have hlen:(d.map Cn.r).length=d.toArray.size:=by simp
  have hH:HoldsK ev 2 w B 0 d.toArray:=by
   intro j t;have u:j<d.length*2:=by simpa using t
   rw[Lj] at ht;have e:(flat ev d)[j]?=some (flatK ev 2 d.toArray)[j]!:=by
    grind [x8]
   grind [World.frozen?,World.cell?]
  rw[hlen];refine(AnyQ.slices_SortFunc Tryz.sortRg 2 Ϣ Tryz.sizeOf242 ev Cg (λx=>x7 x.r) cf swo 208 #[] B 0 cap d.toArray w F (ϡ B 0 d.toArray.size w) hH (B6 E) (by simp at hl ⊢;omega)).mono ?_;rintro e o ⟨rfl,c,n,os,J,A,rfl⟩;obtain⟨z,K,L⟩:=J;simp only[Zb5] at*
  have D:c.toList.Perm d:=by
   have N:c.extract 0 d.length=c:=by rw[<-z];simp
   grind
  have m:(c.toList.map Cn.r).length=(d.map Cn.r).length:=by rw[Za2,Za2,D.length_eq]
  have q:(flatK ev 2 c).toList=flat er (c.toList.map Cn.r):=by rw[x8,Lj]
  have f:flatK ev 2 c=(flat er (c.toList.map Cn.r)).toArray:=by rw[<-q]
  refine⟨trivial,c.toList.map Cn.r,D.map _,?_,?_,?_⟩
  ·rw[List.pairwise_map,ZbD];intro i j hi t s;have G:i<c.size:=by simpa using hi
   have u:j<c.size:=by simpa using t
   have:=A i j (Zaj _) s ω;grind [vw]
  ·unfold yN jK;refine⟨by rw[mD jC],.inr ⟨B,cap,_,by rw[m];simp,p,EX _ E,by rw[m];exact y,I,by simp[putCells,hs],?_⟩⟩;rw[f];have H:(flat er (c.toList.map Cn.r)).length=(c.toList.map Cn.r).length*2:=mD jC _;grind [yO]
  ·refine⟨rfl,rfl,rfl,by simp[sortWorldK,putRowK],λk hk=>Ix _ k ω ω⟩
set_option maxHeartbeats 4000000 in
set_option maxRecDepth 100000 in
theorem VX (a:Option Addr) (l:List Rg) (cap:Nat) (w:World) (h:Rd er w a l l.length) (hl:l.length<=100000000):
  Calls prog 181 #[.slice a l.length cap] w λe w'=>∃v s,e=.returned v/\s.Perm (l.flatMap dS)/\s.Pairwise (λa b=>a.1<=b.1)/\yN w.heap.size w' v (ic s)/\Below w.heap.size w w':=by
 have hm:=h.max
 have hle:=h.le
 unfold maxLen at hm
 have H:=Lib.hid h
 clear h
 go_enter Tryz.func181,Tryz.ntmps181
 go_wp2_with fail
 go_loopg [3,12] l.length (λg v i wr=>∃k:Nat,k<=l.length/\g=l.length-k/\i=.int .i64 k/\yN w.heap.size wr v ((l.take k).flatMap dS)/\Below w.heap.size w wr)
 case atStart=>exact⟨0,ω,rfl,rfl,jK.nil _ _ _ _ _,Below.refl _ _⟩
 case round=>
  obtain⟨k,hk,rfl,rfl,d,m⟩:=hrel
  have hs:=m.size
  have hlen:=fg dS 2 sM (l.take k)
  have hlt2:(l.take k).length<=l.length:=by simp;omega
  by_cases C:k<l.length
  ·obtain⟨⟨c,f⟩,A⟩:∃x,l[k]?=some x:=⟨_,Zaf C⟩
   obtain⟨b,off,rfl,W,c0,c1⟩:=Rd.pair (H.out.kept m) A
   have HX:=Lib.hid A
   clear A
   go_wp2_with fail
   refine(QjS c f _).mono ?_
   rintro e E ⟨v1,rfl,O,b1⟩
   obtain⟨a1,G,rfl,j,B⟩:=O.rd
   have hr2:=sM (c,f)
   have J:yN w.heap.size E u3 ((l.take k).flatMap dS):=(d.alloc _).below b1 (Zah _)
   have kP:Below w.heap.size w E:=m.trans ((((Below.refl wr.heap.size wr).alloc (Zah _) _).mono hs).trans (b1.mono (by simp;omega)))
   have M:=kP.size
   have Y:((l.take k).flatMap dS).length+(dS (c,f)).length<=1000000000:=ω
   clear O b1 B
   go_wp2_with (at_builtin;go_must (refine xM vv rfl rfl rfl rfl J j rfl jC x7 Y ω M ?_);intro v2 w2 P g2)
   go_roundg (l.length-(k+1))
   case measure=>omega
   case rel=>exact⟨k+1,ω,rfl,by go_num,by rw[tk _ HX.out];exact P,Below.grow kP J g2 (Zah _) M⟩
  ·obtain rfl:k=l.length:=ω
   rw[ZaM] at d hlen
   have I:∀r∈l.flatMap dS,E4 r:=by
    grind [PF]
   have o:=Lib.hid I
   go_wp2_with fail
   refine(sort d (λr S=>⟨(o.out r S).1,by have:=o.out r S;unfold E4 at this;omega⟩) ω hs).mono ?_
   rintro e E ⟨rfl,s,F,K,O,b1⟩
   have qo:s.length=(l.flatMap dS).length:=F.length_eq
   have hsl2:s.length<=200000000:=ω
   have kP:Below w.heap.size w E:=m.trans b1
   have HI:Hid (∀r∈s,E4 r):=Lib.hid λr S=>o.out r (F.mem_iff.1 S)
   have HP:=Lib.hid F
   have U:=Lib.hid K
   clear F K qo o I d m b1
   obtain⟨a1,G,rfl,j,B⟩:=O.rd
   have X:=j.max
   have hle1:=j.le
   unfold maxLen at X
   have RD:=Lib.hid j
   clear j B O
   go_wp2_with fail
   go_loopg [4,25] s.length (λg v i wr=>∃k:Nat,k<=s.length/\g=s.length-k/\i=.int .i64 k/\yN E.heap.size wr v (ic (s.take k))/\Below E.heap.size E wr)
   case atStart=>exact⟨0,ω,rfl,rfl,jK.nil _ _ _ _ _,Below.refl _ _⟩
   case round=>
    obtain⟨k,hk,rfl,rfl,d,m⟩:=hrel
    have D:=m.size
    have hlen:=wo (s.take k)
    have htl:(s.take k).length<=s.length:=by simp;omega
    have z:∀p∈ic (s.take k),E4 p:=LN λp F=>HI.out p (Zcg F)
    by_cases C:k<s.length
    ·obtain⟨⟨c,f⟩,A⟩:∃x,s[k]?=some x:=⟨_,Zaf C⟩
     have hxi:E4 (c,f):=HI.out _ (ZaJ A)
     obtain⟨Z,hx1,hx2⟩:=hxi
     simp only at Z hx1 hx2
     obtain⟨b,off,rfl,W,c0,c1⟩:=Rd.pair (RD.out.kept m) A
     have he:=C8 A
     have Q:=Lib.hid he
     clear A he
     generalize ic (s.take k)=out at d hlen z Q
     rcases Zcu out with rfl | ⟨N,p,rfl⟩
     ·obtain⟨ao,co,rfl,rdo,_⟩:=d.rd
      clear rdo
      have n:b7 [] (c,f)=[]++[(c,f)]:=rfl
      have q:=Lib.hid n
      clear n z
      simp only[Zak] at*
      go_wp2_with fail
      go_quiet (fail)
      go_wp2_with (at_builtin;go_must (refine o6 vv rfl rfl rfl rfl (by simp) ((d.alloc _).drewN _) (c,f) rfl jC x7 (by simp) ω (by simp;omega) ?_);intro v2 w2 P g2)
      go_roundg (s.length-(k+1))
      case measure=>omega
      case rel=>
       refine⟨k+1,ω,rfl,by go_num,?_,?_⟩
       ·rw[Q.out,q.out];exact P
       ·exact nA (o7 (m.alloc D _) _) ((d.alloc _).drewN _) g2 (Zah _) (by simp;omega)
     ·rw[Zcv] at*
      have n:b7 (N++[p]) (c,f)=if c<=p.2+1 then N++[(p.1,max p.2 f)] else N++[p]++[(c,f)]:=by simp[b7]
      have q:=Lib.hid n
      obtain⟨hp0,hp1,hp2⟩:=z p (by simp)
      obtain⟨g,co,rfl,V,hg,hlc,hcm⟩:=d.form (by simp)
      obtain⟨d0,d1,f0,f1⟩:=VW d rfl (i:=N.length) (x:=p) (by simp)
      have T:=Lib.hid d
      clear n z d
      simp only[Zab,Zae,Zak] at*
      cases R:decide (c<=p.2+1)
      ·have L:p.2+1<c:=by simpa using R
       clear R
       go_wp2_with fail
       go_quiet (fail)
       go_wp2_with (at_builtin;go_must (refine o6 vv rfl rfl rfl rfl (by simp) ((T.out.alloc _).drewN _) (c,f) rfl jC x7 (by simp;omega) ω (by simp;omega) ?_);intro v2 w2 P g2)
       go_roundg (s.length-(k+1))
       case measure=>omega
       case rel=>
        refine⟨k+1,ω,rfl,by go_num,?_,?_⟩
        ·rw[Q.out,q.out,Zaa ω];exact P
        ·exact nA (o7 (m.alloc D _) _) ((T.out.alloc _).drewN _) g2 (Zah _) (by simp;omega)
      ·have L:c<=p.2+1:=by simpa using R
       clear R
       go_wp2_with fail
       go_quiet (fail)
       go_wp2_with fail
       go_region
       all_goals go_wp2_with fail
       go_roundg (s.length-(k+1))
       case measure=>omega
       case rel=>
        refine⟨k+1,ω,rfl,by go_num,?_,?_⟩
        ·rw[Q.out,q.out,Zac L]
         have:=jK.store (t:=1) (y:=(p.1,max p.2 f)) (u:=.int .i32 (max p.2 f)) ((T.out.alloc (.cells #[.int .i32 c,.int .i32 f] 242)).drewN (nq+1)) (by simp) jC (i:=N.length) (x:=p) (by simp) ω rfl
         simpa using this
        ·exact(o7 (m.alloc D _) _).setCell V _
    ·obtain rfl:k=s.length:=ω
     go_wp2_with fail
     go_ret
     refine⟨_,s,rfl,HP.out,U.out,?_,?_⟩
     ·rw[ZaM] at d
      exact d.mono kP.size
     ·exact kP.trans (m.mono kP.size)
end cls
set_option maxRecDepth 100000
set_option maxHeartbeats 4000000
namespace sx
noncomputable section
open Go Go.RowKit cls syn
def QjT {M:Pm D} {x:Rg} (h:tF x):LR M (D.bd 6 x) (er x):=by
 obtain⟨h1,a,b,_⟩:=h;exact .cons (.int (cE.2 ⟨by show(-2147483648:Int)<=x.1;omega,by show x.1<=(2147483647:Int);omega⟩)) (.cons (.int (cE.2 ⟨by show(-2147483648:Int)<=x.2;omega,by show x.2<=(2147483647:Int);omega⟩)) .nil)
def avV (v:AV D.E):Value:=match v with
 | .int k n=>.int k n
 | _=>.nilIface
theorem Lk:∀y:List Rg,sl.flat er y=(aW (D:=D) 6 y).map avV
 | []=>rfl
 | x::t=>by
  show er x++sl.flat er t=([AV.int .i32 x.1,AV.int .i32 x.2]++aW (D:=D) 6 t).map avV
  rw[Lk t,ZcG];rfl
theorem QjU {M:Pm D} {H:Hp D} {w:World} {y:List Rg} {v:Value} (h:VR M (.list 6 y) v) (f:dQ M H w) (hl:y.length<=100000000):∃a cap,v=.slice a y.length cap/\sl.Rd er w a y y.length:=by
 have k:y.length<=maxLen:=by grind [maxLen]
 cases h with
 | list hs l n=>
  rename_i b o cap
  refine⟨_,_,rfl,⟨λh=>(nomatch h),Zah _,k,λg e m=>?_⟩⟩;cases e;refine⟨rfl,f.slt (hs 0 m 0 _ rfl),λj u hu=>?_⟩;rw[Lk,Zbk,ZdM] at hu;obtain⟨v,d,rfl⟩:=hu;obtain⟨p,h1,i⟩:=ph gE f hs j v d;obtain⟨x,_,c⟩:=ZbG.1 (ZaJ d);have c:v=AV.int .i32 x.1\/v=AV.int .i32 x.2:=by simpa using(show v∈[AV.int .i32 x.1,AV.int .i32 x.2] from c)
  rcases c with rfl | rfl<;>(cases i;exact h1)
 | eD=>exact⟨_,_,rfl,⟨λ_=>⟨rfl,rfl⟩,Zah _,Zaj _,λg _ h=>absurd h (Nat.lt_irrefl 0)⟩⟩
theorem Ll:Ok dr:=by
 refine⟨⟨f181,_,by kernel_rfl,cH (by kernel_rfl)⟩,λy u M A w B k _ R q=>?_⟩;obtain⟨v,rfl,I⟩:=wX B;obtain⟨a,cap,rfl,m⟩:=QjU I k u;refine(VX a y cap w m u).mono λe p ⟨v,s,E,H,l,t,r⟩=>?_
 subst E;have j:=C_ H l;rw[PJ j] at t j;rcases t.2 with⟨rfl,h⟩ | ⟨g,cap,aX,rfl,C,L,h,F,hs,ht⟩
 ·have z:aV y=[]:=Zap h;exact q M _ p (by show VR M (.list 6 (aV y)) _;rw[z];exact .eD) (iS k r 0)
 ·have D:LR M (aW 6 (aV y)) (sl.flat er (aV y)):=by
   have:=JK (M:=M) (c:=6) (f:=λx=>x) (bd:=er) (xs:=aV y) λx J=>QjT (j.1.1 x J)
   change LR M _ (((aV y).map λx:Rg=>x).flatMap er) at this;rw[List.map_id'] at this;exact this
  have d:∀i v,(aW 6 (aV y))[i]?=some v->∃n,p.cell? ⟨g,0+i,none⟩=some n/\VR M v n:=λi v e=>by
   obtain⟨n,h1,K⟩:=D.get e;grind [World.cell?]
  refine q _ _ p (VR.list (b:=g) (o:=0) (ct.add gE) (by have G:(aV y).length<=cap:=h;unfold maxLen at F;show(aV y).length<=_;omega) h) (Xx k r (g:=g) (o:=0) C d 0)
end
end sx
namespace ins
open Go Go.RowKit Go.Lib
abbrev R:TypeId:=205
abbrev S:TypeId:=199
section
variable {P:Program}
theorem nH (w:World) (l p ty elem:TypeId) (k b o c e:Nat) (a:Addr) (d g:Nat) (cs:List Value)
  (hu:P.underlying l=some (.slice elem)) (hs:(P.info? elem).map (·.size)=some k) (n:cs.length=Nat.min d c*k)
  (f:∀j v,cs[j]?=some v->w.cell? (a.add j)=some v) (q:∀j,j<cs.length->(w.cell? ⟨b,o+j,none⟩).isSome) (r:∀j,j<cs.length->w.frozen? ⟨b,o+j,none⟩=false) (h1:∀v∈cs,v.oneCell'):
  (Builtin.copy_ #[l,p] ty #[.slice (some ⟨b,o,none⟩) c e,.slice (some a) d g]).run P w=.ok (goInt (Nat.min d c)) (w.setCells b o cs):=by
 have hl:=run_loadCells_list (P:=P) w a cs f;have h:=run_storeCells_cells (P:=P) b o cs 0 w (by assumption) (by assumption) h1;cases m:P.info? elem with
 | none=>simp[m] at hs
 | some i=>
  have hi:i.size=k:=by grind
  simp[Builtin.copy_,Zza hu,Builtin.lenOf,Builtin.firstCells,sizeOf,typeInfo,m,hi,<-n,hl,h]
end
def Lm:(Tryz.prog.info? R).map (·.size)=some 2:=by kernel_rfl
set_option maxHeartbeats 4000000 in
set_option maxRecDepth 100000 in
theorem shift (b off n c i d a vc:Nat) (cs p:List Value) (w:World) (hi:i<n) (J:n+1<=c) (U:n<=1000000) (z:d≠b)
  (hcl:cs.length=n*2) (hvl:p.length=2)
  (E:∀j v,cs[j]?=some v->w.cell? ⟨b,off+j,none⟩=some v) (m:∀j,j<(n+1)*2->(w.cell? ⟨b,off+j,none⟩).isSome=true) (u:∀j,j<(n+1)*2->w.frozen? ⟨b,off+j,none⟩=false)
  (M:∀j v,p[j]?=some v->w.cell? ⟨d,a+j,none⟩=some v) (B:∀v∈cs,v.oneCell'=true) (C:∀v∈p,v.oneCell'=true)
  (V X:TypeId) (N O:Nat) (K:w.shape? d=some (V,N)) (L:w.shape? b=some (X,O)) (H:O≠0) (F:w.frozen? ⟨d,a,none⟩=false) (G:w.frozen? ⟨d,N,none⟩=false):
  Calls prog 98 #[.slice (some ⟨b,off,none⟩) n c,.int .i64 i,.slice (some ⟨d,a,none⟩) 1 vc] w λe w'=>
   e=.returned (.slice (some ⟨b,off,none⟩) (n+1) c)/\w'=(w.drew.setCells b (off+(i+1)*2) (cs.drop (i*2))).setCells b (off+i*2) p:=by
 have I:∀o Q A,(callFunc 137 #[.slice (some ⟨d,a,none⟩) 1 vc,.slice (some ⟨b,o,none⟩) Q A]).run prog w=.ok (.value (.bool false)) w:=λo Q A=>by
  rw[run_callFunc_extern Tryz.func137 (by kernel_rfl) (by kernel_rfl) (by kernel_rfl) (e:=Extern.SlicesOverlaps.overlaps #[S,S] #[4]) (by kernel_rfl),
   Lib.run_overlaps_apart w S 4 R Tryz.underlying199 2 Tryz.sizeOf205 ⟨d,a,none⟩ ⟨b,o,none⟩ 1 vc Q A z V X N O K L H F G]
  rfl
 have hdl:(cs.drop (i*2)).length=(n-i)*2:=by grind
 have mixed:Tryz.prog.follows .mixedOrders=true:=by kernel_rfl
 have hw1:IntKind.i64.wrap ((i:Int)+1)=(i:Int)+1:=by rw[IntKind.wrap_i64];omega
 have kP:(0:Int)<=(i:Int)+1:=ω
 have hin:i<=n:=ω
 have Y:¬(c=i+1):=ω
 have Z:(i:Int)<=(n:Int)+1:=ω
 have hb4:¬(c=i):=ω
 have s:∀ty f T,(Builtin.copy_ #[S,S] ty #[.slice (some ⟨b,off+(i+1)*2,none⟩) (n-i) f,.slice (some ⟨b,off+i*2,none⟩) (n+1-i) T]).run prog w.drew=.ok (goInt ((n-i:Nat):Int)) (w.drew.setCells b (off+(i+1)*2) (cs.drop (i*2))):=λty f T=>by
  have hm:Nat.min (n+1-i) (n-i)=n-i:=by grind
  have:=nH (P:=prog) w.drew S S ty R 2 b (off+(i+1)*2) (n-i) f ⟨b,off+i*2,none⟩ (n+1-i) T (cs.drop (i*2)) Tryz.underlying199 Lm ω
   (λj v l=>by rw[Addr.add_lit,Za4];exact E (i*2+j) v (by grind))
   (λj l=>by rw[Za4];exact m _ ω) (λj l=>by rw[Za4];exact u _ ω) (λv hv=>B v (Zc5 hv))
  grind
 obtain⟨q,g⟩:∃q,q=w.drew.setCells b (off+(i+1)*2) (cs.drop (i*2)):=⟨_,rfl⟩
 have y:∀k,k<(n+1)*2->(q.cell? ⟨b,off+k,none⟩).isSome=true:=λk hk=>by
  rw[g]
  exact isSome_setCells b _ _ _ (λj l=>by rw[Za4];exact m _ ω) _ (m k hk)
 have t:∀(W:World),(∀x,W.cell? x=q.cell? x)->(∀x,W.frozen? x=q.frozen? x)->∀ty f,(Builtin.copy_ #[S,S] ty #[.slice (some ⟨b,off+i*2,none⟩) (n+1-i) f,.slice (some ⟨d,a,none⟩) 1 vc]).run prog W=.ok (goInt 1) (W.setCells b (off+i*2) p):=λW r D ty f=>by
  have hm:Nat.min 1 (n+1-i)=1:=by grind
  have:=nH (P:=prog) W S S ty R 2 b (off+i*2) (n+1-i) f ⟨d,a,none⟩ 1 vc p Tryz.underlying199 Lm ω
   (λj v l=>by
    rw[Addr.add_lit,r,g,World.cell?_setCells_out b _ _ _ _ (λh _=>absurd h z)]
    exact M j v l)
   (λj l=>by rw[r,Za4];exact y _ ω) (λj l=>by rw[D,g,World.frozen?_setCells,Za4];exact u _ ω) C
  grind
 go_enter Tryz.func98,Tryz.ntmps98
 go_wp2_with (simp only[I])
 go_region_law_o (refine step_copy_runI rfl _ _ S S rfl _ _ (by simp[Act.eval,Act.put]) (by simp[Act.eval,Act.put]) (s _ _ _) ?_)
 go_wp2_with (at_builtin;refine wpList_copy_runI _ rfl _ _ S S rfl _ _ rfl rfl (t _ (λ_=>rfl) (λ_=>rfl) _ _) ?_)
 go_ret
 simp_all
abbrev zR:Value:=.agg #[.string ⟨#[]⟩,.int .i64 0]
def QjV:(Tryz.prog.info? R).map (λi=>(i.zero,i.size,i.bytes))=some (some zR,2,24):=by kernel_rfl
abbrev NU (w:World) (n c i:Nat) (cs:List Value):Array Value:=(cs.take (i*2)).toArray++Builtin.zeroCells zR.cells (n+1-i)++Builtin.zeroCells zR.cells (grownCap w (n+1) c R-(n+1))
theorem NV (n:Nat):(Builtin.zeroCells zR.cells n).size=n*2:=by
 simp[Builtin.zeroCells,Value.cells]
theorem AG {w:World} {n c i:Nat} {cs:List Value} (hi:i<=n) (a:cs.length=n*2):(NU w n c i cs).size=grownCap w (n+1) c R*2:=by
 grind [grownCap_ge,NV]
set_option maxHeartbeats 4000000 in
set_option maxRecDepth 100000 in
theorem grow (b off n c i p d vc:Nat) (cs f:List Value) (w:World) (hi:i<n) (hnc:n<=c) (s:c<n+1) (hbig:n<=1000000)
  (hcl:cs.length=n*2) (hvl:f.length=2)
  (r:∀j v,cs[j]?=some v->w.cell? ⟨b,off+j,none⟩=some v)
  (Q:∀j v,f[j]?=some v->w.cell? ⟨p,d+j,none⟩=some v) (A:∀v∈cs,v.oneCell'=true) (B:∀v∈f,v.oneCell'=true):
  Calls prog 98 #[.slice (some ⟨b,off,none⟩) n c,.int .i64 i,.slice (some ⟨p,d,none⟩) 1 vc] w λe w'=>
   e=.returned (.slice (some ⟨w.heap.size,0,none⟩) (n+1) (grownCap w (n+1) c R))/\
   w'=(((w.alloc (.cells (NU w n c i cs) R)).drew.setCells w.heap.size (i*2) f).drew).setCells w.heap.size ((i+1)*2) (cs.drop (i*2)):=by
 have mixed:Tryz.prog.follows .mixedOrders=true:=by kernel_rfl
 have⟨i0,N,U,X,V⟩:=info_parts QjV
 have M:b<w.heap.size:=block_lt_of_cell (r 0 _ (Zaf ω))
 have T:p<w.heap.size:=block_lt_of_cell (Q 0 _ (Zaf ω))
 have O:(n:Int)+1-(i:Int)=((n+1-i:Nat):Int):=ω
 have z:i+(n+1-i)=n+1:=ω
 have hold:(Builtin.firstCells i0.size i (.slice (some ⟨b,off,none⟩) i c)).run prog w.drew=.ok (cs.take (i*2)).toArray w.drew:=by
  rw[X]
  exact run_firstCells_some w.drew 2 i ⟨b,off,none⟩ i c (cs.take (i*2)) (by grind) (λj v g=>by
   rw[Addr.add_lit]
   rw[Za7] at g
   split at g
   ·exact r j v g
   ·cases g)
 have t:∀ty,(Builtin.append_ #[S,3] ty #[.slice (some ⟨b,off,none⟩) i c,.int .i64 ((n:Int)+1-(i:Int))]).run prog w=
   .ok (.slice (some ⟨w.heap.size,0,none⟩) (n+1) (grownCap w (n+1) c R)) (w.drew.alloc (.cells (NU w n c i cs) R)):=λty=>by
  have h:=Lib.run_append_grow_zeros w S 3 ty R i0 _ .i64 .i64 Tryz.underlying199 Tryz.underlying3 N U (some ⟨b,off,none⟩) i c (cs.take (i*2)) hold (n+1-i) ω ω ω ω (by grind) (by rw[V,z];exact growslice_fits s ω)
  grind
 obtain⟨G,Z⟩:∃G,G=grownCap w (n+1) c R:=⟨_,rfl⟩
 obtain⟨a,m⟩:∃a:Array Value,a=NU w n c i cs:=⟨_,rfl⟩
 have hGn:n+1<=G:=by grind [grownCap_ge]
 have J:a.size=G*2:=by grind [AG]
 have I:(n+1)*2<=a.size:=ω
 rw[<-Z] at t ⊢
 rw[<-m] at t ⊢
 obtain⟨k,l⟩:∃k,k=w.drew.alloc (.cells a R):=⟨_,rfl⟩
 have hN:∀j,j<(n+1)*2->(k.cell? ⟨w.heap.size,j,none⟩).isSome=true:=λj g=>by
  rw[l,World.cell?_alloc_at (w:=w.drew) a _ w.heap.size j rfl,Za5 ω];rfl
 have hNf:∀j,k.frozen? ⟨w.heap.size,j,none⟩=false:=λj=>by rw[l];exact World.frozen?_alloc_at (w:=w.drew) a _ w.heap.size j rfl
 have H:∀j v,w.cell? ⟨b,j,none⟩=some v->k.cell? ⟨b,j,none⟩=some v:=λj v h=>by rw[l,World.cell?_alloc_past (w:=w.drew) _ b j M];exact h
 have hOv:∀j v,w.cell? ⟨p,j,none⟩=some v->k.cell? ⟨p,j,none⟩=some v:=λj v h=>by rw[l,World.cell?_alloc_past (w:=w.drew) _ p j T];exact h
 have y:∀(W:World),(∀x,W.cell? x=k.cell? x)->(∀x,W.frozen? x=k.frozen? x)->∀ty q,(Builtin.copy_ #[S,S] ty #[.slice (some ⟨w.heap.size,i*2,none⟩) (n+1-i) q,.slice (some ⟨p,d,none⟩) 1 vc]).run prog W=.ok (goInt 1) (W.setCells w.heap.size (i*2) f):=λW u K ty q=>by
  have hm:Nat.min 1 (n+1-i)=1:=by grind
  have:=nH (P:=prog) W S S ty R 2 w.heap.size (i*2) (n+1-i) q ⟨p,d,none⟩ 1 vc f Tryz.underlying199 Lm ω
   (λj v g=>by grind [Addr.add_lit])
   (λj g=>by grind) (λj g=>by grind) B
  grind
 have hGim:¬(G=i+1):=ω
 have hci:¬(c=i):=ω
 have L:b≠w.heap.size:=ω
 have hdl:(cs.drop (i*2)).length=(n-i)*2:=by grind
 have o:∀(W:World),(∀x,W.cell? x=(k.setCells w.heap.size (i*2) f).cell? x)->(∀x,W.frozen? x=(k.setCells w.heap.size (i*2) f).frozen? x)->∀ty q Y,(Builtin.copy_ #[S,S] ty #[.slice (some ⟨w.heap.size,(i+1)*2,none⟩) (n-i) q,.slice (some ⟨b,off+i*2,none⟩) (n-i) Y]).run prog W=.ok (goInt ((n-i:Nat):Int)) (W.setCells w.heap.size ((i+1)*2) (cs.drop (i*2))):=λW u K ty q Y=>by
  have hm:Nat.min (n-i) (n-i)=n-i:=by grind
  have:=nH (P:=prog) W S S ty R 2 w.heap.size ((i+1)*2) (n-i) q ⟨b,off+i*2,none⟩ (n-i) Y (cs.drop (i*2)) Tryz.underlying199 Lm ω
   (λj v g=>by
    rw[Addr.add_lit,u,World.cell?_setCells_out _ _ _ _ _ (λh _=>absurd h L),Za4]
    exact H _ v (r (i*2+j) v (by grind)))
   (λj g=>by grind [isSome_setCells])
   (λj g=>by grind [World.frozen?_setCells]) (λv hv=>A v (Zc5 hv))
  grind
 have C:∀x,((w.alloc (.cells a R)).drew).cell? x=(w.drew.alloc (.cells a R)).cell? x:=λx=>rfl
 have D:∀x,((w.alloc (.cells a R)).drew).frozen? x=(w.drew.alloc (.cells a R)).frozen? x:=λx=>rfl
 have E:∀x,(((w.alloc (.cells a R)).drew.setCells w.heap.size (i*2) f).drew).cell? x=((w.drew.alloc (.cells a R)).setCells w.heap.size (i*2) f).cell? x:=λx=>rfl
 have F:∀x,(((w.alloc (.cells a R)).drew.setCells w.heap.size (i*2) f).drew).frozen? x=((w.drew.alloc (.cells a R)).setCells w.heap.size (i*2) f).frozen? x:=λx=>rfl
 have hw1:IntKind.i64.wrap ((i:Int)+1)=(i:Int)+1:=by rw[IntKind.wrap_i64];omega
 have kP:(0:Int)<=(i:Int)+1:=ω
 have hin:i<=n:=ω
 clear O z hold m Z I J
 go_enter Tryz.func98,Tryz.ntmps98
 go_wp2_with (first
  | (at_builtin;refine Lib.wpList_append_run _ rfl _ _ _ _ rfl _ _ rfl rfl _ _ (t _) ?_)
  | (at_builtin;refine wpList_copy_runI _ rfl _ _ S S rfl _ _ rfl rfl (y _ C D _ _) ?_)
  | (at_builtin;refine wpList_copy_runI _ rfl _ _ S S rfl _ _ rfl rfl (o _ (λ_=>rfl) (λ_=>rfl) _ _ _) ?_))
 go_region_law_o (refine step_copy_runI rfl _ _ S S rfl (.slice (some ⟨w.heap.size,(i+1)*2,none⟩) (n-i) (G-(i+1))) (.slice (some ⟨b,off+i*2,none⟩) (n-i) (c-i)) (by simp[Act.eval,Act.put]) (by simp[Act.eval,Act.put]) (o _ E F 3 (G-(i+1)) (c-i)) ?_)
 go_wp2
 go_ret
 simp_all
end ins
set_option maxRecDepth 100000
set_option maxHeartbeats 4000000
namespace sx
noncomputable section
open Go Go.RowKit cls syn
abbrev Qd6:=List Row×Nat×Row
variable {M:Pm D} {l:List Row} {i:Nat} {Z b:List Value}
def rwO (n:Nat) (l:List Row):Nat×AO D.E:=(n,.arr 16 l 205 false)
def QbK (a:List (AV D.E)) (s:St D.E):C Qd6:=match a with
 | [l,i,r]=>az (aU D s 16 l) λl=>aL (cA i) λ_ i=>az (aU D s 16 r) λr=>.ret (l,i.toNat,(r:List Row).getD 0 Hz)
 | _=>.fail
def kN (l:List Row) (i:Nat) (r:Row):List Row:=l.take i++r::l.drop i
def sq:br D:=⟨98,Qd6,QbK,λy=>y.2.1<=y.1.length/\y.1.length<=1000,λy=>[.own 0 2 (ag y.1),QsE y.2.1,.own 1 2 1],λy=>[rwO 0 y.1,rwO 1 [y.2.2]],
 λy=>.own 2 2 (ag (kN y.1 y.2.1 y.2.2)),λy=>[rwO 2 (kN y.1 y.2.1 y.2.2)],2,3⟩
def Qd8:br D:=⟨98,Qd6,QbK,λy=>y.2.1=y.1.length/\y.1.length<=1000,λy=>[.own 0 2 (ag y.1),QsE (ag y.1),.own 1 2 1],λy=>[rwO 0 y.1,rwO 1 [y.2.2]],
 λy=>.own 2 2 (ag (y.1++[y.2.2])),λy=>[rwO 2 (y.1++[y.2.2])],2,3⟩
def QbL (y:(List Row)×Nat×Row):Prop:=let a:=ag y.1;let q1:=([y.2.2]:List Row);let b:=ag (bC y.1 q1);aH 0 a/\aH a a/\ak (aC 1 0) (a=ag (y.1++q1)/\y.1=(y.1++q1)/\True) (ak (aC a a) (bx b 24/\b=ag (y.1++q1)/\bC y.1 q1=(y.1++q1)/\True) (False))
def QbM (y:V_):Prop:=let b:=ag y.l;let q1:=jt y.l y.k;let c:=qK y.l y.k y.v;let d:=((kU y.l y.k:Nat):Int);let a:=d.toNat;let e:=([Row.mk y.k y.v]:List Row);let f:=List.getD e 0 Hz;Iv (TbP (V_.mk y.l y.k 0))/\RAO y.k b y.l (ak q1 (aH 0 d/\ay d b/\false=(!q1)/\b=ag c/\cC y.l a (Row.mk (gt (Row.mk [] 0) y.l a).k y.v)=c/\True) (Iv (a<=y.l.length/\y.l.length<=1000)/\aa [b] (d=(a:Int)/\ag e=1/\e=([f]:List Row)/\aa [y.l] (true=(!q1)/\ag (kN y.l a f)=ag c/\kN y.l a f=c/\True))))
theorem QjW {a b c:AV D.E} {A:Array Value} (h:LR M [a,b,c] A.toList):∃v u t,A=#[v,u,t]/\VR M a v/\VR M b u/\VR M c t:=by
 obtain⟨l⟩:=A;obtain⟨v,r,e,h1,d⟩:=h.bD;obtain⟨u,m,e2,j,f⟩:=d.bD;obtain⟨t,n,i,k,g⟩:=f.bD;have:=g.kW;grind
theorem QjX:Ok Qd8:=okZ (V:=QbL) [] f98 (λ_=>⟨[],[7],[],[],1,[]⟩) trivial λy a=>by
 unfold QbL;simp only[bI,bH,av,bm,a7];have h:y.1.length<=1000:=a.2
 skip
 grind
theorem Iy (c:Nat) (xs:List (D.E c)) (n:Nat):aW c (xs.drop n)=(aW c xs).drop (n*D.size c):=by
 by_cases h:n<=xs.length
 ·have e:aW c xs=aW c (xs.take n)++aW c (xs.drop n):=by rw[<-fx,ZaO]
  grind [a_,gE]
 ·rw[Zbu ω,Zbu (by rw[a_ gE];exact Zbc _ ω)];rfl
noncomputable def uG (l:List Row):List (AV D.E):=aW (D:=D) 16 l
def EY (a b:List Row):uG (a++b)=uG a++uG b:=fx (D:=D) 16 a b
def NW (l:List Row) (i:Nat):uG (l.take i)=(uG l).take (i*2):=mU (D:=D) gE 16 l i
def NX (l:List Row) (i:Nat):uG (l.drop i)=(uG l).drop (i*2):=Iy 16 l i
def EZ (l:List Row):(uG l).length=l.length*2:=a_ (D:=D) gE 16 l
def Qd9 {r:Row} (a:LR M (uG l) Z) (c:LR M (uG [r]) b):LR M (uG (kN l i r)) (Z.take (i*2)++(b++Z.drop (i*2))):=by
 have e:kN l i r=l.take i++([r]++l.drop i):=rfl;rw[e,EY,EY,NW,NX];exact(a.take _).app (c.app (a.drop _))
theorem E0 {n:Nat} {C:Nat->Option Value} (a:Z.length=n*2) (hi:i<=n) (c:b.length=2) (p1:∀q,q<i*2->C q=Z[q]?) (p2:∀j,j<2->C (i*2+j)=b[j]?)
  (p3:∀j,j<(n-i)*2->C ((i+1)*2+j)=(Z.drop (i*2))[j]?) {q:Nat} {u:Value} (h:(Z.take (i*2)++(b++Z.drop (i*2)))[q]?=some u):C q=some u:=by
 have ht:(Z.take (i*2)).length=i*2:=by rw[Zar];omega
 by_cases h1:q<i*2
 ·grind
 ·rw[Zaz ω,ht] at h;grind
theorem VY {H:Hp D} {w:World} (g:dQ M H w) {b:Nat} {n:Int} {v:Value} (i:H b=some (.arr 16 l 205 false)) (p:n=l.length) (q:0<l.length) (m:VR M (.own b 2 n) v):
  ∃a cap C c cs,M.pl b=some a/\a.real/\a.len=l.length/\a.iN=2/\v=.slice (some ⟨a.bV,a.sh,none⟩) l.length cap/\l.length<=cap/\a.sh+cap*2=a.p_/\
   w.heap[a.bV]?=some (.cells C 205 c)/\C.size=a.p_/\c.1=c.2/\LR M (uG l) cs/\cs.length=l.length*2/\∀j v,cs[j]?=some v->w.cell? ⟨a.bV,a.sh+j,none⟩=some v:=by
 obtain⟨a,e,hl,hz,k⟩:=g.obj b _ i;replace hl:a.len=l.length:=hl;replace hz:a.iN=2:=hz;cases m with
 | own g1 g2 g3 g4 g5 g6 g7=>
  rename_i cap o
  rw[e] at g1;cases g1;have d:=k g3;obtain⟨cs,h1,f⟩:=d.rd.list;obtain⟨C,c,k1,k2,k3,k4,k5⟩:=d;refine⟨a,cap,C,c,cs,e,g3,hl,hz,by rw[hl],ω,by rw[hz] at g7;exact g7,k1,k2,(k5 rfl).elim id λh=>ω,h1,?_,f⟩;rw[<-h1.1];exact EZ l
 | lE g1 g2 g3 g4 g5=>omega
theorem QbN:Ok sq:=by
 refine⟨⟨f98,_,by kernel_rfl,cH (by kernel_rfl)⟩,λy hy M A w hA J hT R hR=>?_⟩;obtain⟨hi,hl⟩:=hy;by_cases K:y.2.1=y.1.length
 ·have e:kN y.1 y.2.1 y.2.2=y.1++[y.2.2]:=by unfold kN;rw[K,ZaM,ZbH]
  have O:LR M [.own 0 2 (ag y.1),.int .i64 y.2.1,.own 1 2 1] A.toList:=hA;rw[K] at O;refine QjX.2 y ⟨K,hl⟩ M A w (by show LR M [.own 0 2 (ag y.1),.int .i64 (ag y.1),.own 1 2 1] _;rw[av y.1] at O ⊢;exact O) J hT R λM' v' w' hv k=>hR M' v' w' ?_ ?_
  ·show VR M' (.own 2 2 (ag (kN y.1 y.2.1 y.2.2))) v'
   rw[e];exact hv
  ·show cP _ M w (λt=>cq [rwO 2 (kN y.1 y.2.1 y.2.2)] t) M' w' 2 3
   rw[e];exact k
 ·obtain⟨v0,v1,v2,rfl,hv0,hv1,hv2⟩:=QjW hA;obtain rfl:=fk hv1;have s:y.2.1<y.1.length:=Nat.lt_of_le_of_ne hi K;obtain⟨m0,cap,C,fz,cs,B,H,hl0,hz0,rfl,X,htot,hC,hCs,hfz,Y,g,p⟩:=VY J (b:=0) rfl (av y.1) ω hv0;obtain⟨m1,I,C1,fz1,d,hm1,hr1,hl1,hz1,rfl,hcap1,Qsq,V,QtR,hfz1,hvs,m,f⟩:=VY J (b:=1) (l:=[y.2.2]) rfl rfl (by simp) hv2;have hne:m1.bV≠m0.bV:=λe=>absurd (J.inj 1 0 _ _ m1 m0 rfl rfl hm1 B hr1 H e) (by decide)
  have T:∀v∈cs,v.oneCell':=sC Y (dP.2 λv hv=>(dR gE hv).1);have U:∀v∈d,v.oneCell':=sC hvs (dP.2 λv hv=>(dR gE hv).1);generalize hi2:y.2.1=i at*
  generalize P:y.1=l at*
  generalize hr2:y.2.2=r at*
  replace m:d.length=2:=m;have W:=Qd9 (i:=i) Y hvs;have F:(kN l i r).length=l.length+1:=by unfold kN;rw[Zab,Zae,Zar,Zbg];omega
  have hnr:(aW (D:=D) 16 (kN l i r)).length=(l.length+1)*2:=by rw[<-F];exact EZ _
  have hdl:(cs.drop (i*2)).length=(l.length-i)*2:=by rw[Zbg,g];omega
  have L:∀{M':Pm D} {w':World} {mi:MI} {cap:Nat},M'.pl 2=some mi->mi.real->mi.iN=2->mi.len=l.length+1->l.length+1<=cap->mi.sh+cap*2=mi.p_->
    cP (λt=>cq (sq.heap y) t) M w (λc=>if c=2 then some (.arr 16 (kN l i r) 205 false) else if c=0 then none else cq (sq.heap y) c) M' w' 2 3->
    R (.returned (.slice (some ⟨mi.bV,mi.sh,none⟩) (l.length+1) cap)) w':=λ{M' w' mi cap} S a2 a3 a4 a5 a6 k=>by
   refine hR M' _ w' ?_ ?_
   ·show VR M' (.own 2 2 (ag (kN y.1 y.2.1 y.2.2))) _
    rw[P,hi2,hr2,<-a4];exact VR.own S a3 a2 (by rw[a4,av,F]) ω ω (by rw[a3];exact a6)
   ·have:=k.trans (cP.drop (b:=1) k.fq 3);have e:(λt=>cq (sq.hZ y) t)=iI (λc=>if c=2 then some (.arr 16 (kN l i r) 205 false) else if c=0 then none else cq (sq.heap y) c) 1 none:=by
     funext t;show cq [(2,AO.arr (E:=D.E) 16 (kN y.1 y.2.1 y.2.2) _ false)] t=if t=1 then none else if t=2 then _ else if t=0 then none else cq [(0,_),(1,_)] t
     rw[P,hi2,hr2,eP,eP,eP];by_cases h1:t=1
     ·subst h1;rfl
     ·by_cases h2:t=2
      ·grind
      ·by_cases h3:t=0
       ·subst h3;rfl
       ·grind
    rw[e];exact this
  have hmx:l.length+1<=9223372036854775807:=ω;by_cases z:l.length+1<=cap
  ·have Qry:∀j,w.frozen? ⟨m0.bV,j,none⟩=false:=λj=>by simp only[World.frozen?,hC,hfz];simp
   have N:∀j,w.frozen? ⟨m1.bV,j,none⟩=false:=λj=>by simp only[World.frozen?,V,hfz1];simp
   refine(ins.shift m0.bV m0.sh l.length cap i m1.bV m1.sh I cs d w s z ω hne g m p (λj hj=>?_) (λj _=>Qry _) f T U ins.R ins.R C1.size C.size (by simp[World.shape?,V]) (by simp[World.shape?,hC]) ω (N _) (N _)).mono λe w' ⟨K,hw⟩=>?_
   ·grind [World.cell?]
   ·subst K hw;obtain⟨C2,c1,c2,c3⟩:=ff m0.bV _ fz (cs.drop (i*2)) (m0.sh+(i+1)*2) w.drew C hC ω;obtain⟨n,d1,d2,Q⟩:=ff m0.bV _ fz d (m0.sh+i*2) _ C2 c1 ω;obtain⟨e1,e2,e3⟩:=dH m0.bV (cs.drop (i*2)) (m0.sh+(i+1)*2) w.drew;obtain⟨f1,f2,f3⟩:=dH m0.bV d (m0.sh+i*2) (w.drew.setCells m0.bV (m0.sh+(i+1)*2) (cs.drop (i*2)));have Z:M.pl 2=none:=hT 2 (Zah 2)
    let mi:MI:=⟨m0.bV,m0.sh,m0.p_,m0.iN,l.length+1,true⟩
    have hle:sx.Le M (M.add 2 mi):=Pm.qk Z;have hC0:∀q u,cs[q]?=some u->C[m0.sh+q]?=some u:=λq u h=>by
     grind [World.cell?]
    have x:∀q u,(cs.take (i*2)++(d++cs.drop (i*2)))[q]?=some u->n[m0.sh+q]?=some u:=λq u h=>by
     refine E0 (C:=λq=>n[m0.sh+q]?) g (Zcx s) m (λq hq=>?_) (λj hj=>?_) (λj hj=>?_) h
     ·grind
     ·show n[m0.sh+(i*2+j)]?=_
      rw[Q,Zac ω,show m0.sh+(i*2+j) -(m0.sh+i*2)=j by omega]
     ·show n[m0.sh+((i+1)*2+j)]?=_
      rw[Q,Zaa ω,c3,Zac ω,show m0.sh+((i+1)*2+j) -(m0.sh+(i+1)*2)=j by omega]
    have k:=cP.upon (M1:=M.add 2 mi) (sg1:=M.sg) (b0:=0) (b1:=2) (o1:=.arr 16 (kN l i r) 205 false) (qT:=m0) (A2:=mi) (lo:=2) (hi:=3) (w':=(w.drew.setCells m0.bV (m0.sh+(i+1)*2) (cs.drop (i*2))).setCells m0.bV (m0.sh+i*2) d) J (show cq (sq.heap y) 0=some (.arr 16 l 205 false) by rw[<-P];rfl) rfl B H rfl rfl rfl (.inr ⟨rfl,Z,rfl⟩) (λ_ _ _ h=>h) (λ_ _ h=>.inl h)
     ((dG _ _ _ _).trans (dG _ _ _ _)) (λc hc=>(dm _ _ _ _ c hc).trans (dm _ _ _ _ c hc)) (f1.trans e1) (f2.trans e2) (f3.trans e3)
     ⟨F.symm,hz0,λ_=>⟨n,fz,d1,by rw[d2,c2,hCs],by rw[hnr];show m0.sh+_<=m0.p_;omega,λq u hu=>?_,λ_=>.inl hfz⟩⟩ (λo v h=>?_) (λ_ j _=>?_)
    ·exact L (M':=M.add 2 mi) (mi:=mi) rfl rfl hz0 rfl z htot k
    ·obtain⟨u',S,a2⟩:=W.get hu;exact⟨u',x q u' S,a2.mono hle⟩
    ·rw[J.sep 0 _ m0 (show cq (sq.heap y) 0=_ from rfl) rfl B H o trivial] at h;cases h
    ·exact J.sep 0 _ m0 (show cq (sq.heap y) 0=_ from rfl) rfl B H j trivial
  ·have hN:(ins.NU w l.length cap i cs).size=grownCap w (l.length+1) cap ins.R*2:=ins.AG (Zcx s) g;have hG:=grownCap_ge w (l.length+1) cap ins.R;refine(ins.grow m0.bV m0.sh l.length cap i m1.bV m1.sh I cs d w s X ω ω g m p f T U).mono λe w' ⟨K,hw⟩=>?_
   subst K;generalize hGG:grownCap w (l.length+1) cap ins.R=G at*
   generalize hRR:ins.NU w l.length cap i cs=a at*
   have hg:(w.alloc (.cells a ins.R)).drew.heap[w.heap.size]?=some (.cells a ins.R (0,0)):=by show(w.heap.push _)[w.heap.size]?=_;simp
   obtain⟨C2,c1,c2,c3⟩:=ff w.heap.size _ (0,0) d (i*2) _ a hg ω;obtain⟨n,d1,d2,Q⟩:=ff w.heap.size _ (0,0) (cs.drop (i*2)) ((i+1)*2) ((w.alloc (.cells a ins.R)).drew.setCells w.heap.size (i*2) d).drew C2 c1 ω;obtain⟨e1,e2,e3⟩:=dH w.heap.size d (i*2) (w.alloc (.cells a ins.R)).drew;obtain⟨f1,f2,f3⟩:=dH w.heap.size (cs.drop (i*2)) ((i+1)*2) ((w.alloc (.cells a ins.R)).drew.setCells w.heap.size (i*2) d).drew;have s1:=dG w.heap.size d (i*2) (w.alloc (.cells a ins.R)).drew;have s2:=dG w.heap.size (cs.drop (i*2)) ((i+1)*2) ((w.alloc (.cells a ins.R)).drew.setCells w.heap.size (i*2) d).drew;have b1:=dm w.heap.size d (i*2) (w.alloc (.cells a ins.R)).drew;have b2:=dm w.heap.size (cs.drop (i*2)) ((i+1)*2) ((w.alloc (.cells a ins.R)).drew.setCells w.heap.size (i*2) d).drew;rw[<-hw] at d1 f1 f2 f3 s2 b2;have da:w'.heap.size=w.heap.size+1:=s2.trans (s1.trans (by show(w.heap.push _).size=_;simp));have hblk:∀c,c<w.heap.size->w'.heap[c]?=w.heap[c]?:=λc hc=>(b2 c ω).trans ((b1 c ω).trans (Below.heap_alloc _ _ _ hc))
   have Z:M.pl 2=none:=hT 2 (Zah 2)
   let mi:MI:=⟨w.heap.size,0,a.size,2,l.length+1,true⟩
   have hle:sx.Le M (M.add 2 mi):=Pm.qk Z;have x:∀q u,(cs.take (i*2)++(d++cs.drop (i*2)))[q]?=some u->n[0+q]?=some u:=λq u h=>by
    rw[Za6];refine E0 (C:=λq=>n[q]?) g (Zcx s) m (λq hq=>?_) (λj hj=>?_) (λj hj=>?_) h
    ·show n[q]?=_
     rw[Q,Zaa ω,c3,Zaa ω,<-hRR];have ht:(cs.take (i*2)).length=i*2:=by rw[Zar];omega
     show((cs.take (i*2)).toArray++_++_)[q]?=_
     rw[ZbT (by rw[Zct,Zb5];omega),ZbT (by rw[Zb5];omega),Zc0,Za7,Zac hq]
    ·show n[i*2+j]?=_
     rw[Q,Zaa ω,c3,Zac ω,show i*2+j-i*2=j by omega]
    ·show n[(i+1)*2+j]?=_
     rw[Q,Zac ω,show(i+1)*2+j-(i+1)*2=j by omega]
   have st1:=cP.mQ (lo:=2) J Z (.arr 16 (kN l i r) 205 false) mi (λ_=>rfl) ω hblk (f1.trans e1) (f2.trans e2) (f3.trans e3)
    ⟨F.symm,rfl,λ_=>⟨n,(0,0),d1,by rw[d2,c2],by rw[hnr];show 0+_<=a.size;omega,λq u hu=>let ⟨u',S,a2⟩:=W.get hu;⟨u',x q u' S,a2.mono hle⟩,λ_=>.inl rfl⟩⟩ (λ_ _ _ h=>by cases h)
   have st2:=st1.trans (cP.drop (b:=0) st1.fq 3);have e:(λc=>if c=2 then some (AO.arr (E:=D.E) 16 (kN l i r) 205 false) else if c=0 then none else cq (sq.heap y) c)=iI (iI (λt=>cq (sq.heap y) t) 2 (some (.arr 16 (kN l i r) 205 false))) 0 none:=by
    funext t;grind [iI]
   exact L (M':=M.add 2 mi) (mi:=mi) rfl rfl rfl rfl hG (by show 0+G*2=a.size;omega) (by rw[e];exact st2)
theorem ϥ {k:By} (h:jt l k):kU l k<l.length:=by
 obtain⟨r,a,e⟩:=ZcT.1 h;refine List.findIdx_lt_length_of_exists ⟨r,a,?_⟩;grind
theorem QjY:Ok HA:=okZ (V:=QbM) [M4,sq] f57 (λ_=>⟨[],[5],[],[],1,[]⟩) ⟨QhL,QbN⟩ λy a=>by
 unfold QbM;simp only[bI,bH,av,bm,a7,cC,cS,Zad];have b:kU y.l y.k<=y.l.length:=ZdL;refine⟨a,λh=>?_,λh=>?_⟩
 ·grind [qK,ϥ]
 ·have e:kN y.l (kU y.l y.k) ([(⟨y.k,y.v⟩:Row)].getD 0 Hz)=qK y.l y.k y.v:=by unfold qK kN;rw[h,Zaa (by decide)];rfl
  exact⟨⟨b,a.2⟩,rfl,rfl,(by rw[h];rfl),ZaR (λl:List Row=>(l.length:Int)) e,e⟩
end
end sx
namespace sx
open Go Go.RowKit cls syn
set_option maxRecDepth 100000
noncomputable section
def NY:br D:=bL 181 (List Rg) Bp (λy=>y.length<=10/\aV y=y) (λy=>[.list 6 y]) λy=>.list 6 y
def QjZ:Ok NY:=⟨Ll.1,λy c M A w f h i R g=>by
 have c:y.length<=10/\aV y=y:=c;refine Ll.2 y (by show y.length<=_;omega) M A w f h i R λd e j a b=>g d e j ?_ b
 have a:VR d (.list 6 (aV y)) e:=a;rw[c.2] at a;exact a⟩
def cdK (t:TypeId):Option Nat:=bif Nat.beq t (nat_lit 4000000000) then some (nat_lit 0) else cdD t
def vcI (tab:tI) (a:List (Nat×List Nat)) (un n:Nat) (fn:Func) (k:br D) (mu:List Nat) (y:k.Y):Prop:=bif Nat.ble (jM (k.args y)) fn.ntmps then OY prog D cdK (inl prog D cdK un tab a n) ⟨[],mu,[],[],un,[]⟩ fn.ntmps k (Bl fn) fn.results.toList y else False
def okI {k:br D} {V:k.Y->Prop} (tab:tI) (c:List (Nat×List Nat)) (un n:Nat) (fn:Func) (mu:List Nat) (ht:Qr tab) (h:∀y,k.pre y->V y) (l:∀y,V y=vcI tab c un n fn k mu y:=by intro y;kernel_rfl)
  (b:Tryz.prog.funcs[k.f]?=some fn:=by kernel_rfl) (e:fn.body.isSome:=by kernel_rfl):Ok k:=by
 refine⟨⟨fn,_,b,cH e⟩,λy m=>?_⟩;have a:=Eq.mp (l y) (h y m);unfold vcI at a;rw[tJ] at a;by_cases d:Nat.ble (k.args y).length fn.ntmps
 ·rw[d] at a;exact λM A w hl i j R g=>m_ gE mixed uT b (cH e) (VV gE mixed uT ht.all c n) (ZcY d) a M A w hl i j R g
 ·rw[Bool.not_eq_true] at d;rw[d] at a;exact a.elim
def Qrz:List (Nat×List Nat):=[(222,[4]),(190,[3]),(6,[3,5]),(144,[6,7]),(148,[9]),(223,[13]),(167,[6]),(172,[1,2]),(57,[5])]
end
end sx
namespace sx
open Go Go.RowKit cls syn
set_option maxRecDepth 100000
def Qbe:List Gt:=[(120,1)]
def Qag:List Rg:=[(120,120)]
def Qbg:List Nd:=[⟨2,[(120,120)],0,0,false,0,0⟩]
def Qbi:List Gt:=[(94,1),(32,1)]
def Qaj:List Rg:=[(32,32)]
def Qat:List Nd:=[⟨3,[],0,0,false,0,2⟩,⟨7,[],0,0,false,0,0⟩,⟨2,[(32,32)],0,0,false,0,0⟩]
def Qau:List aS:=[⟨4,0,0,[]⟩,⟨5,0,0,[]⟩,⟨1,0,0,[(32,32)]⟩,⟨4,1,0,[]⟩,⟨7,0,0,[]⟩]
def QaN:List aS:=[⟨4,0,0,[]⟩,⟨1,0,0,[(120,120)]⟩,⟨4,1,0,[]⟩,⟨7,0,0,[]⟩]
def Qkm:List Int:=[0,0,0,0]
def Qkn:List Int:=[0,0,0,0,0]
def Qbj:List aK:=[⟨2,1,(-1),(-1),(-1),(-1),(-1),(-1),(-1),(-1),(-1)⟩]
def Qbm:List aK:=[⟨3,0,(-1),(-1),(-1),(-1),(-1),(-1),(-1),(-1),(-1)⟩]
def QbS:List aK:=[⟨2,2,(-1),(-1),(-1),(-1),(-1),(-1),(-1),(-1),(-1)⟩]
abbrev RAG (p:Prop):Prop:=aa ([1]:List (Int)) p
abbrev RAJ (p:Prop):Prop:=aa ([Qau]:List (List aS)) p
abbrev RAK (p:Prop):Prop:=aa ([QaN]:List (List aS)) p
def VZ (_:Unit):Prop:=let J:=λp:Prop=>RAM ((-1):Int) ((-1):Int) (p);let F:=λp:Prop=>Iv (Du.pre (⟨⟨[⟨4,0,0,[]⟩,⟨5,0,0,[]⟩,⟨1,0,0,[(32,32)]⟩,⟨4,1,0,[]⟩,⟨7,0,0,[]⟩],[0]⟩,0,[],⟨[0,0,0,0,0],[]⟩⟩:nZ))/\(RAJ (p));let G:=λp:Prop=>Iv (Du.pre (⟨⟨[⟨4,0,0,[]⟩,⟨1,0,0,[(120,120)]⟩,⟨4,1,0,[]⟩,⟨7,0,0,[]⟩],[0]⟩,0,[],⟨[0,0,0,0],[]⟩⟩:nZ))/\(RAK (p));let l:=λp:Prop=>RAM (0:Int) (0:Int) (p);let L:=λp:Prop=>J (J (p));let H:=λp:Prop=>Iv (NY.pre ([(120,120)]:List Rg))/\(RAL (Qag:List Rg) (p));let I:=λp:Prop=>Iv (NY.pre ([(32,32)]:List Rg))/\(RAL (Qaj:List Rg) (p));let w:=λp:Prop=>RAG (Iv True/\(p));let D:=λp:Prop=>l (RAL (false:Bool) (p));let K:=λp:Prop=>RAM (0:Int) (1:Int) (p);let c:=λp:Prop=>l (RAL ([]:List Rg) (p));let a:=λp:Prop=>RAM (4:Int) (0:Int) (p);let x:=λp:Prop=>RAG (RAK (p));let u:=λp:Prop=>L (L (p));let g:=λp:Prop=>aa ([[0],[0]]:List (List Int)) (p);let f:=λp:Prop=>aa ([Qbi,Qbi]:List (List Gt)) (p);let d:=λp:Prop=>RAM (5:Int) (0:Int) (p);let i:=λp:Prop=>RAL ([0]:List Int) (l (p));let b:=λp:Prop=>l (K (p));let j:=λp:Prop=>RAK (RAL (4:Int) (p));let e:=λp:Prop=>u (RAG (p));let m:=λp:Prop=>RAL ([0]:List Int) (RAG (p));let n:=λp:Prop=>RAM (120:Int) (120:Int) (p);let o:=λp:Prop=>RAG (RAJ (p));let C:=λp:Prop=>RAG (l (p));let k:=λp:Prop=>RAL (4:Int) (x (p));let E:=λp:Prop=>u (J (p));let q:=λp:Prop=>RAL ([]:List Rg) (D (p));let r:=λp:Prop=>RAM (32:Int) (32:Int) (p);let s:=λp:Prop=>C (RAL (Qag:List Rg) (p));let h:=λp:Prop=>u (E (RAM ((-1):Int) (1:Int) (p)));let y:=λp:Prop=>RAJ (RAL (4:Int) (p));let v:=λp:Prop=>RAM (1:Int) (2:Int) (p);let z:=λp:Prop=>aa ([Qbe,Qbe]:List (List Gt)) (p);let A:=λp:Prop=>RAM ([]:List Item) (Qkm:List Int) (p);let B:=λp:Prop=>RAM ([]:List Item) (Qkn:List Int) (p);let t:=λp:Prop=>c (RAL (5:Int) (p));Iv (sq.pre ([],(0,⟨[97],0⟩)))/\(l (RAG (aa ([[⟨[97],0⟩],[]]:List (List Row)) (z (z (aa ([Qbe]:List (List Gt)) (H (z (z (z (aa ([Qbe]:List (List Gt)) (aa ([Qbg,Qbg]:List (List Nd)) (aa ([2]:List (Int)) (aa ([Qag]:List (List Rg)) (D (l (H (n (n (aa ([2]:List (Int)) (aa ([Qag]:List (List Rg)) (D (l (f (f (f (f (f (f (f (f (f (I (f (f (f (aa ([Qbi]:List (List Gt)) (aa ([Qbg,Qbg]:List (List Nd)) (aa ([2]:List (Int)) (aa ([Qag]:List (List Rg)) (D (l (H (n (n (aa ([2]:List (Int)) (aa ([Qag]:List (List Rg)) (D (l (aa ([1]:List (Int)) (aa ([[⟨4,0,0,[]⟩]]:List (List aS)) (aa ([Qag]:List (List Rg)) (aa ([[⟨4,0,0,[]⟩,⟨1,0,0,[(120,120)]⟩],[⟨4,0,0,[]⟩,⟨1,0,0,[(120,120)]⟩,⟨4,1,0,[]⟩]]:List (List aS)) (aa ([Qat,Qat]:List (List Nd)) (aa ([3]:List (Int)) (q (aa ([0,2,3]:List (Int)) (q (aa ([0,2]:List (Int)) (aa ([Qat,Qat]:List (List Nd)) (aa ([7]:List (Int)) (q (l (aa ([7]:List (Int)) (q (l (aa ([Qat,Qat]:List (List Nd)) (aa ([2]:List (Int)) (aa ([Qaj]:List (List Rg)) (D (l (I (r (r (aa ([2]:List (Int)) (aa ([Qaj]:List (List Rg)) (D (l (aa ([Qat,Qat]:List (List Nd)) (aa ([3]:List (Int)) (q (aa ([0,2,3]:List (Int)) (q (aa ([0,2]:List (Int)) (aa ([Qat,Qat]:List (List Nd)) (aa ([7]:List (Int)) (q (l (aa ([7]:List (Int)) (q (l (aa ([Qat,Qat]:List (List Nd)) (aa ([2]:List (Int)) (aa ([Qaj]:List (List Rg)) (D (l (I (r (r (aa ([2]:List (Int)) (aa ([Qaj]:List (List Rg)) (D (l (aa ([3]:List (Int)) (aa ([[⟨4,0,0,[]⟩],[⟨4,0,0,[]⟩,⟨5,0,0,[]⟩]]:List (List aS)) (aa ([Qaj]:List (List Rg)) (aa ([[⟨4,0,0,[]⟩,⟨5,0,0,[]⟩,⟨1,0,0,[(32,32)]⟩],[⟨4,0,0,[]⟩,⟨5,0,0,[]⟩,⟨1,0,0,[(32,32)]⟩,⟨4,1,0,[]⟩],Qau]:List (List aS)) (aa ([[0]]:List (List Int)) (aa ([[94,32],[94,32],[94,32]]:List (By)) (H (n (n (G (i (a (A (aa ([[]]:List (List dh)) (I (r (r (F (i (d (B (aa ([[]]:List (List dh)) (Iv True/\(aa ([97]:List (Int)) (b (a (j (c (k (s (h (x (aa ([Qag]:List (List Rg)) (a (g (m (w (aa ([97]:List (Int)) (b (d (y (t (o (aa ([5]:List (Int)) (t (aa ([2]:List (Int)) (aa ([Qau]:List (List aS)) (C (aa ([Qaj]:List (List Rg)) (h (o (aa ([Qaj]:List (List Rg)) (d (g (m (w (aa ([120]:List (Int)) (b (a (j (c (k (s (h (aa ([1]:List (Int)) (a (aa ([QaN]:List (List aS)) (aa ([Qag]:List (List Rg)) (aa ([4,1]:List (Int)) (aa ([[0]]:List (List Int)) (aa ([Qbj,Qbj]:List (List aK)) (g (aa ([1]:List (Int)) (w (aa ([120]:List (Int)) (b (d (y (t (o (aa ([5]:List (Int)) (c (E (d (g (m (aa ([1,1,4]:List (Int)) (j (aa ([1,0]:List (Int)) (aa ([[]]:List (List Rg)) (k (aa ([7]:List (Int)) (c (aa ([1]:List (Int)) (e (e (u (Iv True/\(aa ([10]:List (Int)) (b (a (j (aa ([1,0]:List (Int)) (aa ([[]]:List (List Rg)) (k (aa ([7]:List (Int)) (c (aa ([1]:List (Int)) (e (e (e (aa ([1]:List (Int)) (G (i (a (A (aa ([[]]:List (List dh)) (F (i (d (B (aa ([[]]:List (List dh)) (Iv True/\(aa ([32]:List (Int)) (b (a (j (c (k (s (h (x (aa ([Qag]:List (List Rg)) (a (g (m (w (aa ([32]:List (Int)) (b (d (y (t (o (aa ([5]:List (Int)) (t (aa ([2]:List (Int)) (aa ([Qau]:List (List aS)) (C (aa ([Qaj]:List (List Rg)) (h (aa ([1]:List (Int)) (d (aa ([Qau]:List (List aS)) (aa ([Qaj]:List (List Rg)) (aa ([5,1]:List (Int)) (aa ([[0]]:List (List Int)) (aa ([Qbm,Qbm]:List (List aK)) (g (aa ([1]:List (Int)) (w (aa ([32]:List (Int)) (b (v (e (w (aa ([98]:List (Int)) (b (a (j (c (k (s (h (x (aa ([Qag]:List (List Rg)) (a (g (m (w (aa ([98]:List (Int)) (b (d (y (aa ([1,0]:List (Int)) (aa ([[]]:List (List Rg)) (aa ([5]:List (Int)) (o (aa ([7]:List (Int)) (c (aa ([0]:List (Int)) (u (aa ([0]:List (Int)) (u (aa ([0]:List (Int)) (e (w (aa ([98]:List (Int)) (b (v (e (w (aa ([120]:List (Int)) (b (a (j (c (k (s (h (aa ([1]:List (Int)) (a (aa ([QaN]:List (List aS)) (aa ([Qag]:List (List Rg)) (aa ([4,1]:List (Int)) (aa ([[0]]:List (List Int)) (aa ([QbS,QbS]:List (List aK)) (g (aa ([1]:List (Int)) (w (aa ([120]:List (Int)) (b (K (e (w (aa ([120]:List (Int)) (b (v (e (aa ([1,1]:List (Int)) (K (e (v (u (Iv True/\(aa ([10]:List (Int)) (b (v (e (aa ([1]:List (Int)) (G (i (a (A (aa ([[]]:List (List dh)) (F (i (d (B (aa ([[]]:List (List dh)) (Iv True/\(aa ([99]:List (Int)) (b (a (j (c (k (s (h (x (aa ([Qag]:List (List Rg)) (a (g (m (w (aa ([99]:List (Int)) (b (d (y (t (o (aa ([5]:List (Int)) (t (aa ([2]:List (Int)) (aa ([Qau]:List (List aS)) (C (aa ([Qaj]:List (List Rg)) (h (o (aa ([Qaj]:List (List Rg)) (d (g (m (w (aa ([99]:List (Int)) (b (v (e (aa ([1,1,5]:List (Int)) (y (t (o (aa ([5]:List (Int)) (c (E (v (e (aa ([4]:List (Int)) (j (c (k (s (h (w (aa ([10]:List (Int)) (b (a (j (c (k (s (h (x (aa ([Qag]:List (List Rg)) (a (g (m (aa ([1]:List (Int)) (G (i (a (A (aa ([[]]:List (List dh)) (F (i (d (B (aa ([[]]:List (List dh)) (aa ([1,1,1]:List (Int)) (aa ([[⟨false,(-1),(-1),(-1),(-1),(-1),(-1),(-1),(-1),(-1),(-1),[]⟩]]:List (List dh)) (aa ([Qau]:List (List aS)) (aa ([[0]]:List (List Int)) (aa ([[94,32],[94,32],[94,32]]:List (By)) (H (n (n (G (i (a (A (aa ([[]]:List (List dh)) (I (r (r (F (i (d (B (aa ([[]]:List (List dh)) (aa ([1,1]:List (Int)) (True)))))))))))))))))))))))))))))))))))))))))))))))))))))))))))))))))))))))))))))))))))))))))))))))))))))))))))))))))))))))))))))))))))))))))))))))))))))))))))))))))))))))))))))))))))))))))))))))))))))))))))))))))))))))))))))))))))))))))))))))))))))))))))))))))))))))))))))))))))))))))))))))))))))))))))))))))))))))))))))))))))))))))))))))))))))))))))))))))))))))))))))))))))))))))))))))))))))))))))))))))))))))))))))))))))))))))))))))))))))))))))))))))))))
def E1 {a:Int} (h:dS (a,a)=[(a,a)]):aV [(a,a)]=[(a,a)]:=by
 unfold aV;simp only[Zbt,List.flatMap_nil,Zaw,h,List.mergeSort_singleton];rfl
def QrA (y:Unit):VZ y:=by
 have a:NY.pre ([(120,120)]:List Rg):=⟨by decide,E1 (by kernel_rfl)⟩;have b:NY.pre ([(32,32)]:List Rg):=⟨by decide,E1 (by kernel_rfl)⟩;have c:sq.pre ([],(0,⟨[97],0⟩)):=⟨Zah _,Zaj _⟩;have v:∀(p:eu) (s:qy),p.aj.length<=10->Du.pre (⟨p,0,[],s⟩:nZ):=λp s h=>by
  show p.aj.length+0<=1000000
  omega
 unfold VZ;simp only[bH,a,b,c]
 with_reducible repeat' apply And.intro
 all_goals exact v _ _ (by decide)
def Qj0:Ok QdE:=okI (V:=VZ) [NY,sq,Ri 1,Ri 2,Ri 3,Ri 4,Du] Qrz 400 40 Tryz.f6 [3,5] ⟨QjZ,QbN,JL 1 (by decide) (by decide),JL 2 (by decide) (by decide),JL 3 (by decide) (by decide),JL 4 (by decide) (by decide),Qfl⟩ λy _=>QrA y
end sx
namespace bld
open Go Go.RowKit
abbrev BT:TypeId:=317
abbrev self (b:Nat):Value:=.pointer (some ⟨b,0,none⟩)
theorem QbO:∃j,Tryz.prog.info? BT=some j/\j.size=2:=by
 obtain⟨j,a,hs⟩:=ZdM.1 (show(Tryz.prog.info? BT).map (·.size)=some 2 by kernel_rfl);grind
set_option maxHeartbeats 2000000 in
set_option maxRecDepth 100000 in
theorem NZ (b:Nat) (w:World) (h0:w.cell? ⟨b,0,none⟩=some (self b)):
  Calls prog 238 #[self b] w λe d=>e=.returned (.tuple #[])/\d=w:=by
 obtain⟨j,a,c⟩:=QbO
 go_enter Tryz.func238,Tryz.ntmps238
 go_wp2
 rw[Lib.run_neq_ptr_same w _ Tryz.underlying315 a]
 go_wp2
 go_end0
 grind
set_option maxHeartbeats 2000000 in
set_option maxRecDepth 100000 in
theorem Iz (b:Nat) (w:World) (h0:w.cell? ⟨b,0,none⟩=some (.pointer none)) (a:w.shape? b=some (BT,2)) (d:w.frozen? ⟨b,0,none⟩=false):
  Calls prog 238 #[self b] w λe g=>e=.returned (.tuple #[])/\g=w.setCell ⟨b,0,none⟩ (self b):=by
 obtain⟨j,c,f⟩:=QbO
 go_enter Tryz.func238,Tryz.ntmps238
 go_wp2
 rw[Lib.run_to_unsafe w ⟨b,0,none⟩ Tryz.underlying315 Tryz.underlying340 c ω a (Nat.zero_lt_succ 1)]
 simp only[Result.andThen]
 rw[Oper.upon_value]
 go_wp2
 rw[run_callFunc_extern Tryz.func249 (by kernel_rfl) (by kernel_rfl) (by kernel_rfl) (e:=Extern.AbiNoEscape.same) (by kernel_rfl)]
 rw[Lib.run_noEscape]
 simp only[Result.andThen]
 rw[Oper.upon_value]
 go_wp2
 rw[Lib.run_from_unsafe w ⟨b,0,none⟩ Tryz.underlying340 Tryz.underlying315 c a (by kernel_rfl)]
 simp only[Result.andThen]
 rw[Oper.upon_value]
 go_wp2
 go_end0
 grind
section
variable {P:Program}
def liesAt_bytes {e:TypeId} (b:P.cellsOf e=1) (count o n:Nat) (c:o+n<=count):liesAt P P.depth e count o e n:=by
 have a:P.depth=(2*(P.types.size+Made.depth)+1)+1:=rfl;rw[a];simp only[liesAt,ZbM];left;rw[a];simp[rowAt,b,c,sameLayout,Nat.mod_one]
theorem tm (w:World) (pt it ty e:TypeId) (hp:P.underlying pt=some (.pointer e)) (hc:P.cellsOf e=1) (g o cells:Nat) (hsh:w.shape? g=some (e,cells)) (l:List UInt8) (h0:l≠[]) (hn:o+l.length<=cells) (h63:l.length<=9223372036854775807)
  (hcell:∀j x,l[j]?=some x->w.cell? ((⟨g,o,none⟩:Addr).add j)=some (.int .u8 x.toNat)):
  (Builtin.unsafeString_ #[pt,it] ty #[.pointer (some ⟨g,o,none⟩),.int .i64 l.length]).run P w=.ok (.string ⟨l.toArray⟩) (w.freeze ⟨g,o,none⟩ l.length):=by
 have hl:l.length≠0:=by grind
 have hlb:=Lib.run_loadBytes (P:=P) w l ⟨g,o,none⟩ .empty hcell;have hlies:=liesAt_bytes (P:=P) hc (cells / P.cellsOf e) o l.length (by grind);have h63':¬(9223372036854775807:Int)<(l.length:Int):=ω;have hdef:Builtin.unsafeString_ #[pt,it] ty #[.pointer (some ⟨g,o,none⟩),.int .i64 l.length]=
   (do
    let n <-asInt (.int .i64 l.length)
    if n<0 then runtimePanic (.error "unsafe.String: len out of range")
    if n>IntKind.i64.max then unsupported (.unsafePointer "String: a length above the largest int")
    if n=0 then pure (.string .empty)
    else if <-variablesAt ⟨g,o,none⟩ (<-elemOf pt) n.toNat then do
     let s <-loadBytes ⟨g,o,none⟩ .empty n.toNat
     freeze ⟨g,o,none⟩ n.toNat
     pure (.string s)
    else unsupported (.unsafePointer "String: not so many bytes at ptr")):=rfl
 rw[hdef];have hmax:IntKind.i64.max=9223372036854775807:=rfl;have hneg:¬(l.length:Int)<0:=ω;simp[asInt,asIntOf,hmax,h63',hneg,hl,variablesAt,hsh,elemOf,Zza hp,hlies,hlb]
end
set_option maxHeartbeats 1000000 in
set_option maxRecDepth 100000 in
theorem QrB (b g o cap:Nat) (p:Value) (l:List UInt8) (C:Array Value) (i c:Nat×Nat) (w:World) (h0:l≠[]) (f:w.heap[b]?=some (.cells #[p,.slice (some ⟨g,o,none⟩) l.length cap] BT i))
  (n:w.heap[g]?=some (.cells C 5 c)) (r:o+l.length<=C.size) (t:l.length<=cap) (d:l.length<=9223372036854775807)
  (a:∀j x,l[j]?=some x->w.cell? ((⟨g,o,none⟩:Addr).add j)=some (.int .u8 x.toNat)):
  Calls prog 229 #[self b] w λe s=>e=.returned (.string ⟨l.toArray⟩)/\s=w.drew.freeze ⟨g,o,none⟩ l.length:=by
 have q:l.length≠0:=by grind
 have c1:w.drew.cell? ⟨b,1,none⟩=some (.slice (some ⟨g,o,none⟩) l.length cap):=by
  have:w.drew.heap[b]?=some (.cells #[p,.slice (some ⟨g,o,none⟩) l.length cap] BT i):=f
  rw[Lib.cell_of_heap this];rfl
 have k:(Builtin.unsafeSliceData_ #[30] 328 #[.slice (some ⟨g,o,none⟩) l.length cap]).run prog w.drew=.ok (.pointer (some ⟨g,o,none⟩)) w.drew:=
  Lib.run_unsafeSliceData_row _ _ _ _ _ _ ω
 have m:(Builtin.unsafeString_ #[328,3] 9 #[.pointer (some ⟨g,o,none⟩),.int .i64 l.length]).run prog w.drew=.ok (.string ⟨l.toArray⟩) (w.drew.freeze ⟨g,o,none⟩ l.length):=by
  refine tm w.drew 328 3 9 5 Tryz.underlying328 (by kernel_rfl) g o C.size (by have h:w.drew.heap[g]?=some (.cells C 5 c):=n;simp[World.shape?,h]) l h0 r d a
 have mixed:Tryz.prog.follows .mixedOrders=true:=by kernel_rfl
 go_enter Tryz.func229,Tryz.ntmps229
 go_wp2
 go_region_o
 all_goals (go_wp2;go_ret;exact⟨rfl,rfl⟩)
set_option maxHeartbeats 2000000 in
set_option maxRecDepth 100000 in
theorem QrC (b:Nat) (p:Value) (c:Nat×Nat) (w:World) (a:w.heap[b]?=some (.cells #[p,.slice none 0 0] BT c)):
  Calls prog 229 #[self b] w λe g=>e=.returned (.string ⟨#[]⟩)/\g=w.drew:=by
 have f:∀(W:World) (q:Option Addr),(Builtin.unsafeString_ #[328,3] 9 #[.pointer q,.int .i64 0]).run prog W=.ok (.string .empty) W:=λW q=>Lib.run_unsafeString_none W _ _ _ q
 have c1:w.drew.cell? ⟨b,1,none⟩=some (.slice none 0 0):=by
  have:w.drew.heap[b]?=some (.cells #[p,.slice none 0 0] BT c):=a
  rw[Lib.cell_of_heap this];rfl
 have d:(Builtin.unsafeSliceData_ #[30] 328 #[.slice none 0 0]).run prog w.drew=.ok (.pointer none) w.drew:=rfl
 have mixed:Tryz.prog.follows .mixedOrders=true:=by kernel_rfl
 go_enter Tryz.func229,Tryz.ntmps229
 go_wp2
 go_region_o
 all_goals (go_wp2;go_ret;exact⟨rfl,rfl⟩)
end bld
set_option maxRecDepth 100000
set_option maxHeartbeats 4000000
namespace sx
noncomputable section
open Go Go.RowKit cls syn
variable {x:Nat} {b:By} {G:List Gt}
def QbP (y:Int):Prop:=let a:=([b8 y]:List UInt8);let q1:=([UInt8.ofNat y.toNat]:List UInt8);Iv True/\bx (ag a) 1/\ag a=ag q1/\a=q1/\True
def QbQ (y:(List UInt8)×Int):Prop:=let a:=bC y.1 [b8 y.2];Iv True/\aa [ag y.1] (aa [y.1] (bx (ag a) 1/\ag a=ag (y.1++[UInt8.ofNat y.2.toNat])/\a=(y.1++[UInt8.ofNat y.2.toNat])/\True))
def Qj1 (y:Unit):Prop:=
 (0:Int)=(0:Int)/\
 True
def QbR (y:List UInt8):Prop:=aa [ag y,ag y] (aa [y] (True))
def V0 (y:(List (Int×Int))×bZ):Prop:=let f:=y.1.length;let q1:=ag y.1;let r:=ga y.1 (nn y.2);let s:=gp y.1 (nn y.2);let t:=((cj y.1 (f-y.2.i.toNat) y.2.i.toNat []).1:Int);let C:=λp:Prop=>aa [y.2.i] p;let v:=λp:Prop=>aa [y.1] (aa [bM y.1] p);let A:=λp:Prop=>aa [y.2.i] (aa [y.1] (aa [bM y.1] p));let B:=λp:Prop=>aa [y.2.an,y.2.ae,y.2.aq,y.2.wh] p;let u:Prop:=(y.2.an=((y.2.an.toNat:Nat):Int)/\y.2.ae=((y.2.ae.toNat:Nat):Int)/\aa [y.2.aq,y.2.wh] (True));∃z:Unit,(∃w:Nat,A (y.2.i=(w:Int)/\B ((Iv (sY y w [])))))/\(∀x:Nat,let l:=aw .i64 (x:Int) 1;let d:=(gt (0,0) y.1 (x:Int).toNat).1;let h:=vz .u8 d;let m:=([UInt8.ofNat h.toNat]:List UInt8);let q:=λp:Prop=>aa [y.1] (aa [(x:Int),d] p);let j:Prop:=(Iv True/\aa [(x:Int),(x:Int)] ([]=s/\ay y.2.i (x:Int)=r/\v ((x:Int)=t/\u)));let n:Prop:=(aH 0 (x:Int)/\ay (x:Int) q1/\Iv (F7 h)/\aa [h] (aa [y.1] (aa [(x:Int),d] (((∃b:Nat,y.2.i=y.2.i/\False)\/(∃b:Nat×(List UInt8),y.2.i=y.2.i/\ag m=ag b.2/\m=b.2/\y.1=y.1/\bM y.1=bM y.1/\l=(b.1:Int)/\y.2.an=y.2.an/\y.2.ae=y.2.ae/\y.2.aq=y.2.aq/\y.2.wh=y.2.wh/\Iv ((sY y b.1 b.2/\Ne b.2 [])/\(f-b.1)<(f-x))))))));(Iv (sY y x []))->ak (ay (x:Int) q1) (aH 0 (x:Int)/\ay (x:Int) q1/\ak (aH 48 d) (aH 0 (x:Int)/\ay (x:Int) q1/\aa [(x:Int)] (aa [y.1,y.1] (aa [(x:Int),d] (aa [y.1] (aa [(x:Int),d] (ak (aH d 57) (aH 0 (x:Int)/\ay (x:Int) q1/\ak (ay 48 d) (q (n)) (Iv True/\q (ak (ay 0 0) (n) (((∃b:Nat,y.2.i=y.2.i/\y.1=y.1/\bM y.1=bM y.1/\l=(b:Int)/\y.2.an=y.2.an/\y.2.ae=y.2.ae/\y.2.aq=y.2.aq/\y.2.wh=y.2.wh/\Iv (sY y b []/\(f-b)<(f-x)))\/(∃b:Nat×(List UInt8),y.2.i=y.2.i/\False)))))) (j))))))) (aa [(x:Int)] (aa [y.1,y.1] (aa [(x:Int),d] (j))))) (aa [(x:Int)] (aa [y.1] (j))))/\(∀x:Nat×(List UInt8),let e:=ag x.2;let a:=(x.1:Int);let c:=(gt (0,0) y.1 a.toNat).1;let g:=vz .u8 c;let k:Prop:=(Iv (Ne x.2 [])/\aa [e] (aa [x.2] (aa [a,a] (x.2=s/\ay y.2.i a=r/\v (a=t/\u)))));let o:Prop:=(aH 0 a/\ay a q1/\Iv (x.2.length<=1000000/\F7 g)/\aa [g,e] (aa [x.2] (aa [y.1] (aa [a,c] (((∃b:Nat,y.2.i=y.2.i/\False)\/(∃b:Nat×(List UInt8),y.2.i=y.2.i/\ag (x.2++[UInt8.ofNat g.toNat])=ag b.2/\(x.2++[UInt8.ofNat g.toNat])=b.2/\y.1=y.1/\bM y.1=bM y.1/\aw .i64 a 1=(b.1:Int)/\y.2.an=y.2.an/\y.2.ae=y.2.ae/\y.2.aq=y.2.aq/\y.2.wh=y.2.wh/\Iv ((sY y b.1 b.2/\Ne b.2 [])/\(f-b.1)<(f-x.1)))))))));(Iv (sY y x.1 x.2/\Ne x.2 []))->ak (ay a q1) (aH 0 a/\ay a q1/\ak (aH 48 c) (aH 0 a/\ay a q1/\aa [a] (aa [y.1,y.1] (aa [a,c] (aa [y.1] (aa [a,c] (ak (aH c 57) (aH 0 a/\ay a q1/\ak (ay 48 c) (aa [y.1] (aa [a,c] (o))) (Iv True/\aa [e] (aa [x.2] (aa [y.1] (aa [a,c] (ak (ay 0 e) (o) (((∃b:Nat,y.2.i=y.2.i/\False)\/(∃b:Nat×(List UInt8),y.2.i=y.2.i/\e=ag b.2/\x.2=b.2/\y.1=y.1/\bM y.1=bM y.1/\aw .i64 a 1=(b.1:Int)/\y.2.an=y.2.an/\y.2.ae=y.2.ae/\y.2.aq=y.2.aq/\y.2.wh=y.2.wh/\Iv ((sY y b.1 b.2/\Ne b.2 [])/\(f-b.1)<(f-x.1))))))))))) (k))))))) (aa [a] (aa [y.1,y.1] (aa [a,c] (k))))) (aa [a] (aa [y.1] (k))))
theorem Qj2:Ok Qgi:=by
 refine⟨⟨f238,_,by kernel_rfl,cH (by kernel_rfl)⟩,λy o M A w f c _ R h=>?_⟩;obtain⟨v,rfl,k⟩:=wX f;cases k with
 | ptr d n=>
  obtain⟨_,hs,ht,C,m,g,hl,_⟩:=oN c (b:=0) (cs:=[.ptr 0 0,.own 1 1 (ag y)]) rfl d;obtain⟨p,q,rfl,h0,h1⟩:=DH hl;cases h0 with
  | ptr a j=>
   rw[d] at a;cases a;rw[hs];refine(bld.NZ _ w (by rw[Lib.cell_of_heap g,hs];rfl)).mono λe l ⟨i,hw⟩=>?_
   subst i hw;exact h M _ l (VR.CD .nil) (.refl c 2)
theorem Qj3:Ok XP:=by
 refine⟨⟨f238,_,by kernel_rfl,cH (by kernel_rfl)⟩,λy D M A w p k _ R r=>?_⟩;obtain⟨v,rfl,u⟩:=wX p;cases u with
 | @ptr _ _ x f g=>
  obtain⟨_,hs,ht,C,m,c,hl,d⟩:=oN k (b:=0) (cs:=[.gy,.dd]) rfl f;obtain⟨E,F,rfl,h0,h1⟩:=DH hl;cases h0;cases h1;rw[hs];have a:=d rfl;refine(bld.Iz _ w (by rw[Lib.cell_of_heap c];rfl) (by simp[World.shape?,c]) (by
   simp only[World.frozen?,c];rcases a with h | h
   ·rw[h];simp;try omega
   ·have:=h.1;simp at this ⊢;try omega)).mono λe G ⟨s,hw⟩=>?_
  subst s hw;obtain⟨_,_,j⟩:=ri (o1:=.cells [.ptr 0 0,.dd] 317 false) (q:=0) (vs':=[bld.self x.bV]) (b:=0) k rfl rfl f g c (by grind) (by grind) ω (λ_=>trivial) (λl z H B=>⟨⟨g,hs,ht⟩,l,m,z,by grind,by grind,(λi v e=>by
   rw[hs,Za6,B]
   match i,e with
   | 0,e=>cases e;exact⟨_,rfl,by have:=VR.ptr (o:=0) f g;rw[hs] at this;exact this⟩
   | 1,e=>cases e;exact⟨_,rfl,.dd⟩
   | n+2,e=>cases e),λ_=>ω⟩) 1
  refine r M _ _ (VR.CD .nil) ?_;have e:(λt=>cq (XP.hZ y) t)=iI (λt=>cq (XP.heap y) t) 0 (some (.cells [.ptr 0 0,.dd] 317 false)):=by
   funext t;show cq (RJ 0 (.ptr 0 0)) t=_
   unfold iI RJ;by_cases ht:t=0
   ·subst ht;rfl
   ·rw[Zaa ht,eP,Zaa (λh=>ht h.symm)];show cq [] t=cq (RJ 0 .gy) t
    grind [RJ,eP]
  rw[e];exact j
theorem Ln {M:Pm D} {H:Hp D} {w:World} (i:dQ M H w) {b:Nat} {o:AO D.E} {d:MI} (k:H b=some o) (hw:o.wr) (g:∀j,o.sD d j) (l:M.pl b=some d) (p:d.real) (a:Addr) (G:a.block=d.bV) (n lo:Nat):
  cP H M w (λ_=>none) M (w.drew.freeze a n) lo lo:=by
 have f:∀W:World,(W.freeze a n).os=W.os/\(W.freeze a n).tape=W.tape/\(W.freeze a n).output=W.output/\(W.freeze a n).heap.size=W.heap.size/\∀c,c≠d.bV->(W.freeze a n).heap[c]?=W.heap[c]?:=λW=>by
  grind [World.freeze]
 obtain⟨s,t,u,x,y⟩:=f w.drew;have hk:∀c,c≠d.bV->(w.drew.freeze a n).heap[c]?=w.heap[c]?:=y;refine⟨⟨λb o h=>(nomatch h),λb F o J m I h=>(nomatch h),λc q v h=>?_,λb o m h=>(nomatch h),λb c xs e m h=>(nomatch h),⟨⟨by rw[x];exact i.lM.1.1,D.gst _ _ (λc z=>hk c ?_) i.lM.1.2⟩,λb o m h=>(nomatch h)⟩⟩,λ_ _=>rfl,λ_ _ _ h=>h,λ_ _ h=>.inl h,by simp_all,λc z A=>hk c ?_,λb o m h=>(nomatch h),λb h=>absurd rfl h,s,t,u,Zah _⟩
 ·obtain⟨B,C,r,e2⟩:=i.gj c q v h;refine⟨B,C,?_,e2⟩;rw[<-r];exact fN (hk c λe=>by
   have:=i.sep b o d k hw l p q (g q);rw[<-e,h] at this;cases this)
 ·have:=i.lM.2 b o d k hw l p;omega
 ·exact λe=>A ⟨b,o,d,k,hw,l,p,e.symm⟩
theorem Qj4:Ok Qgj:=by
 refine⟨⟨f229,_,by kernel_rfl,cH (by kernel_rfl)⟩,λy n M A w f a _ R h=>?_⟩;obtain⟨v,rfl,l⟩:=wX f;cases l with
 | @ptr _ _ m c k=>
  obtain⟨_,hs,ht,C,d,g,hl,j⟩:=oN a (b:=0) (cs:=[.gy,.dd]) rfl c;obtain⟨o,p,rfl,h0,h1⟩:=DH hl;cases h0;cases h1;rw[hs];refine(bld.QrC _ _ d w g).mono λe q ⟨i,hw⟩=>?_
  subst i hw;have:=Ln a (b:=0) rfl rfl (λ_=>trivial) c k ⟨m.bV,0,none⟩ rfl 0 1;exact h M (.string ⟨⟨[]⟩⟩) _ (.str (Zaj _)) this
theorem Qj5:Ok Qgk:=by
 refine⟨⟨f229,_,by kernel_rfl,cH (by kernel_rfl)⟩,λy n M A w q h _ R r=>?_⟩;obtain⟨v,rfl,E⟩:=wX q;cases E with
 | @ptr _ _ I B H=>
  obtain⟨_,hs,ht,C,p,m,hl,t⟩:=oN h (b:=0) (cs:=[.ptr 0 0,.own 1 1 (ag y)]) rfl B;obtain⟨J,K,rfl,h0,h1⟩:=DH hl;obtain⟨a,d,c,f,i⟩:=h.obj 1 (.arr 0 y 5 false) rfl;have z:ag y=(y.length:Int):=av y;cases h1 with
  | own g1 g2 g3 g4 g5 g6 g7=>
   rw[d] at g1;cases g1;obtain⟨o,g,k1,k2,k3,k4,k5⟩:=i g3;replace c:a.len=y.length:=c;replace f:a.iN=1:=f;rw[c] at m g5 g6;rw[hs];have k:=a_ gE 0 y;rw[show D.size 0=1 from rfl,Zb8] at k;have G:a.sh+y.length<=a.p_:=by grind
   refine(bld.QrB _ _ _ _ _ y o p g w n m k1 ω g6 g5 (λj x F=>?_)).mono λe N ⟨s,hw⟩=>?_
   ·obtain⟨u,rfl⟩:=Zam.1 F;have e:=fw gE 0 y j 0 u (by decide);obtain⟨L,l,a2⟩:=k4 (j*D.size 0+0) _ e;obtain rfl:=fk a2;have:(⟨a.bV,a.sh,none⟩:Addr).add j=⟨a.bV,a.sh+j,none⟩:=by
     grind [Addr.add]
    rw[this,Lib.cell_of_heap k1];have e2:a.sh+(j*D.size 0+0)=a.sh+j:=by show a.sh+(j*1+0)=_;omega
    rw[e2] at l;exact l
   ·subst s hw;have:=Ln h (b:=1) rfl rfl (λ_=>trivial) d g3 ⟨a.bV,a.sh,none⟩ rfl y.length 2;exact r M (.string ⟨⟨y⟩⟩) _ (.str g5) this
  | lE g1 g2 g3 g4 g5=>exact absurd (Zap ω) n
theorem Qj6:Ok XQ:=okZ (V:=QbP) [XP] f228 (λ_=>⟨[],[2],[],[],1,[]⟩) Qj3 λy a=>by
 unfold QbP;simp only[lf,Zal,av];exact⟨bm.2 (by grind),rfl,rfl,trivial⟩
theorem Qj7:Ok XR:=okZ (V:=QbQ) [Qgi] f228 (λ_=>ew ()) Qj2 λy a=>by
 unfold QbQ;simp only[bH,av,a7];obtain⟨h1,b⟩:y.1.length<=1000000/\F7 y.2:=a;refine⟨bm.2 ?_,rfl,rfl⟩;grind
def Qj8:Ok XS:=okZ (V:=Qj1) [] f227 (λ_=>ew ()) trivial λy a=>⟨rfl,trivial⟩
theorem Qj9:Ok XT:=okZ (V:=QbR) [] f227 (λ_=>ew ()) trivial λy a=>by
 grind [QbR]
theorem IA {i:Nat} (h:¬(i<G.length/\48<=aJ G i/\aJ G i<=57)):cj G x i b=(i,b):=by
 rcases x with _ | x
 ·rfl
 ·grind [cj]
theorem V1 (h:x<G.length/\48<=aJ G x/\aJ G x<=57):cj G (G.length-x) x b=cj G (G.length-(x+1)) (x+1) (if 48<aJ G x\/b≠[] then b++[UInt8.ofNat (aJ G x).toNat] else b):=by
 obtain⟨m,a⟩:∃m,G.length-x=m+1:=⟨G.length-x-1,ω⟩;grind [cj]
def mK {y:PS} (a:bs y) (l:sY y x b) (h:¬(x<y.1.length/\48<=aJ y.1 x/\aJ y.1 x<=57)):
  b=gp y.1 (nn y.2)/\ay y.2.i x=ga y.1 (nn y.2)/\(x:Int)=((cj y.1 (y.1.length-y.2.i.toNat) y.2.i.toNat []).1:Nat)/\y.2.an=(y.2.an.toNat:Nat)/\y.2.ae=(y.2.ae.toNat:Nat):=by
 have e:=l.2.2.2;rw[IA h] at e;obtain⟨c,a2,a3,a4,_⟩:=a;refine⟨?_,?_,?_,ω,ω⟩
 ·show b=(cj y.1 (y.1.length-(nn y.2).i) (nn y.2).i []).2
  rw[<-e]
 ·show _=decide ((nn y.2).i<(cj y.1 (y.1.length-(nn y.2).i) (nn y.2).i []).1)
  rw[<-e];apply ZaG.2;rw[gk,ZbP];show y.2.i<x↔y.2.i.toNat<x
  omega
 ·show(x:Int)=((cj y.1 (y.1.length-(nn y.2).i) (nn y.2).i []).1:Nat)
  rw[<-e]
theorem V2 {y:PS} (a:bs y) (l:sY y x b) (h:x<y.1.length/\48<=aJ y.1 x/\aJ y.1 x<=57):
  aw .i64 (x:Int) 1=((x+1:Nat):Int)/\vz .u8 (aJ y.1 x)=aJ y.1 x/\F7 (aJ y.1 x)/\sY y (x+1) (if 48<aJ y.1 x\/b≠[] then b++[UInt8.ofNat (aJ y.1 x).toNat] else b)/\y.1.length-(x+1)<y.1.length-x:=by
 obtain⟨q1,e,f,c⟩:=l;have d:=a.1;refine⟨ba ω ω,dw (cE.2 ⟨by show(0:Int)<=_;omega,by show _<=(255:Int);omega⟩),⟨ω,ω⟩,⟨ω,ω,?_,by rw[<-c,V1 h]⟩,ω⟩;grind
theorem QrD:∀y,w_.pre y->V0 y:=λy j=>by
 unfold V0;simp only[bI,bH,av,cS,Zad,ZaX,ZaY,ZaZ,Zdt,Zdv,Zd2];obtain⟨b,-⟩:=j;replace b:bs y:=b;obtain⟨k,a2,-⟩:=id b;simp only[show ∀x:Nat,(y.1.getD x (0,0)).1=aJ y.1 x from λ_=>rfl];refine⟨⟨(nn y.2).i,by show y.2.i=(y.2.i.toNat:Int);omega,Zah _,by show y.2.i.toNat<=_;omega,Zaj _,rfl⟩,λx a=>?_,λx a=>?_⟩
 ·refine⟨λh1=>⟨ω,h1,λd=>⟨ω,h1,λe=>⟨ω,h1,?_⟩,λe=>mK b a λh=>?_⟩,λd=>mK b a λh=>?_⟩,λh1=>mK b a λh=>?_⟩
  ·obtain⟨g1,g2,g3,g4,g5⟩:=V2 b a ⟨ω,d,e⟩;rw[g2];refine⟨λf=>⟨ω,h1,g3,⟨(x+1,[UInt8.ofNat (aJ y.1 x).toNat]),rfl,rfl,g1,⟨?_,by simp⟩,g5⟩⟩,λf=>⟨λh=>absurd h (by decide),λ_=>⟨x+1,g1,?_,g5⟩⟩⟩
   ·grind
   ·grind
  all_goals omega
 ·obtain⟨i,l⟩:=x;obtain⟨a,hl⟩:=a;refine⟨λh1=>⟨ω,h1,λd=>⟨ω,h1,λe=>⟨ω,h1,?_⟩,λe=>⟨hl,mK b a λh=>?_⟩⟩,λd=>⟨hl,mK b a λh=>?_⟩⟩,λh1=>⟨hl,mK b a λh=>?_⟩⟩
  ·obtain⟨g1,g2,g3,g4,g5⟩:=V2 b a ⟨ω,d,e⟩;simp only at g2 hl ⊢;rw[g2];rw[Zac (.inr hl)] at g4;have o:l.length<=1000000:=by have m:l.length<=i:=a.2.2.1;have n:i<=y.1.length:=a.2.1;omega
   have g:∃c:Nat×By,((l++[UInt8.ofNat (aJ y.1 i).toNat]).length:Int)=(c.2.length:Int)/\l++[UInt8.ofNat (aJ y.1 i).toNat]=c.2/\aw .i64 (i:Int) 1=(c.1:Int)/\(sY y c.1 c.2/\c.2≠[])/\y.1.length-c.1<y.1.length-i:=
    ⟨(i+1,_),rfl,rfl,g1,⟨g4,by simp⟩,g5⟩
   grind [List.length_pos_iff]
  all_goals omega
def Qka:Ok w_:=okZ [XS,XT,XQ,XR,Qgj,Qgk] f202 Qmw ⟨Qj8,Qj9,Qj6,Qj7,Qj4,Qj5⟩ QrD
end
end sx
namespace join
open Go Go.ChangeShapes Go.WideShapes Go.ChangeAt Go.RowKit
def p1 (P:Program) (_f:FuncId) (a:Func) (s:ChangeSpec) (c:OpenClaim):Bool:=(c.wf (OpenSpec.ofChange s)&&laidOutB P&&mapsRowed P)
def p2 (P:Program) (_f:FuncId) (fn:Func) (s:ChangeSpec) (c:OpenClaim):Bool:=(fn.params.all (P.readableRec ·)&&namedTie P c.named s.vars&&(c.stops==[])&&(P.stops==[])&&(c.knobs==[])&&(P.stopKnobs==[]))
def p3 (P:Program) (f:FuncId) (a:Func) (b:ChangeSpec) (c:OpenClaim):Bool:=(c.inPlace==P.inPlace f)
def p4 (P:Program) (f:FuncId) (a:Func) (b:ChangeSpec) (c:OpenClaim):Bool:=(c.unfollowed==P.unfollowed f)
def p5 (P:Program) (f:FuncId) (a:Func) (b:ChangeSpec) (c:OpenClaim):Bool:=(c.recurses==P.recurses f)
def p6 (P:Program) (f:FuncId) (a:Func) (b:ChangeSpec) (c:OpenClaim):Bool:=(c.named==P.varsNamed f)
def p7 (P:Program) (_f:FuncId) (fn:Func) (s:ChangeSpec) (c:OpenClaim):Bool:=((c.maps==(fn.params.toList++s.plain.varTypes P).any (P.mapsRec ·))&&(c.ifaces==(fn.params.toList++s.plain.varTypes P).any (P.ifacesRec ·))&&(c.mapsOut==P.mapsAmong fn.resultTypes.toList)&&(c.loops==(fn.params.toList++s.plain.varTypes P).any (P.loopsFrom ·))&&(c.wideKeys==(fn.params.toList++s.plain.varTypes P++fn.resultTypes.toList).any (P.wideKeysFrom ·))&&s.vars.all (P.varReadable ·)&&fn.resultTypes.all (λt=>P.readableRec t&&decide (t<P.types.size))&&(c.ifacesOut==fn.resultTypes.toList.any (P.ifacesRec ·))&&(c.loopsOut==fn.resultTypes.toList.any (P.loopsFrom ·)))
def p8 (P:Program) (_f:FuncId) (a:Func) (b:ChangeSpec) (c:OpenClaim):Bool:=(c.plainKeys==P.plainKeys)
def p9 (P:Program) (_f:FuncId) (a:Func) (b:ChangeSpec) (c:OpenClaim):Bool:=(c.shortTexts.isNone&&P.stopsHeard&&P.mayEnter)
def p10 (P:Program) (_f:FuncId) (a:Func) (b:ChangeSpec) (c:OpenClaim):Bool:=(c.lifted==P.liftsFinal)
def p11 (P:Program) (_f:FuncId) (fn:Func) (a:ChangeSpec) (c:OpenClaim):Bool:=((P.make==some c.make)&&(c.kinds==(if c.domain.isEmpty then[] else fn.params.toList.map λt=>match P.underlying t with | some (.int k)=>some k | _=>none))&&(c.pinned==c.pinnedBy))
def p12 (P:Program) (_f:FuncId) (fn:Func) (s:ChangeSpec) (c:OpenClaim):Bool:=((c.veiled==(fn.params.toList++s.plain.varTypes P++fn.resultTypes.toList).any (P.veiledRec ·))&&c.veiledFits P fn.params.toList (fn.params.toList++s.plain.varTypes P++fn.resultTypes.toList))
def facts {P:Program} {f:FuncId} {fn:Func} {s:ChangeSpec} {c:OpenClaim} (h1:p1 P f fn s c) (e:p2 P f fn s c) (i:p3 P f fn s c) (j:p4 P f fn s c) (k:p5 P f fn s c) (l:p6 P f fn s c) (b:p7 P f fn s c) (m:p8 P f fn s c) (h:p9 P f fn s c) (g:p10 P f fn s c) (a:p11 P f fn s c) (d:p12 P f fn s c):joinedFacts P f fn s c:=by
 unfold p1 at h1;unfold p2 at e;unfold p3 at i;unfold p4 at j;unfold p5 at k;unfold p6 at l;unfold p7 at b;unfold p8 at m;unfold p9 at h;unfold p10 at g;unfold p11 at a;unfold p12 at d;unfold joinedFacts;simp only[ZaW,Zdc] at h1 e b h a d ⊢;exact⟨h1.1,h1.2.1,h1.2.2,e.1,e.2.1,e.2.2.1,e.2.2.2.1,e.2.2.2.2.1,e.2.2.2.2.2,i,j,k,l,b.1,b.2.1,b.2.2.1,b.2.2.2.1,b.2.2.2.2.1,b.2.2.2.2.2.1,b.2.2.2.2.2.2.1,b.2.2.2.2.2.2.2.1,b.2.2.2.2.2.2.2.2,m,h.1,h.2.1,h.2.2,g,a.1,a.2.1,a.2.2,d.1,d.2⟩
end join
end Go.Proofs.YtklaonhcplaofaaGreat
