/- PointAny: a part of the proof. -/
import Derived.Test.YtiiiphndmbabcaaGreatC6
set_option linter.all false
namespace Go.Proofs.YtiiiphndmbabcaaGreat
open Go.Proofs.Tryz
set_option maxRecDepth 100000
set_option maxHeartbeats 4000000
namespace sx
noncomputable section
open Go Go.RowKit cls syn
variable {G:List Gt}
theorem NY (c:∀g∈G,1<=g.2/\g.2<=4) {i j:Nat} (hi:i<=G.length) (e:j<=G.length) (h:aI G i=aI G j):i=j:=by
 have step:∀d k,k+d<=G.length->aI G k+d<=aI G (k+d):=λd=>by
  induction d with
  | zero=>intro k _;simp
  | succ d b=>
   intro k hk;have:=b k ω;grind [ik]
 rcases Zcs i j with a | a | a
 ·have:=step (j-i) i ω;rw[show i+(j-i)=j by omega] at this;omega
 ·exact a
 ·have:=step (i-j) j ω;rw[show j+(i-j)=i by omega] at this;omega
theorem EL (a:∀g∈G,1<=g.2/\g.2<=4) {i:Nat} (hi:i<=G.length):ix G (aI G i)=i:=by
 have h:∃j,j<=G.length/\aI G j=aI G i:=⟨i,hi,rfl⟩;unfold ix;grind [NY]
theorem Ld {a:Int} (h:yu G a):aI G (ix G a)=a:=by
 have⟨i,h1,b⟩:=h;have h:∃j,j<=G.length/\aI G j=a:=⟨i,h1,b.symm⟩;unfold ix;grind
theorem wrE (G:List Gt) (s:Ps) (f:Nat) (e:Int):(s.ax G f e).an=cy (aB s.an 0) e s.an:=by
 grind [Ps.ax,cy]
theorem wrW (G:List Gt) (s:Ps) (f:Nat) (e:Int):(s.ax G f e).wh=cy (aB s.an 0) (aI G f) s.wh:=by
 grind [Ps.ax,cy]
structure QF (p:QL) (i g:Nat):Prop where
 q:Cw p
 i:i<=100000
 g:g<=4
 hl:(gq p).length=p.1.length
 len:p.1.length<=1000
variable {p:QL} {i:Nat}
variable {g:Nat}
def fw.out {s:b7} (h:fw (p,s)):∃(i g:Nat),s=⟨i,0,g,s.an,s.wh⟩/\QF p i g:=by
 obtain⟨h1,f,j,k⟩:Cw p/\(0<=s.i/\s.i<=100000)/\s.ak=0/\0<=s.ab/\s.ab<=4:=h;have⟨i,hi⟩:=Zau f.1;have⟨g,l⟩:=Zau k.1;have⟨a,b,c,d,e⟩:=s;simp only at*
 subst hi l j;exact⟨i,g,rfl,h1,ω,ω,yq p,h1.len⟩
def QF.ok (h:QF p i g) (e w:Int):fw (p,⟨i,0,g,e,w⟩):=⟨h.q,⟨ZaF _,by have:=h.i;show(i:Int)<=_;omega⟩,rfl,ZaF _,by have:=h.g;show(g:Int)<=_;omega⟩
def QF.to (h:QF p i g) {s t:Ps} {k:Nat} (r:RB (gq p) k s t) (hk:k<=50000):QF p t.i t.ab:=⟨h.q,by have:=r.len;have:=h.hl;have:=h.len;omega,r.gm,h.hl,h.len⟩
def ez0 (a c:Nat) (e w:Int):nn ⟨a,0,c,e,w⟩=⟨a,0,c,e,w⟩:=rfl
def Io {α β:Type} (p:α×β):(p.1,p.2)=p:=rfl
theorem bK {n:Nat} (h:n<=1000000):ay .i64 (n:Int) 1=((n+1:Nat):Int):=K_ h
theorem Qqc (y:QS×Int) (u:Ii.pre y):Ug y:=by
 have⟨⟨p,s⟩,a⟩:=y;obtain⟨h0,h1,m⟩:fw (p,s)/\s.i<=p.1.length/\yu (gq p) a:=u;have⟨i,g,es,f⟩:=h0.out;have⟨_,_,_,e,w⟩:=s;cases es;simp only at h1;have t:=Ld m;have hl:=f.hl;have hlen:=f.len;have ok:=λj (o:j<=100000)=>(⟨f.q,o,f.g,hl,hlen⟩:QF p j g).ok e w
 have l:tL ((p,⟨i,0,g,e,w⟩),a)=sf (gq p) ⟨i,0,g,e,w⟩ (ix (gq p) a):=rfl;unfold Ug;simp only[bL,bC,au,dq,Zad,Zan,Zao,bK (n:=i) ω,Int.ofNat_le,Zd0];rw[l];unfold sf;have wr:∀(j c:Nat) (b:Int),b=aI (gq p) c->((j:Int)=((Ps.ax (gq p) ⟨j,0,g,e,w⟩ c 4).i:Nat)/\(g:Int)=((Ps.ax (gq p) ⟨j,0,g,e,w⟩ c 4).ab:Nat)/\cy (aB e 0) 4 e=(Ps.ax (gq p) ⟨j,0,g,e,w⟩ c 4).an/\cy (aB e 0) b w=(Ps.ax (gq p) ⟨j,0,g,e,w⟩ c 4).wh):=λj c b d=>by
  rw[wrE,wrW,<-d];simp
 refine⟨λk=>?_,λk=>⟨ZaF _,k,λk1=>?_,λk1=>?_⟩⟩
 ·grind
 ·have v:=f.q.p0 i;rcases f.q.rune (i:=i) ω with⟨_,h⟩ | ⟨d,_⟩
  ·omega
  ·grind
 ·rcases f.q.rune (i:=i) ω with⟨d,h⟩ | ⟨_,h,_⟩
  ·rw[Zaa (by grind),Zaa (by grind)];dsimp only;rw[h];generalize aK (gq p) i=r;refine⟨λk2=>by simp_all,λk2=>?_⟩;rw[Zaa k2];refine⟨λk2=>by simp_all,λk2=>?_⟩;rw[Zaa k2];refine⟨λk2=>by simp_all,λk2=>?_⟩;rw[Zaa k2];refine⟨λk2=>by simp_all,λk2=>?_⟩;rw[Zaa k2];refine⟨λk2=>by simp_all,λk2=>?_⟩;rw[Zaa k2];refine⟨λk2=>by simp_all,λk2=>?_⟩;rw[Zaa k2];refine⟨λk2=>?_,λk2=>?_⟩
   ·rw[Zaa (by grind)];exact⟨(ok (i+1) ω),rfl,wr (i+1) _ a t.symm⟩
   ·simp_all
  ·omega
def Qco (h:Ok lW):Ok Ii:=okZ [sF,zJ,lW,TP] f281 (λ_=>dY ()) ⟨uL,EJ,h,Qjb⟩ Qqc
theorem EM (G:List Gt) (j g a:Nat) (e w er b:Int) (c:b=aI G a):(j:Int)=((Ps.ax G ⟨j,0,g,e,w⟩ a er).i:Nat)/\(g:Int)=((Ps.ax G ⟨j,0,g,e,w⟩ a er).ab:Nat)/\cy (aB e 0) er e=(Ps.ax G ⟨j,0,g,e,w⟩ a er).an/\cy (aB e 0) b w=(Ps.ax G ⟨j,0,g,e,w⟩ a er).wh:=by
 rw[wrE,wrW,<-c];simp
theorem Qqd (y:QS) (l:Ud.pre y):Uh y:=by
 have⟨p,s⟩:=y;obtain⟨h0,h1⟩:fw (p,s)/\s.i<p.1.length:=l;have⟨i,g,es,f⟩:=h0.out;have⟨_,_,_,e,w⟩:=s;cases es;simp only at h1;have hl:=f.hl;have hlen:=f.len;have ok:=λj (d:j<=100000)=>(⟨f.q,d,f.g,hl,hlen⟩:QF p j g).ok e w
 have c:zK (p,⟨i,0,g,e,w⟩)=fk (gq p) ⟨i,0,g,e,w⟩:=rfl;have b:tL ((p,⟨((i+1:Nat):Int),0,g,e,w⟩),aI (gq p) i)=sf (gq p) ⟨i+1,0,g,e,w⟩ i:=by
  unfold tL;rw[EL f.q.n ω];rfl
 unfold Uh;simp only[bL,bC,au,dq,Zad,bK (n:=i) ω,Zd0];rw[b,c];unfold fk;refine⟨⟨ok i f.i,ω⟩,ZaF _,ω,?_⟩;rcases f.q.rune (i:=i) ω with⟨a,h⟩ | ⟨a,h,_⟩
 ·rw[Zaa (by grind)];dsimp only;rw[h];have m:=f.q.p0 i;generalize aK (gq p) i=r at*
  refine⟨λk=>?_,λk=>?_⟩
  ·rw[Zac k];exact⟨⟨ok (i+1) ω,by assumption,i,by grind,rfl⟩,rfl,rfl,rfl,rfl,rfl⟩
  ·rw[Zaa k];have A:(r=91\/r=45)->fw (p,⟨((i+1:Nat):Int),0,g,e,w⟩)/\[]=(if r=91\/r=45 then((Ps.next ⟨i,0,g,e,w⟩).ax (gq p) i 4,[]) else(Ps.next ⟨i,0,g,e,w⟩,[(r,r)]):Ps×List Rg).2/\((i+1:Nat):Int)=((if r=91\/r=45 then((Ps.next ⟨i,0,g,e,w⟩).ax (gq p) i 4,[]) else(Ps.next ⟨i,0,g,e,w⟩,[(r,r)]):Ps×List Rg).1.i:Nat)/\(g:Int)=((if r=91\/r=45 then((Ps.next ⟨i,0,g,e,w⟩).ax (gq p) i 4,[]) else(Ps.next ⟨i,0,g,e,w⟩,[(r,r)]):Ps×List Rg).1.ab:Nat)/\cy (aB e 0) 4 e=(if r=91\/r=45 then((Ps.next ⟨i,0,g,e,w⟩).ax (gq p) i 4,[]) else(Ps.next ⟨i,0,g,e,w⟩,[(r,r)]):Ps×List Rg).1.an/\cy (aB e 0) (aI (gq p) i) w=(if r=91\/r=45 then((Ps.next ⟨i,0,g,e,w⟩).ax (gq p) i 4,[]) else(Ps.next ⟨i,0,g,e,w⟩,[(r,r)]):Ps×List Rg).1.wh:=λh=>by
    rw[Zac h];exact⟨ok (i+1) ω,rfl,EM (gq p) (i+1) g i e w 4 _ rfl⟩
   grind [Ps.next]
 ·rw[Zac (a),h];refine⟨λk=>ω,λ_=>⟨λk=>ω,λ_=>⟨λk=>ω,λ_=>⟨λ_=>?_,λk=>absurd rfl k⟩⟩⟩⟩;exact⟨ok (i+1) ω,rfl,EM (gq p) (i+1) g i e w 4 _ rfl⟩
def Qjj (h:Ok lW):Ok Ud:=okZ [zJ,Ii,sF] f301 (λ_=>dY ()) ⟨EJ,Qco h,uL⟩ Qqd
theorem Qqe (y:QS×Int) (c:NX.pre y):Ui y:=by
 have⟨⟨p,s⟩,a⟩:=y;obtain⟨h0,h1,b⟩:fw (p,s)/\s.i<=90000/\yu (gq p) a:=c;have⟨i,g,es,f⟩:=h0.out;have⟨_,_,_,e,w⟩:=s;cases es;simp only at h1;have d:=Ld b;unfold Ui;simp only[bC,oo,oq,bK (n:=i) ω,Zan,Zao];have ok:=f.ok e w;have c1:∀x:Int,x=41->(0:Int)<=41/\(41:Int)<=127:=λ_ _=>by decide
 have en:nn ⟨↑i,0,↑g,e,w⟩=⟨i,0,g,e,w⟩:=rfl;rw[en];have st:¬(e=0/\bb (gq p) ⟨i,0,g,e,w⟩ 41=false)->(((i+1:Nat):Int)=(((if e=0/\bb (gq p) ⟨i,0,g,e,w⟩ 41=false then Ps.ax (gq p) ⟨i,0,g,e,w⟩ (ix (gq p) a) 4 else⟨i,0,g,e,w⟩:Ps).i+1:Nat):Int))/\↑g=((if e=0/\bb (gq p) ⟨i,0,g,e,w⟩ 41=false then Ps.ax (gq p) ⟨i,0,g,e,w⟩ (ix (gq p) a) 4 else⟨i,0,g,e,w⟩:Ps).ab:Nat)/\e=(if e=0/\bb (gq p) ⟨i,0,g,e,w⟩ 41=false then Ps.ax (gq p) ⟨i,0,g,e,w⟩ (ix (gq p) a) 4 else⟨i,0,g,e,w⟩:Ps).an/\w=(if e=0/\bb (gq p) ⟨i,0,g,e,w⟩ 41=false then Ps.ax (gq p) ⟨i,0,g,e,w⟩ (ix (gq p) a) 4 else⟨i,0,g,e,w⟩:Ps).wh:=λh=>by grind
 grind [EM]
def Qjk:Ok NX:=okZ [rv,sF] f300 (λ_=>dY ()) ⟨yr,uL⟩ Qqe
theorem Qjl (y:QS) (N:Ij.pre y):Uj y:=by
 have⟨p,s⟩:=y;obtain⟨h0,h1⟩:fw (p,s)/\s.i<p.1.length:=N;have⟨i,g,es,f⟩:=h0.out;have⟨_,_,_,e,w⟩:=s;cases es;simp only at h1;have hl:=f.hl;have hlen:=f.len;have hi:i<(gq p).length:=ω;obtain⟨d,E⟩:∃d,ct (gq p) ((gq p).length-(i+1)) (i+1) []=d:=⟨_,rfl⟩;have D:dv (gq p) ⟨i+1,0,g,e,w⟩=⟨d.1,0,g,e,w⟩:=by rw[<-E];rfl
 have P:RB (gq p) 0 ⟨i,0,g,e,w⟩ ⟨i,0,g,e,w⟩:=RB.refl (by grind) f.g;have G:RB (gq p) 0 ⟨i,0,g,e,w⟩ ⟨d.1,0,g,e,w⟩:=by rw[<-D];exact wa (P.pz hi)
 obtain⟨ok,c⟩:∃ok,gJ (gq p) ⟨i+1,0,g,e,w⟩=ok:=⟨_,rfl⟩;obtain⟨m,A⟩:∃m,gU (gq p) ⟨i+1,0,g,e,w⟩=m:=⟨_,rfl⟩;have gm:k_ m:=by grind [qk]
 have u:nT (p,⟨i,0,g,e,w⟩)=if ok/\bb (gq p) ⟨d.1,0,g,e,w⟩ 44=true then(dv (gq p) ⟨d.1+1,0,g,e,w⟩,gU (gq p) ⟨d.1+1,0,g,e,w⟩,!gJ (gq p) ⟨d.1+1,0,g,e,w⟩) else(⟨d.1,0,g,e,w⟩,m,false):=by
  rw[<-c,<-A];unfold nT;rw[aC];have r:dv (gq (p,(⟨i,0,g,e,w⟩:b7)).1) (nn (p,(⟨i,0,g,e,w⟩:b7)).2).next=⟨d.1,0,g,e,w⟩:=D;rw[r];rfl
 obtain⟨j,n,op,l,C,J⟩:∃j n op,nT (p,⟨i,0,g,e,w⟩)=(⟨j,0,g,e,w⟩,n,op)/\RB (gq p) 0 ⟨i,0,g,e,w⟩ ⟨j,0,g,e,w⟩/\k_ n:=by
  rw[u];split
  ·rename_i L
   exact⟨_,_,_,rfl,wa (G.pz (da L.2)),qk _ _⟩
  ·grind
 have v:gW (p,⟨i,0,g,e,w⟩)=if ok=false\/bb (gq p) ⟨j,0,g,e,w⟩ 125=false\/(op=false/\iy n m) then Ps.ax (gq p) ⟨j,0,g,e,w⟩ i 4 else⟨j,0,g,e,w⟩:=by
  unfold gW;rw[aC,l,<-c,<-A];rfl
 have H:CA (p,⟨i,0,g,e,w⟩)=if op then(-1,true) else eF n:=by
  unfold CA;rw[aC,l]
 have I:rz (p,⟨i,0,g,e,w⟩)=(if (eF m).2=false\/(CA (p,⟨i,0,g,e,w⟩)).2=false then(gW (p,⟨i,0,g,e,w⟩)).next.ax (gq p) i 2 else(gW (p,⟨i,0,g,e,w⟩)).next,(eF m).1,(CA (p,⟨i,0,g,e,w⟩)).1):=by
  have r:ey (gq p) ⟨i,0,g,e,w⟩=jF (gq p) i (nT (p,⟨i,0,g,e,w⟩)).1 m (nT (p,⟨i,0,g,e,w⟩)).2.1 ok (nT (p,⟨i,0,g,e,w⟩)).2.2:=by
   grind [ey,Ps.next]
  unfold rz;rw[aC];refine r.trans ?_;rw[l,v,H];rfl
 have Q:RB (gq p) 0 ⟨i,0,g,e,w⟩ (gW (p,⟨i,0,g,e,w⟩)):=by
  rw[v];split
  ·exact C.ax _ _
  ·exact C
 have R:(gW (p,⟨i,0,g,e,w⟩)).ab=g:=by rw[v];split<;>simp
 have o:=λ(x:Nat) (M:x<=100000)=>(⟨f.q,M,f.g,hl,hlen⟩:QF p x g).ok e w
 have O:=C.len;have dl:=G.len;have V:=Q.len;simp only at O dl;unfold Uj;simp only[bC,oo,oq,bK (n:=i) ω,Zad,Zan,Zao,ZaX,ZaY,ZaZ,ez2,ez0,Io,E,c,A];have T:ok->bb (gq p) ⟨d.1,0,g,e,w⟩ 44->gU (gq p) ⟨d.1+1,0,g,e,w⟩=n/\(!gJ (gq p) ⟨d.1+1,0,g,e,w⟩)=op/\(ct (gq p) ((gq p).length-(d.1+1)) (d.1+1) []).1=j:=λa b=>by
  rw[Zac ⟨a,b⟩,l] at u;injection u with h1 z
  injection z with z K
  exact⟨z.symm,K.symm,(ZaR Ps.i h1).symm⟩
 have U:¬(ok/\bb (gq p) ⟨d.1,0,g,e,w⟩ 44)->m=n/\false=op/\d.1=j:=λa=>by
  grind
 simp only[l,bK (n:=d.1) ω,ez0,and_self];refine⟨⟨(f.ok e w),ω⟩,o _ ω,⟨λk=>⟨⟨o _ ω,by decide,by decide⟩,λk1=>⟨?_,?_⟩,λk1=>?_⟩,λk=>?_⟩,?_,?_⟩
 ·grind
 ·grind
 ·grind
 ·grind
 ·have S:(ok=false\/bb (gq p) ⟨j,0,g,e,w⟩ 125=false\/(op=false/\iy n m))->fw (p,⟨j,0,g,e,w⟩)/\↑j=((gW (p,⟨i,0,g,e,w⟩)).i:Nat)/\↑g=((gW (p,⟨i,0,g,e,w⟩)).ab:Nat)/\cy (aB e 0) 4 e=(gW (p,⟨i,0,g,e,w⟩)).an/\cy (aB e 0) (aI (gq p) i) w=(gW (p,⟨i,0,g,e,w⟩)).wh:=λh=>by
   grind [EM]
  grind
 ·refine⟨gm,J,⟨λk=>?_,λk=>?_⟩,?_⟩
  ·grind
  ·grind
  ·have F:fw (p,⟨(((gW (p,⟨i,0,g,e,w⟩)).i+1:Nat):Int),0,((gW (p,⟨i,0,g,e,w⟩)).ab:Nat),(gW (p,⟨i,0,g,e,w⟩)).an,(gW (p,⟨i,0,g,e,w⟩)).wh⟩):=(⟨f.q,ω,by rw[R];exact f.g,hl,hlen⟩:QF p _ _).ok _ _;rw[bK ω,I];generalize gW (p,⟨i,0,g,e,w⟩)=t at*
   generalize CA (p,⟨i,0,g,e,w⟩)=h at*
   have B:(eF m).2=false\/h.2=false->(if (eF m).2=false\/h.2=false then t.next.ax (gq p) i 2 else t.next)=t.next.ax (gq p) i 2:=λk=>Zac k
   have bad:(eF m).2=false\/h.2=false->((t.i+1:Nat):Int)=((if (eF m).2=false\/h.2=false then t.next.ax (gq p) i 2 else t.next:Ps).i:Nat)/\(t.ab:Int)=((if (eF m).2=false\/h.2=false then t.next.ax (gq p) i 2 else t.next:Ps).ab:Nat)/\cy (aB t.an 0) 2 t.an=(if (eF m).2=false\/h.2=false then t.next.ax (gq p) i 2 else t.next:Ps).an/\cy (aB t.an 0) (aI (gq p) i) t.wh=(if (eF m).2=false\/h.2=false then t.next.ax (gq p) i 2 else t.next:Ps).wh:=λk=>by
    rw[B k,wrE,wrW];exact⟨by rw[Yl];rfl,by rw[Ci];rfl,rfl,rfl⟩
   refine⟨λk=>⟨F,rfl,rfl,bad (.inl k)⟩,λk=>⟨λk1=>⟨F,rfl,rfl,bad (.inr k1)⟩,λk1=>?_⟩⟩;rw[Zaa (by grind)];exact⟨rfl,rfl,rfl,rfl,rfl,rfl⟩
def Qjm:Ok Ij:=okZ [zJ,NT,rv,TR,sF,NS] f255 Qp8 ⟨EJ,Qjg,yr,Qje,uL,Qjf⟩ Qjl
def Lg (p:QL) (i g:Nat) (e w:Int):zK (p,⟨i,0,g,e,w⟩)=fk (gq p) ⟨i,0,g,e,w⟩:=rfl
theorem nU {l:List Rg} (h:dk l):l.length=1:=by
 grind [dk]
theorem Qqf (y:QS×Int) (hy:Il.pre y):Uk y:=by
 have⟨⟨p,s⟩,a0⟩:=y;obtain⟨h0,h1,h2⟩:fw (p,s)/\s.i<=p.1.length/\yu (gq p) a0:=hy;have⟨i,g,es,f⟩:=h0.out;have⟨_,_,_,e,w⟩:=s;cases es;simp only at h1;have hl:=f.hl;have hlen:=f.len;have q:=λ(j k:Nat) (e w:Int) (hj:j<=100000) (hk:k<=4)=>(⟨f.q,hj,hk,hl,hlen⟩:QF p j k).ok e w
 have r0:RB (gq p) 0 ⟨i,0,g,e,w⟩ ⟨i,0,g,e,w⟩:=RB.refl (by grind) f.g;have rs:=r0.skip 94;have en:nn ⟨↑i,0,↑g,e,w⟩=⟨i,0,g,e,w⟩:=rfl;obtain⟨R,S⟩:∃R,sH ((p,⟨i,0,g,e,w⟩),a0)=R:=⟨_,rfl⟩;have eR:R=dI (gq p) ((gq p).length+2-(bp (gq p) ⟨i,0,g,e,w⟩ 94).i) (bp (gq p) ⟨i,0,g,e,w⟩ 94) [] false:=by
  grind [sH,aC]
 have N:RB (gq p) 0 ⟨i,0,g,e,w⟩ R.1:=by grind [sG]
 have W:oJ ((p,⟨i,0,g,e,w⟩),a0)=if R.1.an=0/\(R.2.2=false\/bb (gq p) R.1 93=false) then R.1.ax (gq p) (ix (gq p) a0) 4 else R.1:=by
  grind [oJ,aC]
 have rT:RB (gq p) 0 ⟨i,0,g,e,w⟩ (oJ ((p,⟨i,0,g,e,w⟩),a0)):=by
  rw[W];split
  ·exact N.ax _ _
  ·exact N
 have eS:yv ((p,⟨i,0,g,e,w⟩),a0)=((oJ ((p,⟨i,0,g,e,w⟩),a0)).next,if bb (gq p) ⟨i,0,g,e,w⟩ 94 then lH R.2.1 else aU R.2.1):=by
  unfold yv;rw[aC,W,eR];rfl
 have Rl:=N.len;have Rm:=N.gm;have Tl:=rT.len;have Ro:R.1.ak=0:=N.op;have V:(⟨R.1.i,0,R.1.ab,R.1.an,R.1.wh⟩:Ps)=R.1:=by rw[<-Ro]
 have lR:R.2.1.length<=50000:=by
  grind [sG]
 unfold Uk;simp only[bL,bC,Zad,Zan,Zao,ZaX,ZaY,ZaZ,Io,en,S,au,aT,br,dq,bK (n:=i) ω,bK (n:=(oJ ((p,⟨i,0,g,e,w⟩),a0)).i) ω,ez0,V];refine⟨⟨⟨q i g e w ω f.g,by decide,by decide⟩,λk=>?_,λk=>?_⟩,⟨⟨(zz (bp (gq p) ⟨i,0,g,e,w⟩ 94),[],false),rfl,rfl,rfl,rfl,rfl,rfl,?_⟩,λx X=>?_⟩,?_,?_⟩
 ·rw[rp k,k];exact⟨rfl,rfl,rfl,rfl,rfl⟩
 ·grind [rq]
 ·exact⟨⟨ZaF _,by have:=rs.len;show((bp (gq p) ⟨i,0,g,e,w⟩ 94).i:Int)<=↑p.1.length;omega⟩,by show((bp (gq p) ⟨i,0,g,e,w⟩ 94).ak:Int)=0;rw[rs.op];rfl,⟨ZaF _,by have:=rs.gm;show((bp (gq p) ⟨i,0,g,e,w⟩ 94).ab:Int)<=4;omega⟩,Zaj _,_,by show p.1.length+2<=(gq p).length+2-_+(bp (gq p) ⟨i,0,g,e,w⟩ 94).i;have:=rs.len;omega,(eR.symm.trans S.symm)⟩
 ·have⟨⟨r,xo,D,F,G⟩,l,b⟩:=x;have⟨i1,i2,i3,i4,n,i5,i6⟩:=X;have i1:0<=r/\r<=↑p.1.length:=i1;have i3:0<=D/\D<=4:=i3;subst i2;obtain⟨r,rfl⟩:=Zau i1.1;obtain⟨D,rfl⟩:=Zau i3.1;have i4:l.length<=20*r:=i4;have i5:p.1.length+2<=n+r:=i5;have i6:dI (gq p) n ⟨r,0,D,F,G⟩ l b=R:=i6.trans S;have qx:=q r D F G ω ω;have ex:nn ⟨↑r,0,↑D,F,G⟩=⟨r,0,D,F,G⟩:=rfl;simp only[Lg,Zad];have stop:¬(F=0/\r<(gq p).length/\bb (gq p) ⟨r,0,D,F,G⟩ 93=false)->l=R.2.1/\b=R.2.2/\(r:Int)=↑R.1.i/\(D:Int)=↑R.1.ab/\F=R.1.an/\G=R.1.wh:=λh=>by
   have:R=(⟨r,0,D,F,G⟩,l,b):=by
    rw[<-i6];cases n with
    | zero=>rfl
    | succ n=>unfold dI;rw[Zaa h]
   grind
  obtain⟨n,rfl⟩:∃m,n=m+1:=⟨n-1,ω⟩;have cont:∀(d A:Nat) (o B:Int) (J:List Rg),r<d->d<=p.1.length->A<=4->J.length<=20*d->dI (gq p) n ⟨d,0,A,o,B⟩ J true=R->∃z:b7×List Rg×Bool,J=z.2.1/\true=z.2.2/\↑d=z.1.i/\↑A=z.1.ab/\o=z.1.an/\B=z.1.wh/\Ik ((p,⟨i,0,g,e,w⟩),a0) z/\p.1.length-z.1.i.toNat<p.1.length-r:=λd A o B J c1 c2 c3 c4 c5=>
   ⟨(⟨d,0,A,o,B⟩,J,true),rfl,rfl,rfl,rfl,rfl,rfl,⟨⟨ZaF _,by grind⟩,rfl,⟨ZaF _,by grind⟩,c4,n,by show p.1.length+2<=n+d;omega,c5.trans S.symm⟩,by grind⟩
  refine⟨λk1=>⟨λk2=>⟨⟨qx,by decide,by decide⟩,λk3=>⟨⟨qx,k2⟩,?_⟩,λk3=>stop λh=>by grind⟩,λk2=>stop λh=>ω⟩,λk1=>stop λh=>k1 h.1⟩;have rx:RB (gq p) 0 ⟨r,0,D,F,G⟩ ⟨r,0,D,F,G⟩:=RB.refl (by grind) (by grind);have⟨b1,Z,b3⟩:=wb rx (show r<(gq p).length by omega);have u:dI (gq p) (n+1) ⟨r,0,D,F,G⟩ l b=(let m:=kL (gq p) (fk (gq p) ⟨r,0,D,F,G⟩).1 r (fk (gq p) ⟨r,0,D,F,G⟩).2 l
   if m.2.2 then(m.1,m.2.1,true) else dI (gq p) n m.1 m.2.1 true):=by
   conv=>lhs;unfold dI
   grind
  rw[u] at i6;obtain⟨⟨⟨d,to,A,o,B⟩,a⟩,ht⟩:∃t,fk (gq p) ⟨r,0,D,F,G⟩=t:=⟨_,rfl⟩;rw[ht] at b1 Z b3 i6 ⊢;have t0:=b1.op;subst t0;have t1:d<=(gq p).length:=b1.len;have U:=b1.gm;have t3:r<d:=Z;have t4:=b3;simp only[ez0,bK (n:=d) ω];have fit:∀(J:List Rg),J.length<=l.length+8->((J.length:Nat):Int)*(8:Nat)<=140737488355328:=λJ h=>by omega
  have H:o≠0\/bb (gq p) ⟨d,0,A,o,B⟩ 45=false->dI (gq p) n ⟨d,0,A,o,B⟩ (l++a) true=R:=λh=>by
   grind [kL]
  have lA:(l++a).length<=20*d:=by grind
  have T:=q (d+1) A o B ω U;refine⟨λk4=>⟨fit _ (by grind),cont _ _ _ _ _ t3 ω U lA (H (.inl k4))⟩,λk4=>⟨⟨(q d A o B ω U),by decide,by decide⟩,λk5=>⟨fit _ (by grind),cont _ _ _ _ _ t3 ω U lA (H (.inr k5))⟩,λk5=>?_⟩⟩;have t5:=da k5;simp only at t5;have j0:¬(o≠0\/bb (gq p) ⟨d,0,A,o,B⟩ 45=false):=by grind
  have i7:=i6;unfold kL at i7;simp only at i7;rw[Zaa j0] at i7;have nx:Ps.next ⟨d,0,A,o,B⟩=⟨d+1,0,A,o,B⟩:=rfl;rw[nx] at i7;have C:((gq p).length<=d+1\/bb (gq p) ⟨d+1,0,A,o,B⟩ 93\/bb (gq p) ⟨d+1,0,A,o,B⟩ 91\/bb (gq p) ⟨d+1,0,A,o,B⟩ 45)->fw (p,⟨((d+1:Nat):Int),0,A,o,B⟩)/\l=R.2.1/\true=R.2.2/\((d+1:Nat):Int)=↑R.1.i/\(A:Int)=↑R.1.ab/\cy (aB o 0) 4 o=R.1.an/\cy (aB o 0) (aI (gq p) r) B=R.1.wh:=λh=>by
   grind [EM]
  refine⟨λk6=>C (.inl ω),λk6=>⟨⟨T,by decide,by decide⟩,λk7=>C (.inr (.inl k7)),λk7=>⟨⟨T,by decide,by decide⟩,λk8=>C (.inr (.inr (.inl k8))),λk8=>⟨⟨T,by decide,by decide⟩,λk9=>C (.inr (.inr (.inr k9))),λk9=>⟨⟨T,by assumption⟩,?_⟩⟩⟩⟩⟩;have j1:¬((gq p).length<=d+1\/bb (gq p) ⟨d+1,0,A,o,B⟩ 93\/bb (gq p) ⟨d+1,0,A,o,B⟩ 91\/bb (gq p) ⟨d+1,0,A,o,B⟩ 45):=by
   grind
  rw[Zaa j1] at i7;have ru:RB (gq p) 0 ⟨r,0,D,F,G⟩ ⟨d+1,0,A,o,B⟩:=b1.pz ω;have⟨Q,d2,d3⟩:=wb ru (show d+1<(gq p).length by omega);obtain⟨⟨⟨M,vo,O,I,P⟩,c⟩,hv⟩:∃v,fk (gq p) ⟨d+1,0,A,o,B⟩=v:=⟨_,rfl⟩;rw[Lg p (d+1) A o B];rw[hv] at Q d2 d3 i7 ⊢;have v0:=Q.op;subst v0;have v1:M<=(gq p).length:=Q.len;have Y:=Q.gm;have v3:d+1<M:=d2;simp only at i7 ⊢;have qv:=q M O I P ω Y;have g0:∀l:List Rg,(l.getD 0 (0,0)).1=o7 l:=λ_=>rfl
  simp only[g0];have E:(I=0/\(dk a=false\/dk c=false\/o7 c<o7 a))->fw (p,⟨↑M,0,O,I,P⟩)/\l=R.2.1/\true=R.2.2/\(M:Int)=↑R.1.i/\(O:Int)=↑R.1.ab/\cy (aB I 0) 4 I=R.1.an/\cy (aB I 0) (aI (gq p) r) P=R.1.wh:=λh=>by
   grind [EM]
  have K:¬(I=0/\(dk a=false\/dk c=false\/o7 c<o7 a))->I=0->dI (gq p) n ⟨M,0,O,I,P⟩ (l++[(o7 a,o7 c)]) true=R:=λh h2=>by
   grind
  have L:I≠0->dI (gq p) n ⟨M,0,O,I,P⟩ l true=R:=λh=>by
   grind
  refine⟨λm1=>⟨λm2=>E ⟨m1,.inl m2⟩,λm2=>⟨λm3=>E ⟨m1,.inr (.inl m3)⟩,λm3=>⟨by have:=nU m2;omega,by have:=nU m3;omega,λm4=>E ⟨m1,.inr (.inr m4)⟩,λm4=>⟨λ_=>⟨by have:=nU m2;omega,by have:=nU m3;omega,fit _ (by simp),?_⟩,λh=>absurd m1 h⟩⟩⟩⟩,λm1=>⟨λh=>absurd h m1,λ_=>?_⟩⟩
  ·refine cont _ _ _ _ _ ω ω Y (by simp;omega) (K ?_ m1);grind
  ·exact cont _ _ _ _ _ ω ω Y ω (L m1)
 ·have bad:R.1.an=0/\(R.2.2=false\/bb (gq p) R.1 93=false)->↑R.1.i=((oJ ((p,⟨i,0,g,e,w⟩),a0)).i:Nat)/\↑R.1.ab=((oJ ((p,⟨i,0,g,e,w⟩),a0)).ab:Nat)/\cy (aB R.1.an 0) 4 R.1.an=(oJ ((p,⟨i,0,g,e,w⟩),a0)).an/\cy (aB R.1.an 0) a0 R.1.wh=(oJ ((p,⟨i,0,g,e,w⟩),a0)).wh:=λh=>by
   rw[W,Zac h,wrE,wrW,(Ld h2)];simp
  grind
 ·rw[eS];exact⟨λk=>⟨ω,by grind,rfl,rfl,rfl,rfl⟩,λk=>⟨ω,by grind,rfl,rfl,rfl,rfl⟩⟩
def Qjn (h:Ok lW) (a:Ok pr):Ok Il:=okZ [rv,Ud,TQ,sF,pr,lW] f279 Qqa ⟨yr,Qjj h,Qjd,uL,a,h⟩ Qqf
abbrev QD:=QS×Int
def zk (y:QD):Ps->Ps×List Nd:=Cj (gq y.1.1) (20-y.2.toNat) (y.2.toNat+1)
def lZ (y:QD):Nat:=5*(20-y.2.toNat)
def Qcp (y:QD):Prop:=0<=y.2/\y.2<=20
def Ul (y:QD):Prop:=Qcp y/\y.1.2.i<=y.1.1.1.length
def ltP (y:QD):Prop:=Qcp y/\y.1.2.i<y.1.1.1.length
def ZX (f:FuncId) (pre:QD->Prop) (F:QD->Ps×List Nd):bh D:=yp f QD (·.1) TO pre (λy=>[Qvo y.2]) (λy=>zz (F y).1) λy=>.list 7 (F y).2
def eZ (y:QD):Ps×List Nd:=lk (uA (gq y.1.1) (zk y) y.2.toNat (nn y.1.2))
def iA (y:QD):Ps×List Nd:=lk (oG (gq y.1.1) (zk y) y.2.toNat (nn y.1.2))
def j5 (y:QD):Ps×List Nd:=lk (si (gq y.1.1) (zk y) y.2.toNat (nn y.1.2))
def gg (y:QD):Ps×List Nd:=lk (ga (gq y.1.1) (zk y) y.2.toNat (nn y.1.2))
abbrev QG:=QS×Int×Int
variable {s:Ps} {G:List Gt} {A:Ps->Ps×List Nd} {l:List (List Nd)}
def gd (y:QG):QD:=(y.1,y.2.1)
def qR (y:QG):Ps×List Nd:=lk (jh (gq y.1.1) (zk (gd y)) y.2.1.toNat (nn y.1.2) (ix (gq y.1.1) y.2.2))
def yw:bh D:=ZX 125 Ul eZ
def A8:bh D:=ZX 183 Ul iA
def A9:bh D:=ZX 224 ltP j5
def EN:bh D:=ZX 254 ltP gg
def EO:bh D:=yp 277 QG (·.1) Qcl (λy=>Ul (gd y)/\yu (gq y.1.1) y.2.2) (λy=>[Qvo y.2.1,Qvo y.2.2]) (λy=>zz (qR y).1) λy=>.list 7 (qR y).2
def rfT (n:Nat):s7:=[yw.under (λy=>lZ y+4) n,A8.under (λy=>lZ y+3) n,A9.under (λy=>lZ y+2) n,EN.under (λy=>lZ y+1) n,EO.under (λy=>lZ (gd y)) n]
def rfW (l:s7) (i:Nat) (fn:Func) (k:bh D) (a:k.Y->cH D) (n:Nat) (y:k.Y):Prop:=vc (rfT (n+i)++l) fn k a y
def Qcq (p:QL) (s:b7):List (Nat×AO D.E):=qO p s++[(1,.tok 9 138)]
def stI (y:QD) (s:b7):Prop:=fw (y.1.1,s)/\(nn y.1.2).i<=(nn s).i/\(nn s).i<=y.1.1.1.length+30
def Lh (y:QD) (x:b7×List (List Nd)):Prop:=stI y x.1/\0<x.2.length/\total x.2+2*x.2.length<=3*((nn x.1).i-(nn y.1.2).i)+3/\∃n,y.1.1.1.length+2<=n+(nn x.1).i/\
 (dP (gq y.1.1) (zk y) y.2.toNat n (nn x.1) x.2).1=(eZ y).1/\bW 4 (dP (gq y.1.1) (zk y) y.2.toNat n (nn x.1) x.2).2=(eZ y).2
def A' (y:QD) (x:b7×List (List Nd)):Nat:=y.1.1.1.length+30-(nn x.1).i
def Qcr (y:yw.Y):cH D:=⟨[],[],[(28,⟨b7×List (List Nd),[0,1],λx=>[(5,.grow 9 x.2 1)],[],λx=>Qcq y.1.1 x.1,2,Lh y,A' y⟩)],[],1,[]⟩
def Qjp (y:yw.Y):Prop:=rfW [rv,Cx] 4 f125 yw Qcr (lZ y) y
def Li (y:QD) (x:b7×List (List Nd)):Prop:=stI y x.1/\x.2.length<=(nn x.1).i-(nn y.1.2).i/\total x.2<=3*((nn x.1).i-(nn y.1.2).i)/\∃n,y.1.1.1.length+2<=n+(nn x.1).i/\
 (ej (gq y.1.1) (zk y) y.2.toNat n (nn x.1) x.2).1=(iA y).1/\bW 3 (ej (gq y.1.1) (zk y) y.2.toNat n (nn x.1) x.2).2=(iA y).2
def Qcs (y:A8.Y):cH D:=⟨[],[],[(28,⟨b7×List (List Nd),[0,1],λx=>[(5,.grow 9 x.2 1)],[],λx=>Qcq y.1.1 x.1,2,Li y,A' y⟩)],[],1,[]⟩
def Qjq (y:A8.Y):Prop:=rfW [rv,Cx] 3 f183 A8 Qcs (lZ y) y
def na (y:QD):Ps×Int×Int:=lk (if bb (gq y.1.1) (gg y).1 42 then((gg y).1.next,0,-1) else if bb (gq y.1.1) (gg y).1 43 then((gg y).1.next,1,-1) else if bb (gq y.1.1) (gg y).1 63 then((gg y).1.next,0,1) else ey (gq y.1.1) (gg y).1)
def A_ (y:QD):Prop:=(gg y).1.an=0/\(gg y).1.i<y.1.1.1.length/\(bb (gq y.1.1) (gg y).1 42\/bb (gq y.1.1) (gg y).1 43\/bb (gq y.1.1) (gg y).1 63\/bb (gq y.1.1) (gg y).1 123)
def Qct (y:A9.Y):cH D:=⟨[],[],[],[(31,⟨Unit,[0,5],λ_=>[(6,.ptr 1 0)],[],λ_=>qO y.1.1 (zz (na y).1)++[(1,.cells [Qvo 5,.dF,Qvo (na y).2.1,Qvo (na y).2.2,.bool false,Qvo 0,Qvo 1] 206 false)],2,λ_=>A_ y,λ_=>0⟩)],1,[]⟩
def Qjr (y:A9.Y):Prop:=rfW [rv,Ij] 2 f224 A9 Qct (lZ y) y
def Qjs (y:EN.Y):Prop:=rfW [zJ,sF,Il,Ii,A3,pr] 1 f254 EN (λ_=>dY ()) (lZ y) y
def Qjt (y:EO.Y):Prop:=rfW [rv,sF,NX] 0 f277 EO (λ_=>dY ()) (lZ (gd y)) y
def Ip (y:(((List Int)×(List Int))×b7)×Int):Prop:=let g:=(eZ y).1;let q1:=((g.i:Nat):Int);let n:=((g.ab:Nat):Int);let h:=(y.1.1.1,y.1.1.2);let f:=(h,b7.mk y.1.2.i 0 y.1.2.ab y.1.2.an y.1.2.wh);let j:=(iA (f,y.2)).1;let k:=λp:Prop=>aa [y.1.1.1,y.1.1.2] p;Iv ((fw f/\Ul (f,y.2))/\(lZ (f,y.2)+3)<(lZ y+4))/\aa [y.2] (aa [y.1.1.1,y.1.1.2] (aa [y.1.2.i,y.1.2.ab,y.1.2.an,y.1.2.wh] ((∃z:b7×(List (List Nd)),aa [y.2] (([(iA (f,y.2)).2]:List (List Nd))=z.2/\k (((j.i:Nat):Int)=z.1.i/\((j.ab:Nat):Int)=z.1.ab/\j.an=z.1.an/\j.wh=z.1.wh/\(Iv (Lh y z)))))/\(∀x:b7×(List (List Nd)),let l:=ay .i64 x.1.i 1;let m:=b7.mk x.1.i 0 x.1.ab x.1.an x.1.wh;let o:=bb (gq h) (nn m) 124;let c:=(h,b7.mk l 0 x.1.ab x.1.an x.1.wh);let a:=(c,y.2);let b:=(iA a).1;let d:=bM x.2 [(iA a).2];let e:Prop:=(Iv (total x.2<=100000/\x.2.length<=100000)/\aa ([4]:List Int) (aa [x.2] (bW 4 x.2=(eZ y).2/\k (x.1.i=q1/\x.1.ab=n/\x.1.an=g.an/\x.1.wh=g.wh/\True))));(Iv (Lh y x))->aj (aB x.1.an 0) (Iv (fw (h,m)/\(0:Int)<=(124:Int)/\(124:Int)<=(127:Int))/\aa ([124]:List Int) (aa [y.1.1.1,y.1.1.2] (aa [x.1.i,x.1.ab,x.1.an,x.1.wh] (aj o (Iv ((fw c/\Ul a)/\(lZ a+3)<(lZ y+4))/\aa [y.2] (aa [y.1.1.1,y.1.1.2] (aa [l,x.1.ab,x.1.an,x.1.wh] (bJ (ag d) 24/\∃z:b7×(List (List Nd)),aa [y.2] (d=z.2/\k (((b.i:Nat):Int)=z.1.i/\((b.ab:Nat):Int)=z.1.ab/\b.an=z.1.an/\b.wh=z.1.wh/\(Iv (Lh y z/\A' y z<A' y x)))))))) (e))))) (e)))))
def Um:∀y,Ip y=Qjp y:=λy=>by kernel_rfl
def Iq (y:(((List Int)×(List Int))×b7)×Int):Prop:=let h:=(iA y).1;let q1:=(iA y).2;let k:=((h.i:Nat):Int);let l:=((h.ab:Nat):Int);let d:=(y.1.1.1,y.1.1.2);let j:=λp:Prop=>aa [y.1.1.1,y.1.1.2] p;(∃z:b7×(List (List Nd)),aa [y.2] ([]=z.2/\j (y.1.2.i=z.1.i/\y.1.2.ab=z.1.ab/\y.1.2.an=z.1.an/\y.1.2.wh=z.1.wh/\(Iv (Li y z)))))/\(∀x:b7×(List (List Nd)),let m:=aw x.1.i (ag y.1.1.1);let e:=b7.mk x.1.i 0 x.1.ab x.1.an x.1.wh;let n:=!(bb (gq d) (nn e) 41);let o:=!(bb (gq d) (nn e) 124);let a:=((d,e),y.2);let b:=(j5 a).1;let f:=bM x.2 [(j5 a).2];let c:Prop:=(Iv (total x.2<=100000/\x.2.length<=100000)/\aa ([3]:List Int) (aa [x.2] (bW 3 x.2=q1/\j (x.1.i=k/\x.1.ab=l/\x.1.an=h.an/\x.1.wh=h.wh/\True))));let g:Prop:=(aa [x.1.an,x.1.i] (aa [y.1.1.1] (c)));(Iv (Li y x))->aj (aB x.1.an 0) (aj m (Iv (fw (d,e)/\(0:Int)<=(124:Int)/\(124:Int)<=(127:Int))/\aa ([124]:List Int) (aa [y.1.1.1,y.1.1.2] (aa [x.1.i,x.1.ab,x.1.an,x.1.wh] (aj o (Iv (fw (d,e)/\(0:Int)<=(41:Int)/\(41:Int)<=(127:Int))/\aa ([41]:List Int) (aa [y.1.1.1,y.1.1.2] (aa [x.1.i,x.1.ab,x.1.an,x.1.wh,x.1.an,x.1.i] (aa [y.1.1.1] (aj n (Iv ((fw (d,e)/\ltP a)/\(lZ a+2)<(lZ y+3))/\aa [y.2] (aa [y.1.1.1,y.1.1.2] (aa [x.1.i,x.1.ab,x.1.an,x.1.wh] (bJ (ag f) 24/\∃z:b7×(List (List Nd)),aa [y.2] (f=z.2/\j (((b.i:Nat):Int)=z.1.i/\((b.ab:Nat):Int)=z.1.ab/\b.an=z.1.an/\b.wh=z.1.wh/\(Iv (Li y z/\A' y z<A' y x)))))))) (c)))))) (g))))) (g)) (aa [x.1.an] (c)))
def Un:∀y,Iq y=Qjq y:=λy=>by kernel_rfl
def Ir (y:(((List Int)×(List Int))×b7)×Int):Prop:=let r:=(j5 y).1;let q1:=(j5 y).2;let c:=(na y).1;let H:=((r.i:Nat):Int);let s:=(na y).2.2;let I:=((r.ab:Nat):Int);let t:=(na y).2.1;let u:=((c.i:Nat):Int);let D:=((c.ab:Nat):Int);let f:=y.1.1.1;let g:=(f,y.1.1.2);let v:=b7.mk u 0 D c.an c.wh;let w:=(g,b7.mk y.1.2.i 0 y.1.2.ab y.1.2.an y.1.2.wh);let F:=bb (gq g) (nn v) 63;let h:=(w,y.2);let j:=(gg h).2;let a:=(gg h).1;let k:=((a.ab:Nat):Int);let b:=((a.i:Nat):Int);let G:=aG (ag f) b;let d:=gt 0 f b.toNat;let A:=bM [Nd.mk 5 [] t s true 0 1] j;let B:=bM [Nd.mk 5 [] t s false 0 1] j;let e:=(g,b7.mk b 0 k a.an a.wh);let l:=(rz e).1;let q:=λp:Prop=>aa [f,y.1.1.2] p;let m:=λp:Prop=>aa [j] (aa ([5]:List Int) p);let E:=λp:Prop=>aa ([0,1]:List Int) (aa [f,y.1.1.2] p);let C:Prop:=(D=I/\c.an=r.an/\c.wh=r.wh/\True);let n:Prop:=(false=false/\E (ay .i64 b 1=u/\k=D/\a.an=c.an/\a.wh=c.wh/\(Iv (A_ y))));let o:Prop:=(j=q1/\q (b=H/\k=I/\a.an=r.an/\a.wh=r.wh/\True));Iv ((fw w/\ltP h)/\(lZ h+1)<(lZ y+2))/\aa [y.2] (aa [f,y.1.1.2] (aa [y.1.2.i,y.1.2.ab,y.1.2.an,y.1.2.wh] (aj (!(aB a.an 0)) (aa [a.an] (o)) (aa [a.an,b] (aa [f] (aj G (o) ((aG 0 b/\aw b (ag f)/\aa [f] (aa [b,d] (aj (aB d 42) (∃z:Unit,m (0=t/\(-1)=s/\n)) (aj (aB d 43) (∃z:Unit,m (1=t/\(-1)=s/\n)) (aj (aB d 63) (∃z:Unit,m (0=t/\1=s/\n)) (aj (aB d 123) (Iv (fw e/\Uc e)/\aa [f,y.1.1.2] (aa [b,k,a.an,a.wh] (∃z:Unit,m ((rz e).2.1=t/\(rz e).2.2=s/\false=false/\E (((l.i:Nat):Int)=u/\((l.ab:Nat):Int)=D/\l.an=c.an/\l.wh=c.wh/\(Iv (A_ y))))))) (o)))))))/\(∀x:Unit,(Iv (A_ y))->Iv (fw (g,v)/\(0:Int)<=(63:Int)/\(63:Int)<=(127:Int))/\aa ([63]:List Int) (aa [f,y.1.1.2] (aa [u,D,c.an,c.wh] (aj F (bJ (ag A) 72/\A=q1/\q (ay .i64 u 1=H/\C)) (bJ (ag B) 72/\B=q1/\q (u=H/\C)))))))))))))
def Uo:∀y,Ir y=Qjr y:=λy=>by kernel_rfl
def Is (y:(((List Int)×(List Int))×b7)×Int):Prop:=let f:=(gg y).1;let q1:=(gg y).2;let s:=((f.ab:Nat):Int);let t:=((f.i:Nat):Int);let j:=y.1.1.1;let n:=ay .i64 y.1.2.i 1;let a:=gt 0 j y.1.2.i.toNat;let v:=(j,y.1.1.2);let e:=aI (gq v) y.1.2.i.toNat;let w:=([(a,a)]:List (Int×Int));let b:=(v,b7.mk n 0 y.1.2.ab y.1.2.an y.1.2.wh);let o:=(tL (b,e)).2;let k:=(yv (b,e)).1;let l:=(tL (b,e)).1;let q:=(yv (b,e)).2;let r:=gd (b,(y.2,e));let g:=qR (b,(y.2,e));let u:=λp:Prop=>aa [e] (aa [j,y.1.1.2] (aa [n,y.1.2.ab,y.1.2.an,y.1.2.wh] p));let h:=λp:Prop=>aa [j,y.1.1.2] p;let m:Prop:=(h (n=t/\y.1.2.ab=s/\y.1.2.an=f.an/\y.1.2.wh=f.wh/\True));let c:Prop:=(Iv True/\aa [w] (([xu w]:List Nd)=q1/\m));let d:Prop:=(Iv (fw b/\True)/\aa ([4,e]:List Int) (aa [j,y.1.1.2] (aa [n,y.1.2.ab,y.1.2.an,y.1.2.wh] ([]=q1/\h (n=t/\y.1.2.ab=s/\cy (aB y.1.2.an 0) 4 y.1.2.an=f.an/\cy (aB y.1.2.an 0) e y.1.2.wh=f.wh/\True)))));Iv (fw (v,b7.mk y.1.2.i 0 y.1.2.ab y.1.2.an y.1.2.wh)/\y.1.2.i<=(j.length:Int))/\aa [j,y.1.1.2] (aa [y.1.2.i,y.1.2.ab,y.1.2.an,y.1.2.wh] (aG 0 y.1.2.i/\aw y.1.2.i (ag j)/\aa [j] (aa [y.1.2.i,a] (aj (aB a 40) (Iv ((fw b/\Ul r/\yu (gq v) e)/\lZ r<(lZ y+1))/\aa [y.2,e] (aa [j,y.1.1.2] (aa [n,y.1.2.ab,y.1.2.an,y.1.2.wh] (g.2=q1/\h (((g.1.i:Nat):Int)=t/\((g.1.ab:Nat):Int)=s/\g.1.an=f.an/\g.1.wh=f.wh/\True))))) (aj (aB a 91) (Iv (fw b/\NW (b,e))/\u (Iv True/\aa [q] (([xu q]:List Nd)=q1/\h (((k.i:Nat):Int)=t/\((k.ab:Nat):Int)=s/\k.an=f.an/\k.wh=f.wh/\True)))) (aj (aB a 46) (Iv (1<=2000000)/\aa ([[(10,10)]]:List (List (Int×Int))) (Iv True/\aa [lH [(10,10)]] (([xu (lH [(10,10)])]:List Nd)=q1/\m))) (aj (aB a 94) (([Nd.mk 7 [] 0 0 false 0 0]:List Nd)=q1/\m) (aj (aB a 36) (([Nd.mk 8 [] 0 0 false 0 0]:List Nd)=q1/\m) (aj (aB a 92) (Iv (fw b/\NW (b,e))/\u (Iv True/\aa [o] (([xu o]:List Nd)=q1/\h (((l.i:Nat):Int)=t/\((l.ab:Nat):Int)=s/\l.an=f.an/\l.wh=f.wh/\True)))) (aj (aB a 42) (aj (aB a 42) (d) (c)) (aj (aB a 43) (aj (aB a 43) (d) (c)) (aj (aB a 63) (aj (aB a 63) (d) (c)) (aj (aB a 123) (aj (aB a 123) (d) (c)) (aj (aB a 125) (aj (aB a 125) (d) (c)) (aj (aB a 93) (aj (aB a 93) (d) (c)) (aj (aB a 41) (aj (aB a 41) (d) (c)) (aj (aB a 124) (aj (aB a 124) (d) (c)) (aj (aB a (-1)) (d) (c)))))))))))))))))))
def Up:∀y,Is y=Qjs y:=λy=>by kernel_rfl
def It (y:(((List Int)×(List Int))×b7)×Int×Int):Prop:=let k:=(qR y).1;let q1:=(qR y).2;let x:=((k.i:Nat):Int);let C:=((k.ab:Nat):Int);let c:=y.1.1.1;let l:=ay .i64 y.2.1 1;let K:=aG 4 y.1.2.ab;let F:=aB y.1.2.an 0;let J:=ay .i64 y.1.2.i 2;let G:=ay .i64 y.1.2.i 1;let r:=ay .i64 y.1.2.ab 1;let a:=(c,y.1.1.2);let b:=gq a;let v:=gt 0 c G.toNat;let f:=b7.mk y.1.2.i 0 y.1.2.ab y.1.2.an y.1.2.wh;let w:=bb b (nn f) 63;let g:=(a,b7.mk y.1.2.i 0 r y.1.2.an y.1.2.wh);let h:=(a,b7.mk J 0 y.1.2.ab y.1.2.an y.1.2.wh);let d:=(eZ (h,l)).1;let e:=(eZ (g,l)).1;let s:=((d.i:Nat):Int);let z:=((e.ab:Nat):Int);let A:=((d.ab:Nat):Int);let t:=((e.i:Nat):Int);let B:=bM [Nd.mk 6 [] 0 0 false r 1] (eZ (g,l)).2;let m:=b7.mk t 0 z e.an e.wh;let n:=b7.mk s 0 A d.an d.wh;let H:=bb b (nn n) 41;let I:=bb b (nn m) 41;let o:=ite (d.an=0/\H=false) (Ps.ax b (nn n) (ix b y.2.2) 4) (nn n);let q:=ite (e.an=0/\I=false) (Ps.ax b (nn m) (ix b y.2.2) 4) (nn m);let j:=λp:Prop=>aa [c,y.1.1.2] p;let u:Prop:=(cy F y.2.2 y.1.2.wh=k.wh/\True);let D:Prop:=(Iv (fw (a,f)/\True)/\aa ([4,y.2.2]:List Int) (aa [c,y.1.1.2] (aa [y.1.2.i,y.1.2.ab,y.1.2.an,y.1.2.wh] ([]=q1/\j (y.1.2.i=x/\y.1.2.ab=C/\cy F 4 y.1.2.an=k.an/\u)))));let E:Prop:=(aj (aG 20 y.2.1) (Iv (fw (a,f)/\True)/\aa ([10,y.2.2]:List Int) (aa [c,y.1.1.2] (aa [y.1.2.i,y.1.2.ab,y.1.2.an,y.1.2.wh] ([]=q1/\j (y.1.2.i=x/\y.1.2.ab=C/\cy F 10 y.1.2.an=k.an/\u))))) (aj w (Iv ((fw h/\Ul (h,l))/\(lZ (h,l)+4)<(lZ (gd y)+0))/\aa [l] (aa [c,y.1.1.2] (aa [J,y.1.2.ab,y.1.2.an,y.1.2.wh] (Iv (fw (a,n)/\s<=90000/\yu b y.2.2)/\aa [y.2.2] (aa [c,y.1.1.2] (aa [s,A,d.an,d.wh] ((eZ (h,l)).2=q1/\j (((o.i+1:Nat):Int)=x/\((o.ab:Nat):Int)=C/\o.an=k.an/\o.wh=k.wh/\True)))))))) (aj K (Iv (fw (a,f)/\True)/\aa ([13,y.2.2]:List Int) (aa [c,y.1.1.2] (aa [y.1.2.i,y.1.2.ab,y.1.2.an,y.1.2.wh] ([]=q1/\j (y.1.2.i=x/\y.1.2.ab=C/\cy F 13 y.1.2.an=k.an/\u))))) (Iv ((fw g/\Ul (g,l))/\(lZ (g,l)+4)<(lZ (gd y)+0))/\aa [l] (aa [c,y.1.1.2] (aa [y.1.2.i,r,y.1.2.an,y.1.2.wh] (Iv (fw (a,m)/\t<=90000/\yu b y.2.2)/\aa [y.2.2] (aa [c,y.1.1.2] (aa [t,z,e.an,e.wh] (bJ (ag B) 72/\B=q1/\j (((q.i+1:Nat):Int)=x/\((q.ab:Nat):Int)=C/\q.an=k.an/\q.wh=k.wh/\True)))))))))));Iv (fw (a,f)/\(0:Int)<=(63:Int)/\(63:Int)<=(127:Int))/\aa ([63]:List Int) (aa [c,y.1.1.2] (aa [y.1.2.i,y.1.2.ab,y.1.2.an,y.1.2.wh] (aj w (aj (aG (ag c) G) (aa [y.1.2.i] (aa [c] (D))) (aG 0 G/\aw G (ag c)/\aa [y.1.2.i] (aa [c,c] (aa [y.1.2.i,v] (aj (!(aB v 58)) (D) (E)))))) (E))))
def Uq:∀y,It y=Qjt y:=λy=>by kernel_rfl
def nz0 (h:s.ak=0):nn ⟨s.i,0,s.ab,s.an,s.wh⟩=s:=by rw[ez0,<-h]
def CB (y:QD):vj (gq y.1.1) (20-y.2.toNat) (zk y):=Cz _ _ _
theorem EP {d n:Nat} (h:s.an≠0\/bb G s 124=false):dP G A d n s l=(s,l):=by
 cases n with
 | zero=>rfl
 | succ n=>
  grind [dP]
theorem ER {d n:Nat} (h:¬(s.an=0/\s.i<G.length/\bb G s 124=false/\bb G s 41=false)):ej G A d n s l=(s,l):=by
 cases n with
 | zero=>rfl
 | succ n=>unfold ej;rw[Zaa h]
theorem Qjv (y:QD) (L:yw.pre y):Ip y:=by
 have⟨⟨p,s⟩,d⟩:=y;obtain⟨h0,z,h1⟩:fw (p,s)/\(0<=d/\d<=20)/\s.i<=p.1.length:=L;have⟨i,g,es,f⟩:=h0.out;have⟨_,_,_,e,w⟩:=s;cases es;obtain⟨d,rfl⟩:=Zau z.1;simp only at h1;have hl:=f.hl;have hlen:=f.len;have q:=λ(j k:Nat) (e w:Int) (E:j<=100000) (hk:k<=4)=>(⟨f.q,E,hk,hl,hlen⟩:QF p j k).ok e w
 have A:=CB ((p,⟨i,0,g,e,w⟩),↑d);obtain⟨B,H⟩:∃B,zk ((p,⟨i,0,g,e,w⟩),↑d)=B:=⟨_,rfl⟩;rw[H] at A;have A:vj (gq p) (20-d) B:=A;have b:∀N,zk ((p,N),↑d)=B:=λ_=>H
 have G:∀j k e w,iA ((p,⟨(j:Nat),0,(k:Nat),e,w⟩),↑d)=oG (gq p) B d ⟨j,0,k,e,w⟩:=λj k e w=>by unfold iA;rw[aC,b];rfl
 have⟨c1,c2⟩:=wc A d (s:=⟨i,0,g,e,w⟩) (by grind) f.g;obtain⟨c,D⟩:∃c,oG (gq p) B d ⟨i,0,g,e,w⟩=c:=⟨_,rfl⟩;rw[D] at c1 c2;have R:eZ ((p,⟨i,0,g,e,w⟩),↑d)=((dP (gq p) B d ((gq p).length+2-c.1.i) c.1 [c.2]).1,bW 4 (dP (gq p) B d ((gq p).length+2-c.1.i) c.1 [c.2]).2):=by
  unfold eZ;rw[aC,b,<-D];rfl
 have cl:=c1.len;have co:=c1.op;unfold Ip;simp only[bL,bC,Zad,Zan,Zao,Io,au,aT,br,dq,G,D];refine⟨⟨⟨q i g e w ω f.g,⟨z.1,z.2⟩,h1⟩,ω⟩,⟨(⟨c.1.i,0,c.1.ab,c.1.an,c.1.wh⟩,[c.2]),rfl,rfl,rfl,rfl,rfl,⟨q _ _ _ _ ω c1.gm,c1.le,by grind⟩,by simp,?_,(gq p).length+2-c.1.i,?_,?_,?_⟩,λx K=>?_⟩
 ·have Q:total [c.2]=c.2.length:=by simp[total]
  have c3:c.2.length<=3*(c.1.i-i)+1:=c2;show total [c.2]+2*1<=3*(c.1.i-i)+3
  omega
 ·grind
 ·grind
 ·grind
 ·have⟨⟨U,V,T,l,v⟩,r⟩:=x;have⟨⟨M,S,I⟩,i3,i4,n,i5,i6,i7⟩:=K;have⟨a,o,es,C⟩:=M.out;cases es;have I:a<=p.1.length+30:=I;have i4:total r+2*r.length<=3*(a-i)+3:=i4;have i5:p.1.length+2<=n+a:=i5;rw[b] at i6 i7;have i6:(dP (gq p) B d n ⟨a,0,o,l,v⟩ r).1=(eZ ((p,⟨i,0,g,e,w⟩),↑d)).1:=i6;have i7:bW 4 (dP (gq p) B d n ⟨a,0,o,l,v⟩ r).2=(eZ ((p,⟨i,0,g,e,w⟩),↑d)).2:=i7;have ex:nn ⟨↑a,0,↑o,l,v⟩=⟨a,0,o,l,v⟩:=rfl;simp only[ex,bK (n:=a) ω,G];have stop:(l≠0\/bb (gq p) ⟨a,0,o,l,v⟩ 124=false)->(total r<=100000/\r.length<=100000)/\bW 4 r=(eZ ((p,⟨i,0,g,e,w⟩),↑d)).2/\(a:Int)=((eZ ((p,⟨i,0,g,e,w⟩),↑d)).1.i:Nat)/\(o:Int)=((eZ ((p,⟨i,0,g,e,w⟩),↑d)).1.ab:Nat)/\l=(eZ ((p,⟨i,0,g,e,w⟩),↑d)).1.an/\v=(eZ ((p,⟨i,0,g,e,w⟩),↑d)).1.wh:=λh=>by
   grind [EP]
  refine⟨λk1=>⟨⟨q a o l v C.i C.g,by decide,by decide⟩,λk2=>?_,λk2=>stop (.inr k2)⟩,λk1=>stop (.inl k1)⟩;have E:=da k2;simp only at E;have⟨b1,J⟩:=wc A d (s:=⟨a+1,0,o,l,v⟩) (by assumption) C.g;obtain⟨t,ht⟩:∃t,oG (gq p) B d ⟨a+1,0,o,l,v⟩=t:=⟨_,rfl⟩;rw[ht] at b1 J ⊢;have O:=b1.len;have P:a+1<=t.1.i:=b1.le;have F:=b1.op;obtain⟨n,rfl⟩:∃m,n=m+1:=⟨n-1,ω⟩;have u:dP (gq p) B d (n+1) ⟨a,0,o,l,v⟩ r=dP (gq p) B d n t.1 (r++[t.2]):=by
   conv=>lhs;unfold dP
   rw[Zac ⟨k1,k2⟩,<-ht];rfl
  rw[u] at i6 i7;refine⟨⟨⟨q _ _ _ _ ω C.g,⟨z.1,z.2⟩,by grind⟩,by grind [lZ]⟩,by simp;omega,(⟨t.1.i,0,t.1.ab,t.1.an,t.1.wh⟩,r++[t.2]),rfl,rfl,rfl,rfl,rfl,⟨⟨q _ _ _ _ ω b1.gm,by grind,by grind⟩,by simp,?_,n,by grind,?_,?_⟩,?_⟩
  ·grind [gy]
  ·rw[nz0 F,b];exact i6
  ·rw[nz0 F,b];exact i7
  ·show p.1.length+30-(t.1.i:Int).toNat<p.1.length+30-(a:Int).toNat
   omega
theorem Qjw (y:QD) (L:A8.pre y):Iq y:=by
 have⟨⟨p,s⟩,d⟩:=y;obtain⟨h0,C,h1⟩:fw (p,s)/\(0<=d/\d<=20)/\s.i<=p.1.length:=L;have⟨i,g,es,f⟩:=h0.out;have⟨_,_,_,e,w⟩:=s;cases es;obtain⟨d,rfl⟩:=Zau C.1;simp only at h1;have hl:=f.hl;have hlen:=f.len;have q:=λ(j k:Nat) (e w:Int) (J:j<=100000) (hk:k<=4)=>(⟨f.q,J,hk,hl,hlen⟩:QF p j k).ok e w
 have A:=CB ((p,⟨i,0,g,e,w⟩),↑d);obtain⟨B,H⟩:∃B,zk ((p,⟨i,0,g,e,w⟩),↑d)=B:=⟨_,rfl⟩;rw[H] at A;have A:vj (gq p) (20-d) B:=A;have b:∀N,zk ((p,N),↑d)=B:=λ_=>H
 have G:∀j k e w,j5 ((p,⟨(j:Nat),0,(k:Nat),e,w⟩),↑d)=si (gq p) B d ⟨j,0,k,e,w⟩:=λj k e w=>by unfold j5;rw[aC,b];rfl
 have F:iA ((p,⟨i,0,g,e,w⟩),↑d)=((ej (gq p) B d ((gq p).length+2-i) ⟨i,0,g,e,w⟩ []).1,bW 3 (ej (gq p) B d ((gq p).length+2-i) ⟨i,0,g,e,w⟩ []).2):=by
  unfold iA;rw[aC,b];rfl
 unfold Iq;simp only[bL,bC,Zad,Zan,Zao,Io,au,aT,br,dq,G];refine⟨⟨(⟨i,0,g,e,w⟩,[]),rfl,rfl,rfl,rfl,rfl,⟨q _ _ _ _ ω f.g,Zah _,by show i<=p.1.length+30;omega⟩,by simp,by simp[total],(gq p).length+2-i,?_,?_,?_⟩,λx K=>?_⟩
 ·show p.1.length+2<=(gq p).length+2-i+i;omega
 ·rw[b,F];rfl
 ·rw[b,F];rfl
 ·have⟨⟨S,T,R,c,o⟩,r⟩:=x;have⟨⟨M,P,Q⟩,i3,i4,n,i5,i6,i7⟩:=K;have⟨a,l,es,z⟩:=M.out;cases es;have i3:r.length<=a-i:=i3;have i5:p.1.length+2<=n+a:=i5;rw[b] at i6 i7;have i6:(ej (gq p) B d n ⟨a,0,l,c,o⟩ r).1=(iA ((p,⟨i,0,g,e,w⟩),↑d)).1:=i6;have i7:bW 3 (ej (gq p) B d n ⟨a,0,l,c,o⟩ r).2=(iA ((p,⟨i,0,g,e,w⟩),↑d)).2:=i7;have ex:nn ⟨↑a,0,↑l,c,o⟩=⟨a,0,l,c,o⟩:=rfl;simp only[G];have stop:¬(c=0/\a<(gq p).length/\bb (gq p) ⟨a,0,l,c,o⟩ 124=false/\bb (gq p) ⟨a,0,l,c,o⟩ 41=false)->(total r<=100000/\r.length<=100000)/\bW 3 r=(iA ((p,⟨i,0,g,e,w⟩),↑d)).2/\(a:Int)=((iA ((p,⟨i,0,g,e,w⟩),↑d)).1.i:Nat)/\(l:Int)=((iA ((p,⟨i,0,g,e,w⟩),↑d)).1.ab:Nat)/\c=(iA ((p,⟨i,0,g,e,w⟩),↑d)).1.an/\o=(iA ((p,⟨i,0,g,e,w⟩),↑d)).1.wh:=λh=>by
   grind [ER]
  have D:=q a l c o z.i z.g;refine⟨λk1=>⟨λk2=>⟨⟨D,by decide,by decide⟩,λk3=>⟨⟨D,by decide,by decide⟩,λk4=>?_,λk4=>stop λh=>by grind⟩,λk3=>stop λh=>by grind⟩,λk2=>stop λh=>ω⟩,λk1=>stop λh=>k1 h.1⟩;have⟨b1,v,I⟩:=Lc A d (t:=⟨a,0,l,c,o⟩) (by grind) z.g;obtain⟨t,ht⟩:∃t,si (gq p) B d ⟨a,0,l,c,o⟩=t:=⟨_,rfl⟩;rw[ht] at b1 v I ⊢;have O:=b1.len;have E:=b1.op;have v:a<t.1.i:=v;obtain⟨n,rfl⟩:∃m,n=m+1:=⟨n-1,ω⟩;have u:ej (gq p) B d (n+1) ⟨a,0,l,c,o⟩ r=ej (gq p) B d n t.1 (r++[t.2]):=by
   grind [ej]
  rw[u] at i6 i7;refine⟨⟨⟨D,⟨C.1,C.2⟩,by assumption⟩,by grind [lZ]⟩,by simp;omega,(⟨t.1.i,0,t.1.ab,t.1.an,t.1.wh⟩,r++[t.2]),rfl,rfl,rfl,rfl,rfl,⟨⟨q _ _ _ _ ω b1.gm,by grind,by grind⟩,?_,?_,n,by grind,?_,?_⟩,?_⟩
  ·grind
  ·grind [gy]
  ·rw[nz0 E,b];exact i6
  ·rw[nz0 E,b];exact i7
  ·show p.1.length+30-(t.1.i:Int).toNat<p.1.length+30-(a:Int).toNat
   omega
theorem Qe8 (h:s.i<G.length) (a:s.ab<=4):RB G 1 s (ey G s).1:=(A4 (RB.refl (k:=0) ω a) h).1
theorem Qjx (y:QD) (S:A9.pre y):Ir y:=by
 have⟨⟨p,s⟩,d⟩:=y;obtain⟨h0,E,h1⟩:fw (p,s)/\(0<=d/\d<=20)/\s.i<p.1.length:=S;have⟨i,g,es,f⟩:=h0.out;have⟨_,_,_,e,w⟩:=s;cases es;obtain⟨d,rfl⟩:=Zau E.1;have hl:=f.hl;have hlen:=f.len;have q:=λ(j k:Nat) (e w:Int) (F:j<=100000) (hk:k<=4)=>(⟨f.q,F,hk,hl,hlen⟩:QF p j k).ok e w
 have A:=CB ((p,⟨i,0,g,e,w⟩),↑d);obtain⟨B,I⟩:∃B,zk ((p,⟨i,0,g,e,w⟩),↑d)=B:=⟨_,rfl⟩;rw[I] at A;have m:∀U,zk ((p,U),↑d)=B:=λ_=>I
 have u:gg ((p,⟨i,0,g,e,w⟩),↑d)=ga (gq p) B d ⟨i,0,g,e,w⟩:=by unfold gg;rw[aC,m];rfl
 have⟨b1,L,G⟩:=EK A d (t:=⟨i,0,g,e,w⟩) (by grind) f.g;obtain⟨t,ht⟩:∃t,ga (gq p) B d ⟨i,0,g,e,w⟩=t:=⟨_,rfl⟩;rw[ht] at b1 L G u;have M:=b1.len;have C:=b1.gm;have N:=b1.op;have O:=G;have⟨⟨a,to,c,b,l⟩,x⟩:=t;subst N;simp only at M C O;have Q:na ((p,⟨i,0,g,e,w⟩),↑d)=if bb (gq p) ⟨a,0,c,b,l⟩ 42 then(⟨a+1,0,c,b,l⟩,0,-1) else if bb (gq p) ⟨a,0,c,b,l⟩ 43 then(⟨a+1,0,c,b,l⟩,1,-1) else if bb (gq p) ⟨a,0,c,b,l⟩ 63 then(⟨a+1,0,c,b,l⟩,0,1) else ey (gq p) ⟨a,0,c,b,l⟩:=by
  unfold na;rw[aC,u];rfl
 have P:A_ ((p,⟨i,0,g,e,w⟩),↑d)=(b=0/\a<p.1.length/\(bb (gq p) ⟨a,0,c,b,l⟩ 42\/bb (gq p) ⟨a,0,c,b,l⟩ 43\/bb (gq p) ⟨a,0,c,b,l⟩ 63\/bb (gq p) ⟨a,0,c,b,l⟩ 123)):=by
  unfold A_;rw[u]
 have H:j5 ((p,⟨i,0,g,e,w⟩),↑d)=if b≠0\/(gq p).length<=a then(⟨a,0,c,b,l⟩,x) else if bb (gq p) ⟨a,0,c,b,l⟩ 42 then jG (gq p) ⟨a+1,0,c,b,l⟩ 0 (-1) x else if bb (gq p) ⟨a,0,c,b,l⟩ 43 then jG (gq p) ⟨a+1,0,c,b,l⟩ 1 (-1) x else if bb (gq p) ⟨a,0,c,b,l⟩ 63 then jG (gq p) ⟨a+1,0,c,b,l⟩ 0 1 x else if bb (gq p) ⟨a,0,c,b,l⟩ 123 then jG (gq p) (ey (gq p) ⟨a,0,c,b,l⟩).1 (ey (gq p) ⟨a,0,c,b,l⟩).2.1 (ey (gq p) ⟨a,0,c,b,l⟩).2.2 x else(⟨a,0,c,b,l⟩,x):=by
  unfold j5;rw[aC,m];unfold si;rw[show ga (gq p) B ((d:Int).toNat) (nn ⟨i,0,g,e,w⟩)=(⟨a,0,c,b,l⟩,x) from ht];rfl
 have F:a<p.1.length->b=0->(bb (gq p) ⟨a,0,c,b,l⟩ 42\/bb (gq p) ⟨a,0,c,b,l⟩ 43\/bb (gq p) ⟨a,0,c,b,l⟩ 63\/bb (gq p) ⟨a,0,c,b,l⟩ 123)->j5 ((p,⟨i,0,g,e,w⟩),↑d)=jG (gq p) (na ((p,⟨i,0,g,e,w⟩),↑d)).1 (na ((p,⟨i,0,g,e,w⟩),↑d)).2.1 (na ((p,⟨i,0,g,e,w⟩),↑d)).2.2 x/\RB (gq p) 1 ⟨a,0,c,b,l⟩ (na ((p,⟨i,0,g,e,w⟩),↑d)).1:=λh1 W X=>by
  have nx:RB (gq p) 1 ⟨a,0,c,b,l⟩ ⟨a+1,0,c,b,l⟩:=⟨by grind,by grind,rfl,Zah _,C⟩;grind [Qe8]
 have R:rz (p,⟨a,0,c,b,l⟩)=ey (gq p) ⟨a,0,c,b,l⟩:=by unfold rz;rw[aC];rfl
 unfold Ir;simp only[bL,bC,Zad,Zan,Zao,Io,au,aT,br,dq,ZaY,ZaZ,u,R,P,bK (n:=a) ω];have same:j5 ((p,⟨i,0,g,e,w⟩),↑d)=(⟨a,0,c,b,l⟩,x)->x=(j5 ((p,⟨i,0,g,e,w⟩),↑d)).2/\(a:Int)=((j5 ((p,⟨i,0,g,e,w⟩),↑d)).1.i:Nat)/\(c:Int)=((j5 ((p,⟨i,0,g,e,w⟩),↑d)).1.ab:Nat)/\b=(j5 ((p,⟨i,0,g,e,w⟩),↑d)).1.an/\l=(j5 ((p,⟨i,0,g,e,w⟩),↑d)).1.wh:=λh=>by grind
 refine⟨⟨⟨q i g e w f.i f.g,⟨E.1,E.2⟩,h1⟩,ω⟩,λk1=>same (H.trans (Zac (.inl k1))),λk1=>⟨λk2=>same (H.trans (Zac (.inr ω))),λk2=>⟨⟨ZaF _,k2,?_⟩,λD=>?_⟩⟩⟩
 ·have o:a<p.1.length:=ω;have rune:∀r:Int,0<=r->r<128->(p.1.getD a 0=r↔bb (gq p) ⟨a,0,c,b,l⟩ r):=λr Z r1=>by
   rw[Ih r (show a<(gq p).length by omega),ZaP];show _↔aK (gq p) a=r
   rcases f.q.rune (i:=a) o with⟨_,h⟩ | ⟨_,h,Y⟩
   ·rw[h]
   ·omega
  refine⟨λv=>?_,λv=>⟨λz=>?_,λz=>⟨λv3=>?_,λv3=>⟨λK=>?_,λK=>?_⟩⟩⟩⟩
  ·grind
  ·grind
  ·grind
  ·have v:=λh=>v ((rune 42 (by decide) (by decide)).2 h)
   have z:=λh=>z ((rune 43 (by decide) (by decide)).2 h)
   have v3:=λh=>v3 ((rune 63 (by decide) (by decide)).2 h)
   rw[Q,Zaa v,Zaa z,Zaa v3];exact⟨⟨(q a c b l ω C),k2⟩,rfl,rfl,rfl,rfl,rfl,rfl,k1,o,.inr (.inr (.inr ((rune 123 (by decide) (by decide)).1 K)))⟩
  ·grind
 ·have⟨V,z2⟩:=F D.2.1 D.1 D.2.2;rw[V];generalize na ((p,⟨i,0,g,e,w⟩),↑d)=J at*
  have z3:=z2.len;rw[nz0 z2.op];have fit:∀n:Nd,((([n]++x).length:Nat):Int)*(72:Nat)<=140737488355328:=λn=>by grind
  have T:bb (gq p) J.1 63->ay .i64 ↑J.1.i 1=((J.1.i+1:Nat):Int):=λ_=>bK ω
  unfold jG;refine⟨⟨q _ _ _ _ ω z2.gm,by decide,by decide⟩,λk=>?_,λk=>?_⟩
  ·rw[T k,rp k,k];exact⟨fit _,rfl,rfl,rfl,rfl,rfl⟩
  ·rw[rq k,k];exact⟨fit _,rfl,rfl,rfl,rfl,rfl⟩
theorem Qjy (y:QD) (A:EN.pre y):Is y:=by
 have⟨⟨p,s⟩,d⟩:=y;obtain⟨h0,l,h1⟩:fw (p,s)/\(0<=d/\d<=20)/\s.i<p.1.length:=A;have⟨i,g,es,f⟩:=h0.out;have⟨_,_,_,e,w⟩:=s;cases es;obtain⟨d,rfl⟩:=Zau l.1;simp only at h1;have hl:=f.hl;have hlen:=f.len;have q:=λ(j k:Nat) (e w:Int) (z:j<=100000) (hk:k<=4)=>(⟨f.q,z,hk,hl,hlen⟩:QF p j k).ok e w
 obtain⟨B,x⟩:∃B,zk ((p,⟨i,0,g,e,w⟩),↑d)=B:=⟨_,rfl⟩;have c:∀D,zk ((p,D),↑d)=B:=λ_=>x
 have b:ix (gq p) (aI (gq p) i)=i:=EL f.q.n ω;have u:qR ((p,⟨((i+1:Nat):Int),0,g,e,w⟩),↑d,aI (gq p) i)=jh (gq p) B d ⟨i+1,0,g,e,w⟩ i:=by
  unfold qR;rw[aC,b];show jh (gq p) (zk ((p,_),↑d)) _ _ _=_
  rw[c];rfl
 have v:yv ((p,⟨((i+1:Nat):Int),0,g,e,w⟩),aI (gq p) i)=zy (gq p) ⟨i+1,0,g,e,w⟩ i:=by
  unfold yv;rw[aC,b];rfl
 have t:tL ((p,⟨((i+1:Nat):Int),0,g,e,w⟩),aI (gq p) i)=sf (gq p) ⟨i+1,0,g,e,w⟩ i:=by
  unfold tL;rw[b];rfl
 have a:gg ((p,⟨i,0,g,e,w⟩),↑d)=ga (gq p) B d ⟨i,0,g,e,w⟩:=by unfold gg;rw[aC,c];rfl
 have C:=q (i+1) g e w ω f.g;unfold Is;simp only[bL,bC,Zad,Io,au,dq,bK (n:=i) ω,u,v,t];have E:NW ((p,⟨((i+1:Nat):Int),0,g,e,w⟩),aI (gq p) i):=⟨by assumption,i,by grind,rfl⟩;refine⟨⟨(q i g e w ω f.g),ω⟩,ZaF _,h1,?_⟩;have G:=EM (gq p) (i+1) g i e w 4 _ rfl;rcases f.q.rune (i:=i) ω with⟨o,h⟩ | ⟨o,h,_⟩
 ·have F:=f.q.p0 i;rw[h];unfold ga at a;rw[Zaa (by grind)] at a;generalize aK (gq p) i=r at*
  generalize gg ((p,⟨i,0,g,e,w⟩),↑d)=at_ at*
  have nx:Ps.next ⟨i,0,g,e,w⟩=⟨i+1,0,g,e,w⟩:=rfl;refine⟨λk1=>?_,λk1=>⟨λk2=>?_,λk2=>⟨λk3=>?_,λk3=>⟨λk4=>?_,λk4=>⟨λk5=>?_,λk5=>⟨λk6=>?_,λk6=>?_⟩⟩⟩⟩⟩⟩
  ·rw[Zac k1] at a;rw[a];exact⟨⟨⟨C,⟨⟨l.1,l.2⟩,by assumption⟩,i,ω,rfl⟩,by show lZ _<lZ _+1;unfold lZ gd;simp only;omega⟩,rfl,rfl,rfl,rfl,rfl⟩
  ·grind
  ·grind
  ·rw[Zaa k1,Zaa k2,Zaa k3,Zac k4] at a;rw[a];exact⟨rfl,rfl,rfl,rfl,rfl⟩
  ·rw[Zaa k1,Zaa k2,Zaa k3,Zaa k4,Zac k5] at a;rw[a];exact⟨rfl,rfl,rfl,rfl,rfl⟩
  ·grind
  ·have W:(r=42\/r=43\/r=63\/r=123\/r=125\/r=93\/r=41\/r=124)->fw (p,⟨((i+1:Nat):Int),0,g,e,w⟩)/\[]=at_.2/\((i+1:Nat):Int)=↑at_.1.i/\(g:Int)=↑at_.1.ab/\cy (aB e 0) 4 e=at_.1.an/\cy (aB e 0) (aI (gq p) i) w=at_.1.wh:=λh=>by
    grind
   have N:¬(r=42\/r=43\/r=63\/r=123\/r=125\/r=93\/r=41\/r=124)->[xu [(r,r)]]=at_.2/\((i+1:Nat):Int)=↑at_.1.i/\(g:Int)=↑at_.1.ab/\e=at_.1.an/\w=at_.1.wh:=λh=>by
    grind
   refine⟨λm=>⟨λ_=>W ω,λn=>absurd m n⟩,λm1=>⟨λm=>⟨λ_=>W ω,λn=>absurd m n⟩,λm2=>⟨λm=>⟨λ_=>W ω,λn=>absurd m n⟩,λm3=>⟨λm=>⟨λ_=>W ω,λn=>absurd m n⟩,λm4=>⟨λm=>⟨λ_=>W ω,λn=>absurd m n⟩,λm5=>⟨λm=>⟨λ_=>W ω,λn=>absurd m n⟩,λm6=>⟨λm=>⟨λ_=>W ω,λn=>absurd m n⟩,λm7=>⟨λm=>⟨λ_=>W ω,λn=>absurd m n⟩,λm8=>⟨λm=>ω,λ_=>N ω⟩⟩⟩⟩⟩⟩⟩⟩⟩
 ·rw[h];have a:gg ((p,⟨i,0,g,e,w⟩),↑d)=(Ps.ax (gq p) ⟨i+1,0,g,e,w⟩ i 4,[]):=by
   rw[a];unfold ga;rw[Zac (o)];rfl
  grind
theorem Qjz (y:QG) (O:EO.pre y):It y:=by
  have⟨⟨p,s⟩,d,a0⟩:=y;obtain⟨h0,⟨L,h1⟩,r⟩:fw (p,s)/\((0<=d/\d<=20)/\s.i<=p.1.length)/\yu (gq p) a0:=O;have⟨i,g,es,f⟩:=h0.out;have⟨_,_,_,e,w⟩:=s;cases es;obtain⟨d,rfl⟩:=Zau L.1;simp only at h1;have I:=Ld r;have hl:=f.hl;have hlen:=f.len;have q:=λ(j k:Nat) (e w:Int) (N:j<=100000) (hk:k<=4)=>(⟨f.q,N,hk,hl,hlen⟩:QF p j k).ok e w
  obtain⟨B,o⟩:∃B,zk ((p,⟨i,0,g,e,w⟩),↑d)=B:=⟨_,rfl⟩;have H:qR ((p,⟨i,0,g,e,w⟩),↑d,a0)=jh (gq p) B d ⟨i,0,g,e,w⟩ (ix (gq p) a0):=by
    unfold qR;rw[aC];show jh (gq p) (zk ((p,⟨i,0,g,e,w⟩),↑d)) _ _ _=_
    rw[o];rfl
  have E:d<20->∀j k,eZ ((p,⟨(j:Nat),0,(k:Nat),e,w⟩),((d+1:Nat):Int))=B ⟨j,0,k,e,w⟩:=λM j k=>by
    rw[<-o];unfold eZ zk;rw[aC];simp only[Zad];rw[show 20-d=(20-(d+1))+1 by omega];rfl
  have A:vj (gq p) (20-d) B:=by
    have:=CB ((p,⟨i,0,g,e,w⟩),↑d);rw[o] at this;exact this
  unfold It;simp only[bL,bC,Zad,Zan,Zao,Io,au,aT,br,dq,ez0,Zbn,bK (n:=i) ω,bK (n:=d) ω,bK (n:=g) (by have:=f.g;omega)];have i2:ay .i64 ↑i 2=((i+2:Nat):Int):=by grind
  rw[i2];generalize W:qR ((p,⟨i,0,g,e,w⟩),↑d,a0)=R at*
  obtain⟨F,u⟩:∃F,ix (gq p) a0=F:=⟨_,rfl⟩;rw[u] at I H ⊢;have Z:=λer=>EM (gq p) i g F e w er a0 I.symm
  have X:Ps.next ⟨i,0,g,e,w⟩=⟨i+1,0,g,e,w⟩:=rfl;have Y:Ps.next (Ps.next ⟨i,0,g,e,w⟩)=⟨i+2,0,g,e,w⟩:=rfl;have bad:bb (gq p) ⟨i,0,g,e,w⟩ 63->bb (gq p) ⟨i+1,0,g,e,w⟩ 58=false->fw (p,⟨i,0,g,e,w⟩)/\[]=R.2/\(i:Int)=↑R.1.i/\(g:Int)=↑R.1.ab/\cy (aB e 0) 4 e=R.1.an/\cy (aB e 0) a0 w=R.1.wh:=λk1 k2=>by
    have:R=(Ps.ax (gq p) ⟨i,0,g,e,w⟩ F 4,[]):=by rw[H];exact Zac ⟨k1,k2⟩
    grind
  have main:(bb (gq p) ⟨i,0,g,e,w⟩ 63->bb (gq p) ⟨i+1,0,g,e,w⟩ 58)->R=(if 20<=d then(Ps.ax (gq p) ⟨i,0,g,e,w⟩ F 10,[]) else if bb (gq p) ⟨i,0,g,e,w⟩ 63=true then(fe (gq p) (B ⟨i+2,0,g,e,w⟩).1 F,(B ⟨i+2,0,g,e,w⟩).2) else if 4<=g then(Ps.ax (gq p) ⟨i,0,g,e,w⟩ F 13,[]) else(fe (gq p) (B ⟨i,0,g+1,e,w⟩).1 F,{ nd 6 with cap:=((g+1:Nat):Int),ae:=1 }::(B ⟨i,0,g+1,e,w⟩).2)):=λc=>by
    grind [jh]
  have tail:(bb (gq p) ⟨i,0,g,e,w⟩ 63->bb (gq p) ⟨i+1,0,g,e,w⟩ 58)->_:=λc=>by
    have m:=main c;refine(show((20:Int)<=d->fw (p,⟨i,0,g,e,w⟩)/\[]=R.2/\(i:Int)=↑R.1.i/\(g:Int)=↑R.1.ab/\cy (aB e 0) 10 e=R.1.an/\cy (aB e 0) a0 w=R.1.wh)/\
      ((d:Int)<20->(bb (gq p) ⟨i,0,g,e,w⟩ 63->((fw (p,⟨((i+2:Nat):Int),0,g,e,w⟩)/\Ul ((p,⟨((i+2:Nat):Int),0,g,e,w⟩),((d+1:Nat):Int)))/\lZ ((p,⟨((i+2:Nat):Int),0,g,e,w⟩),((d+1:Nat):Int))+4<lZ (gd ((p,⟨i,0,g,e,w⟩),↑d,a0)))/\
        (∀t,t=eZ ((p,⟨((i+2:Nat):Int),0,g,e,w⟩),((d+1:Nat):Int))->t.1.ak=0/\fw (p,⟨t.1.i,0,t.1.ab,t.1.an,t.1.wh⟩)/\(t.1.i:Int)<=90000/\t.2=R.2/\R.1=fe (gq p) t.1 F))/\
       (bb (gq p) ⟨i,0,g,e,w⟩ 63=false->((4:Int)<=g->fw (p,⟨i,0,g,e,w⟩)/\[]=R.2/\(i:Int)=↑R.1.i/\(g:Int)=↑R.1.ab/\cy (aB e 0) 13 e=R.1.an/\cy (aB e 0) a0 w=R.1.wh)/\
        ((g:Int)<4->((fw (p,⟨i,0,((g+1:Nat):Int),e,w⟩)/\Ul ((p,⟨i,0,((g+1:Nat):Int),e,w⟩),((d+1:Nat):Int)))/\lZ ((p,⟨i,0,((g+1:Nat):Int),e,w⟩),((d+1:Nat):Int))+4<lZ (gd ((p,⟨i,0,g,e,w⟩),↑d,a0)))/\
        (∀t,t=eZ ((p,⟨i,0,((g+1:Nat):Int),e,w⟩),((d+1:Nat):Int))->t.1.ak=0/\fw (p,⟨t.1.i,0,t.1.ab,t.1.an,t.1.wh⟩)/\(t.1.i:Int)<=90000/\t.2.length<=10000/\{ nd 6 with cap:=((g+1:Nat):Int),ae:=1 }::t.2=R.2/\R.1=fe (gq p) t.1 F)))) from⟨λk=>?_,λk=>⟨λk1=>?_,λk1=>⟨λk2=>?_,λk2=>?_⟩⟩⟩)
    · grind
    · rw[Zaa ω,Zac k1] at m;have l:=da (c k1);refine⟨⟨⟨q (i+2) g e w ω f.g,⟨ZaF _,by assumption⟩,by grind⟩,by show lZ _+4<lZ _;unfold lZ gd;simp only;omega⟩,λt ht=>?_⟩;rw[E ω] at ht;have⟨a,a2⟩:=A ⟨i+2,0,g,e,w⟩ (by assumption) f.g;rw[<-ht] at a a2 m;have a3:=a.len;exact⟨a.op,q _ _ _ _ ω a.gm,ω,by rw[m],by rw[m]⟩
    · grind
    · rw[Zaa ω,Zaa (by grind),Zaa ω] at m;refine⟨⟨⟨q i (g+1) e w ω ω,⟨ZaF _,by assumption⟩,h1⟩,by show lZ _+4<lZ _;unfold lZ gd;simp only;omega⟩,λt ht=>?_⟩;rw[E ω] at ht;have⟨a,a2⟩:=A ⟨i,0,g+1,e,w⟩ (by grind) (by grind);rw[<-ht] at a a2 m;have a3:=a.len;exact⟨a.op,q _ _ _ _ ω a.gm,ω,ω,by rw[m],by rw[m]⟩
  generalize eZ ((p,⟨((i+2:Nat):Int),0,g,e,w⟩),((d+1:Nat):Int))=U at tail ⊢;generalize eZ ((p,⟨i,0,((g+1:Nat):Int),e,w⟩),((d+1:Nat):Int))=V at tail ⊢;have G:∀t:Ps,t.ak=0->(⟨t.i,0,t.ab,t.an,t.wh⟩:Ps)=t:=λt h=>by rw[<-h]
  have l:i+1<p.1.length->(p.1.getD (i+1) 0=58↔bb (gq p) ⟨i+1,0,g,e,w⟩ 58):=λh=>by
    rw[Ih 58 (show i+1<(gq p).length by omega),ZaP];rcases f.q.rune (i:=i+1) h with⟨_,h⟩ | ⟨_,h,T⟩
    all_goals grind
  refine⟨⟨(q i g e w ω f.g),by decide,by decide⟩,λb=>⟨λJ=>bad b ?_,λJ=>⟨ZaF _,J,λP=>bad b ?_,λP=>?_⟩⟩,λb=>?_⟩
  · grind [Cv]
  · grind
  all_goals
    have c:bb (gq p) ⟨i,0,g,e,w⟩ 63->bb (gq p) ⟨i+1,0,g,e,w⟩ 58:=by
      grind
    have⟨Q,v⟩:=tail c;refine⟨Q,λk=>⟨λk1=>?_,λk1=>⟨((v k).2 k1).1,λk2=>?_⟩⟩⟩
    · have⟨x,z⟩:=(v k).1 k1;have⟨C,D,v3,K,v5⟩:=z U rfl;rw[G _ C,v5];exact⟨x,⟨D,v3,r⟩,K,rfl,rfl,rfl,rfl⟩
    · have⟨x,z⟩:=((v k).2 k1).2 k2;have⟨C,D,v3,K,v5,S⟩:=z V rfl;rw[G _ C,S];exact⟨x,⟨D,v3,r⟩,by rw[Zab,ZbA];omega,v5,rfl,rfl,rfl,rfl⟩
inductive Fr where
 | aH | cat | rep | zG | vg
variable {i:Nat} {G:List Gt}
def frC:Fr->bh D
 | .aH=>yw | .cat=>A8 | .rep=>A9 | .zG=>EN | .vg=>EO
def Qqg:∀i,(frC i).Y->Nat
 | .aH=>λy=>lZ y+4 | .cat=>λy=>lZ y+3 | .rep=>λy=>lZ y+2 | .zG=>λy=>lZ y+1 | .vg=>λy=>lZ (gd y)
def frF:Fr->Func
 | .aH=>f125 | .cat=>f183 | .rep=>f224 | .zG=>f254 | .vg=>f277
def QjA:Fr->s7
 | .aH=>[rv,Cx] | .cat=>[rv,Cx] | .rep=>[rv,Ij] | .zG=>[zJ,sF,Il,Ii,A3,pr] | .vg=>[rv,sF,NX]
def frO:∀i,(frC i).Y->cH D
 | .aH=>Qcr | .cat=>Qcs | .rep=>Qct | .zG=>λ_=>dY () | .vg=>λ_=>dY ()
def frL:List Fr:=[.aH,.cat,.rep,.zG,.vg]
set_option maxRecDepth 100000 in
theorem Qqh (b:Ok lW) (c:Ok pr):∀i,Ok (frC i):=
 xH frL frC Qqg (fn:=frF) (tab:=QjA) (fI:=frO)
  (λi=>match i with
   | .aH=>⟨yr,Qcn⟩ | .cat=>⟨yr,Qcn⟩ | .rep=>⟨yr,Qjm⟩ | .zG=>⟨EJ,uL,Qjn b c,Qco b,Qe4,c⟩ | .vg=>⟨yr,uL,Qjk⟩)
  (λi=>match i with
   | .aH=>by kernel_rfl | .cat=>by kernel_rfl | .rep=>by kernel_rfl | .zG=>by kernel_rfl | .vg=>by kernel_rfl)
  (λi=>match i with
   | .aH=>by kernel_rfl | .cat=>by kernel_rfl | .rep=>by kernel_rfl | .zG=>by kernel_rfl | .vg=>by kernel_rfl)
  λi=>match i with
   | .aH=>λy a=>Eq.mp (Um y) (Qjv y a) | .cat=>λy a=>Eq.mp (Un y) (Qjw y a) | .rep=>λy a=>Eq.mp (Uo y) (Qjx y a) | .zG=>λy a=>Eq.mp (Up y) (Qjy y a) | .vg=>λy a=>Eq.mp (Uq y) (Qjz y a)
def we (G:List Gt):List Int:=(List.range G.length).map λi=>if fi G i then-1 else aK G i
def vk (G:List Gt):List Int:=(List.range (G.length+1)).map (aI G)
def Iu:bh D:={ zH with f:=79 }
def Qqi (y:Iu.Y):cH D:=⟨[],[],[(506,⟨Nat,[7],λx=>[(5,.ptr 0 0),(6,Qvo (aI (bg y) x)),(8,Qvo x)],[],λx=>[(0,.cells [.grow 14 ((we (bg y)).take x) 1,.grow 5 ((vk (bg y)).take x) 2,Qvo 0,Qvo 0,Qvo 0,Qvo 0] 216 false),(1,.tok 14 21),(2,.tok 5 3)],3,λx=>x<=(bg y).length,λx=>(bg y).length-x⟩)],[],1,[]⟩
def Ur (y:List UInt8):Prop:=let b:=bg y;let q1:=b.length;let s:=(cm y).1;let t:=(cm y).2.2;let u:=(cm y).2.1;let w:=λp:Prop=>aa ([0,0,0,0]:List Int) p;aj (aw 120 (dD y)) ([]=s/\2=u/\0=t/\True) (Iv (y.length<=1000000)/\RAH y ((∃z:Nat,aa [b] (0=aI b z/\0=(z:Int)/\[]=List.take z (we b)/\[]=List.take z (vk b)/\w ((Iv (z<=q1)))))/\(∀x:Nat,let d:=List.take x (we b);let l:=aw (x:Int) (ag b);let e:=bM (List.take x (vk b)) [aI b x];let k:=gt (0,0) b (x:Int).toNat;let f:=((d,e),b7.mk 0 0 0 0 0);let a:=(eZ (f,0)).1;let c:=((a.i:Nat):Int);let g:=((a.ab:Nat):Int);let h:=aB a.an 0;let v:=aw c (ag d);let m:=aI (gq (d,e)) c.toNat;let j:=cy h 4 a.an;let n:=cy h m a.wh;let o:Prop:=((eZ (f,0)).2=s/\0=u/\0=t/\True);let q:Prop:=(aG 0 (x:Int)/\l/\bJ (ag (bM d [k.1])) 4/\aa [d] (aa [k.1] (bJ (ag e) 8/\aG 0 (x:Int)/\l/\∃z:Nat,aa [b] (ay .i64 (aI b x) k.2=aI b z/\ay .i64 (x:Int) 1=(z:Int)/\bM d [k.1]=List.take z (we b)/\e=List.take z (vk b)/\w ((Iv (z<=q1/\(q1-z)<(q1-x))))))));let r:Prop:=(aj (!h) (aa [a.an,a.wh] ([]=s/\a.an=u/\a.wh=t/\True)) (o));(Iv (x<=q1))->aj l (aG 0 (x:Int)/\l/\aj (aB k.1 65533) (aG 0 (x:Int)/\l/\aj (aB k.2 1) (bJ (ag (bM d [-1])) 4/\bJ (ag e) 8/\aG 0 (x:Int)/\l/\∃z:Nat,aa [b] (ay .i64 (aI b x) k.2=aI b z/\ay .i64 (x:Int) 1=(z:Int)/\bM d [-1]=List.take z (we b)/\e=List.take z (vk b)/\w ((Iv (z<=q1/\(q1-z)<(q1-x)))))) (q)) (q)) (bJ (ag e) 8/\Iv (fw f/\Ul (f,0))/\aa ([0]:List Int) (aa [d,e] (aa ([0,0,0,0]:List Int) (aj h (aa [a.an,c] (aa [d] (aj v (Iv (fw ((d,e),b7.mk c 0 g a.an a.wh)/\c<=(d.length:Int))/\aa [d,e] (aa [c,g,a.an,a.wh] (Iv (fw ((d,e),b7.mk c 0 g a.an a.wh)/\True)/\aa ([4,m]:List Int) (aa [d,e] (aa [c,g,a.an,a.wh] (aj (!(aB j 0)) (aa [j,n] ([]=s/\j=u/\n=t/\True)) (o))))))) (r)))) (aa [a.an] (r)))))))))
theorem jw (G:List Gt):(we G).length=G.length:=by grind [we]
theorem l0 (G:List Gt):(vk G).length=G.length+1:=by grind [vk]
theorem Iw (h:i<G.length):(we G)[i]'(by rw[jw];exact h)=if fi G i then-1 else aK G i:=by simp[we]
theorem yx (h:i<=G.length):(vk G)[i]'(by rw[l0];omega)=aI G i:=by simp[vk]
theorem eL {α:Type} {l:List α} (h:i<l.length) (d:α):l.getD i d=l[i]:=by grind
def ZZ (h:i<G.length):fi G i=(decide ((G.getD i (0,0)).1=65533)&&decide ((G.getD i (0,0)).2=1)):=K0 h
theorem Us (y:By):gq (we (bg y),vk (bg y))=bg y:=by
 have d:=(nR y.length y).2;refine Zdx (by rw[yq,jw]) λi h1 a=>?_
 have c:i<(we (bg y)).length:=by grind [jw]
 have b:(gq (we (bg y),vk (bg y)))[i]=(if (we (bg y)).getD i 0= -1 then 65533 else(we (bg y)).getD i 0,(vk (bg y)).getD (i+1) 0-(vk (bg y)).getD i 0):=by simp[gq]
 rw[b,eL c,eL (by rw[l0];omega),eL (by rw[l0];omega),Iw a,yx ω,yx ω,ik a];have f:aK (bg y) i=(bg y)[i].1:=by grind [aK]
 have e:=KK y i;grind [EI]
theorem Ut (y:By) (h:(bg y).length<=1000):Cw (we (bg y),vk (bg y)):=by
 have e:=Us y;refine⟨by grind [jw],λi hi=>?_,λi hi=>?_,by grind [l0,jw],by grind [He],by rw[e];exact(nR y.length y).2,by rw[e];exact KK y⟩
 ·grind [Iw,jw]
 ·grind [jw,l0,yx]
theorem Qqk (y:By) (v:Iu.pre y):Ur y:=by
 have hl:=EG y;have C:=(nR y.length y).2;have o:=yn (G:=bg y) C;unfold Ur;simp only[bL,bC,au,ib,aT,br,Zad,Zan,Zao,dq];have J:120<y.length->cm y=([],2,0):=λh=>Zac h
 refine⟨λh=>by grind,λh=>⟨ω,⟨0,by rfl,rfl,by simp,by simp,Zaj _⟩,λx O=>⟨λc=>?_,λc=>?_⟩⟩⟩
 ·have b:x<(bg y).length:=ω;have b1:=o x ω;have A:=o (x+1) ω;rw[ik b] at A;have p:=jw (bg y);have P:=l0 (bg y);have nxt:∀r,r=(if fi (bg y) x then-1 else aK (bg y) x)->((((List.take x (we (bg y))++[r]).length:Nat):Int)*(4:Nat)<=140737488355328)/\((((List.take x (vk (bg y))++[aI (bg y) x]).length:Nat):Int)*(8:Nat)<=140737488355328)/\0<=(x:Int)/\(x:Int)<((bg y).length:Int)/\∃z:Nat,ay .i64 (aI (bg y) x) ((bg y).getD x (0,0)).2=aI (bg y) z/\ay .i64 (x:Int) 1=(z:Int)/\List.take x (we (bg y))++[r]=List.take z (we (bg y))/\List.take x (vk (bg y))++[aI (bg y) x]=List.take z (vk (bg y))/\z<=(bg y).length/\(bg y).length-z<(bg y).length-x:=λr N=>by
   refine⟨by simp;omega,by simp;omega,ZaF _,c,x+1,?_,ba ω ω,?_,?_,b,ω⟩
   ·rw[ba ω ω,ik b]
   ·grind [List.take_succ,Iw]
   ·grind [List.take_succ,yx]
  have d:=ZZ b;refine⟨ZaF _,c,λk1=>⟨ZaF _,c,λk2=>?_,λk2=>?_⟩,λk1=>?_⟩
  ·grind
  ·exact⟨ZaF _,c,nxt _ (by rw[d,ZaN k2,Zbw];rfl)⟩
  ·exact⟨ZaF _,c,nxt _ (by rw[d,ZaN k1,Zcw];rfl)⟩
 ·have f:x=(bg y).length:=ω;subst f;have H:List.take (bg y).length (we (bg y))=we (bg y):=ZaA (by rw[jw];omega);have I:List.take (bg y).length (vk (bg y))++[aI (bg y) (bg y).length]=vk (bg y):=by
   have L:(bg y).length<(vk (bg y)).length:=by rw[l0];omega
   have M:=ZbE (l:=vk (bg y)) (i:=(bg y).length);grind [yx,l0]
  rw[H,I];have u:=Ut y ω;have m:=Us y;have q:=λ(j k:Nat) (e w:Int) (D:j<=100000) (hk:k<=4)=>(⟨u,D,hk,yq _,u.len⟩:QF (we (bg y),vk (bg y)) j k).ok e w
  obtain⟨a,n⟩:∃a,eZ (((we (bg y),vk (bg y)),⟨0,0,0,0,0⟩),0)=a:=⟨_,rfl⟩;have B:a=Cj (bg y) 21 0 Pe:=by
   rw[<-n];unfold eZ;rw[aC];show uA (gq (we (bg y),vk (bg y))) (Cj (gq (we (bg y),vk (bg y))) 20 1) 0 Pe=_
   rw[m];rfl
  obtain⟨g,E⟩:=Cz (bg y) 21 0 Pe (Zaj _) (Zaj _);rw[<-B] at g E;have p:=jw (bg y);have Q:=g.len;have F:=g.gm;rw[n,m,p];obtain⟨s,hs⟩:∃s,(if a.1.an=0/\a.1.i<(bg y).length then a.1.ax (bg y) a.1.i 4 else a.1)=s:=⟨_,rfl⟩;have K:cm y=if s.an≠0 then([],s.an,s.wh) else(a.2,0,0):=by
   grind [cm,Hf,GN]
  have t:=q a.1.i a.1.ab a.1.an a.1.wh ω F;refine⟨by grind,⟨q 0 0 0 0 ω ω,⟨ZaQ _,ω⟩,ZaF _⟩,λk=>⟨λk1=>⟨⟨t,ω⟩,t,λk2=>?_,λk2=>?_⟩,λk1=>⟨λk2=>absurd k k2,λ_=>?_⟩⟩,λk=>⟨λ_=>?_,λk2=>absurd k2 k⟩⟩
  ·grind [wrE,wrW]
  ·grind [cy]
  ·grind
  ·grind
def QjB (h1:Ok xY) (a:Ok lW) (b:Ok pr):Ok Iu:=okZ [xY,yw,zJ,sF] f79 Qqi ⟨h1,Qqh a b .aH,EJ,uL⟩ Qqk
def Uu (x:Nd):Option (Nd×Int):=
 if x.op=1\/x.op=7\/x.op=8 then some (⟨x.op,[],0,0,false,0,x.ae⟩,0)
 else if x.op=2 then(if x.r=aU x.r then some (⟨x.op,x.r,0,0,false,0,x.ae⟩,0) else none)
 else if x.op=3\/x.op=4 then(if x.ae<2 then none else some (⟨x.op,[],0,0,false,0,x.ae⟩,x.ae))
 else if x.op=5 then(if x.mn<0\/30<x.mn\/30<x.mx\/x.mx< -1\/(0<=x.mx/\x.mx<x.mn) then none else some (⟨x.op,[],x.mn,x.mx,x.lz,0,x.ae⟩,1))
 else if x.op=6 then(if x.cap<1\/4<x.cap then none else some (⟨x.op,[],0,0,false,x.cap,x.ae⟩,1))
 else none
def Uv (x:Nd):Nd×Int:=lk ((Uu x).getD (nd 0,0))
abbrev WY:=List Nd×Int×Int
def ES (y:WY):Nd:=y.1.getD y.2.1.toNat (nd 0)
def ob:Option Nat->Int
 | none=>-1
 | some b=>b
def nV (y:WY):Option Nat:=gC y.1 (241-y.2.2.toNat) y.2.1.toNat
def inW (args:List (AV D.E)) (s:St D.E):C WY:=match args with
 | [l,a,d]=>az (aL D s 7 l) λl=>aP (cT a) λ_ a=>aP (cT d) λ_ d=>.ret ((l:List Nd),a,d)
 | _=>.fail
def Uw (y:WY):Prop:=(y.1.length<=1000000/\∀x∈y.1,iO x)/\(0<=y.2.1/\y.2.1<=2000000)/\0<=y.2.2/\y.2.2<=241
def Ix:bh D:=bO 225 WY inW Uw (λy=>[.list 7 y.1,Qvo y.2.1,Qvo y.2.2]) λy=>Qvo (ob (lk (nV y)))
def Ux (y:WY):Prop:=y.2.1<y.1.length/\y.2.2<=240/\(Uu (ES y)).isSome
def NZ (y:WY) (x:Option Nat×Nat):Prop:=(x.1=none\/(x.2:Int)<=(Uv (ES y)).2)/\x.2<=y.1.length+1/\
 match x.1 with
 | none=>nV y=none
 | some b=>x.2<=b/\b<=y.1.length/\mY (gC y.1 (240-y.2.2.toNat)) ((Uv (ES y)).2.toNat-x.2) b=nV y
def Lj (y:WY) (x:Option Nat×Nat):Nat:=if x.1=none then 0 else y.1.length+1-x.2
def Qql (y:Ix.Y):cH D:=⟨[],[],[(4090,⟨Option Nat×Nat,[0,2,9],λx=>[(1,Qvo (ob x.1)),(10,Qvo x.2)],[],λ_=>[],0,NZ y,Lj y⟩)],
 [(63,⟨Unit,[0,1,2],λ_=>[(7,.ptr 0 0),(8,.ptr 1 0),(9,Qvo (Uv (ES y)).2)],[],λ_=>[(0,.cells (D.a_ 7 (ES y)) 206 false),(1,.cells (D.a_ 7 (Uv (ES y)).1) 206 false)],2,λ_=>Ux y,λ_=>0⟩)],1,[]⟩
def Qqm (y:Ix.Y):Prop:=vc [Ix.under (λy=>241-y.2.2.toNat) (241-y.2.2.toNat),x_] f225 Ix Qql y
def Uy:bh D:=bO 186 (List Nd×Int) (λa s=>match a with
 | [l,a]=>az (aL D s 7 l) λl=>aP (cT a) λ_ a=>.ret ((l:List Nd),a)
 | _=>.fail) (λy=>Uw (y.1,y.2,0)) (λy=>[.list 7 y.1,Qvo y.2]) λy=>Qvo (ob (lk (nV (y.1,y.2,0))))
def N0:bh D:={ Ie with f:=128 }
def Uz (y:List Nd) (x:Nat×Nat):Prop:=x.1<=y.length/\x.2<=x.1/\gV (y.drop x.1) x.2=gV y 0/\1<=y.length/\y.length<=480/\gC y 241 0=some y.length
def Qqo (y:N0.Y):cH D:=⟨[],[],[(122,⟨Nat×Nat,[0],λx=>[(3,Qvo ((x.2:Int)+1)),(4,Qvo x.1)],[],λ_=>[],0,Uz y,λx=>y.length-x.1⟩)],[],1,[]⟩
def UA (y:(List Nd)×Int×Int):Prop:=let c:=ES y;let q1:=(Uv c).1;let b:=ob (lk (nV y));let f:=(Uv c).2;let A:=!(aB c.ae f);let B:=!(oD c.lz q1.lz);let C:=!(aB c.cap q1.cap);let D:=!(aB c.mx q1.mx);let E:=!(aB c.mn q1.mn);let q:=ay .i64 y.2.2 1;let s:=aG (ag y.1) y.2.1;let t:=!(aB (ag c.r) (ag q1.r));let a:=gt (Nd.mk 0 [] 0 0 false 0 0) y.1 y.2.1.toNat;let u:=aw a.mx a.mn;let v:=!(decide (a.r=aU a.r));let e:=λp:Prop=>aa [y.1] (aa [y.2.1,y.2.2] p);let g:Prop:=(a.ae=q1.ae/\a.op=c.op/\a.r=c.r/\a.mn=c.mn/\a.mx=c.mx/\a.lz=c.lz/\a.cap=c.cap/\a.ae=c.ae/\(Iv (Ux y)));let j:Prop:=(0=q1.mn/\0=q1.mx/\false=q1.lz/\0=q1.cap/\g);let k:Prop:=(a.op=q1.op/\[]=q1.r/\j);let h:Prop:=(∃z:Unit,e (0=f/\k));let l:Prop:=(∃z:Unit,e (1=f/\a.op=q1.op/\[]=q1.r/\a.mn=q1.mn/\a.mx=q1.mx/\a.lz=q1.lz/\0=q1.cap/\g));let m:Prop:=(aj (aw a.ae 2) ((-1)=b/\True) (∃z:Unit,e (a.ae=f/\k)));let n:Prop:=(aj (aB a.op 5) (aa [a.mn,a.mx,a.mx] (aa [a.lz,a.lz,a.lz] (aj (aw a.mn 0) ((-1)=b/\True) (aj (aw 30 a.mn) ((-1)=b/\True) (aj (aw 30 a.mx) ((-1)=b/\True) (aj (aw a.mx (-1)) ((-1)=b/\True) (aj (aG 0 a.mx) (aj u ((-1)=b/\True) (l)) (l)))))))) (aj (aB a.op 6) (aj (aw a.cap 1) ((-1)=b/\True) (aj (aw 4 a.cap) ((-1)=b/\True) (∃z:Unit,e (1=f/\a.op=q1.op/\[]=q1.r/\0=q1.mn/\0=q1.mx/\false=q1.lz/\a.cap=q1.cap/\g)))) ((-1)=b/\True)));let i:Prop:=(aj (aB a.op 2) (Iv (a.r.length<=2000000)/\aa [a.r] (aj v ((-1)=b/\True) (∃z:Unit,e (0=f/\a.op=q1.op/\a.r=q1.r/\j)))) (aj (aB a.op 3) (aj (aB a.op 3) (m) (n)) (aj (aB a.op 4) (m) (n))));aj s ((-1)=b/\True) (aj (aw 240 y.2.2) ((-1)=b/\True) (aG 0 y.2.1/\aw y.2.1 (ag y.1)/\(aj (aB a.op 1) (aj (aB a.op 1) (h) (i)) (aj (aB a.op 7) (aj (aB a.op 7) (h) (i)) (aj (aB a.op 8) (h) (i))))/\(∀x:Unit,(Iv (Ux y))->aj A ((-1)=b/\True) (aj E ((-1)=b/\True) (aj D ((-1)=b/\True) (aj B ((-1)=b/\True) (aj C ((-1)=b/\True) (aj t ((-1)=b/\True) ((∃z:(Option Nat)×Nat,aa [y.1] (aa [y.2.2,f] (ay .i64 y.2.1 1=ob z.1/\0=(z.2:Int)/\(Iv (NZ y z)))))/\(∀o:(Option Nat)×Nat,let d:=ob o.1;let w:=aw (o.2:Int) f;(Iv (NZ y o))->aj w (aj (aG 0 d) (Iv (Uw (y.1,(d,q))/\(241-q.toNat)<(241-y.2.2.toNat))/\aa [y.1] (aa [d,q] (∃z:(Option Nat)×Nat,aa [y.1] (aa [y.2.2,f] (ob (lk (nV (y.1,(d,q))))=ob z.1/\ay .i64 (o.2:Int) 1=(z.2:Int)/\(Iv (NZ y z/\Lj y z<Lj y o))))))) (d=b/\True)) (d=b/\True)))))))))))
def Z0:∀y,UA y=Qqm y:=λy=>by kernel_rfl
def UB (y:(List Nd)×Int):Prop:=let a:=(y.1,(y.2,(0:Int)));let q1:=ob (lk (nV a));Iv (Uw a)/\aa [y.1] (aa ([y.2,0,q1]:List Int) (True))
def UC (y:List Nd):Prop:=let b:=ag y;let q1:=(y,((0:Int),(0:Int)));let d:=!(aB (ob (lk (nV q1))) b);aj (aB b 0) (false=dS y/\True) (aj (aw 480 b) (false=dS y/\True) (Iv (Uw q1)/\RAH y (RAD (aj d (false=dS y/\True) ((∃z:Nat×Nat,aa [y] (1=((z.2:Int)+1)/\0=(z.1:Int)/\(Iv (Uz y z))))/\(∀x:Nat×Nat,let a:=(x.1:Int);let c:=gt (Nd.mk 0 [] 0 0 false 0 0) y a.toNat;let e:=!(aB c.cap ((x.2:Int)+1));(Iv (Uz y x))->aj (aw a b) (aG 0 a/\aw a b/\aj (aB c.op 6) (aG 0 a/\aw a b/\aj e (false=dS y/\True) (∃z:Nat×Nat,aa [y] (ay .i64 ((x.2:Int)+1) 1=((z.2:Int)+1)/\ay .i64 a 1=(z.1:Int)/\(Iv (Uz y z/\(y.length-z.1)<(y.length-x.1)))))) (∃z:Nat×Nat,aa [y] (((x.2:Int)+1)=((z.2:Int)+1)/\ay .i64 a 1=(z.1:Int)/\(Iv (Uz y z/\(y.length-z.1)<(y.length-x.1)))))) (true=dS y/\True)))))))
def Ba (x b:Nd) (k:Int):Prop:=x.ae=k/\x.mn=b.mn/\x.mx=b.mx/\x.lz=b.lz/\x.cap=b.cap/\x.r.length=b.r.length
theorem Iy (x:Nd) (h:Uu x=none):nS x=none:=by
 grind [Uu,nS]
theorem Iz (x b:Nd) (k:Int) (h:Uu x=some (b,k)):(Ba x b k->nS x=some k)/\(¬Ba x b k->nS x=none):=by
 grind [Uu,nS,Ba]
theorem Z3 {x b:Nd} {k:Int} (h:Uu x=some (b,k)):0<=k:=by
 grind [Uu]
theorem Qqq (y:WY) (hy:Ix.pre y):UA y:=by
 obtain⟨l,a,d⟩:=y;obtain⟨⟨h1,m⟩,s,F⟩:(l.length<=1000000/\∀x∈l,iO x)/\(0<=a/\a<=2000000)/\0<=d/\d<=241:=hy;obtain⟨a,rfl⟩:=Zau s.1;obtain⟨d,rfl⟩:=Zau F.1;have t:nV (l,(a:Int),(d:Int))=gC l (241-d) a:=rfl;have E:ES (l,(a:Int),(d:Int))=l.getD a (nd 0):=rfl;have X:l.getD a ⟨0,[],0,0,false,0,0⟩=l.getD a (nd 0):=rfl;unfold UA;simp only[bL,bC,Zad,Zan,Zao,ZaP,Zbi,au,dq,ZaX,ZaY,ZaZ,X,E,aC];have stop:l.length<=a\/240<d->(-1:Int)=ob (nV (l,(a:Int),(d:Int))):=λh=>by
  rw[t];cases hd:241-d with
  | zero=>rfl
  | succ n=>
   unfold gC;rw[Zac ω];rfl
 refine⟨λk=>stop (.inl ω),λk=>⟨λk2=>stop (.inr ω),λk2=>⟨s.1,k,?_,λhJ=>?_⟩⟩⟩
 ·have H:a<l.length:=ω;have hr:(l.getD a (nd 0)).r.length<=2000000:=by
   grind [List.getElem_mem,iO]
  have bad:Uu (l.getD a (nd 0))=none->(-1:Int)=ob (nV (l,(a:Int),(d:Int))):=λh=>by
   rw[t,show 241-d=(240-d)+1 by omega];unfold gC;rw[Zaa ω,Iy _ h];rfl
  have J:∀b g,Uu (l.getD a (nd 0))=some (b,g)->Uv (l.getD a (nd 0))=(b,g)/\Ux (l,(a:Int),(d:Int)):=λb g h=>by
   refine⟨by grind [Uv,aC],show(a:Int)<(l.length:Int) by omega,k2,?_⟩;grind
  clear t;generalize nV (l,(a:Int),(d:Int))=W at*
  generalize Ux (l,(a:Int),(d:Int))=q at*
  generalize l.getD a (nd 0)=x at*
  generalize Uv x=Q at*
  unfold Uu at bad J;obtain⟨op,r,mn,mx,lz,cap,ae⟩:=x;simp only at bad J hr ⊢;generalize aU r=D at*
  clear m stop;have R:(op=1\/op=7\/op=8)->Q=(⟨op,[],0,0,false,0,ae⟩,0)/\q:=λh=>J _ _ (by rw[Zac h])
  have S:op=2->r=D->Q=(⟨op,r,0,0,false,0,ae⟩,0)/\q:=λh o=>J _ _ (by grind)
  have T:(op=3\/op=4)->¬ae<2->Q=(⟨op,[],0,0,false,0,ae⟩,ae)/\q:=λh o=>J _ _ (by grind)
  have U:op=5->¬(mn<0\/30<mn\/30<mx\/mx< -1\/(0<=mx/\mx<mn))->Q=(⟨op,[],mn,mx,lz,0,ae⟩,1)/\q:=λh o=>J _ _ (by grind)
  have V:op=6->¬(cap<1\/4<cap)->Q=(⟨op,[],0,0,false,cap,ae⟩,1)/\q:=λh o=>J _ _ (by grind)
  have L:op=2->¬r=D->-1=ob W:=λh o=>bad (by grind)
  have M:(op=3\/op=4)->ae<2->-1=ob W:=λh o=>bad (by grind)
  have N:op=5->(mn<0\/30<mn\/30<mx\/mx< -1\/(0<=mx/\mx<mn))->-1=ob W:=λh o=>bad (by grind)
  have O:op=6->(cap<1\/4<cap)->-1=ob W:=λh o=>bad (by grind)
  have P:¬(op=1\/op=7\/op=8)->op≠2->¬(op=3\/op=4)->op≠5->op≠6->-1=ob W:=λh1 m s F h5=>bad (by grind)
  clear bad J;generalize ob W=w at*
  obtain⟨u,v⟩:=Q;have q0:∀{p:Prop},(op=1\/op=7\/op=8)->(u=(⟨op,[],0,0,false,0,ae⟩:Nd)->v=0->q->p)->p:=λh f=>by
   grind
  have q2:∀{p:Prop},op=2->r=D->(u=(⟨op,r,0,0,false,0,ae⟩:Nd)->v=0->q->p)->p:=λh o f=>by
   grind
  have q3:∀{p:Prop},(op=3\/op=4)->¬ae<2->(u=(⟨op,[],0,0,false,0,ae⟩:Nd)->v=ae->q->p)->p:=λh o f=>by
   grind
  have q5:∀{p:Prop},op=5->¬(mn<0\/30<mn\/30<mx\/mx< -1\/(0<=mx/\mx<mn))->(u=(⟨op,[],mn,mx,lz,0,ae⟩:Nd)->v=1->q->p)->p:=λh o f=>by
   grind
  have q6:∀{p:Prop},op=6->¬(cap<1\/4<cap)->(u=(⟨op,[],0,0,false,cap,ae⟩:Nd)->v=1->q->p)->p:=λh o f=>by
   grind
  clear R S T U V
  with_reducible repeat' first | apply And.intro | intro _
  all_goals first
   | assumption
   | (exfalso;omega)
   | (apply P<;>omega)
   | (exact L (by assumption) (by assumption))
   | (apply M<;>omega)
   | (apply N<;>omega)
   | (apply O<;>omega)
   | (refine q0 ω λh1 m s=>?_;subst h1;subst m;first | rfl | assumption)
   | (refine q2 (by assumption) (by assumption) λh1 m s=>?_;subst h1;subst m;first | rfl | assumption)
   | (refine q3 ω ω λh1 m s=>?_;subst h1;subst m;first | rfl | assumption)
   | (refine q5 ω ω λh1 m s=>?_;subst h1;subst m;first | rfl | assumption)
   | (refine q6 ω ω λh1 m s=>?_;subst h1;subst m;first | rfl | assumption)
 ·obtain⟨j1,I,K⟩:=hJ;rw[E] at K;have H:a<l.length:=ω;obtain⟨⟨b,g⟩,B⟩:=Option.isSome_iff_exists.mp K;have hQ:Uv (l.getD a (nd 0))=(b,g):=by grind [Uv,aC]
  obtain⟨g1,g2⟩:=Iz _ _ _ B;have A:Ba (l.getD a (nd 0)) b g->nV (l,(a:Int),(d:Int))=mY (gC l (240-d)) g.toNat (a+1):=λh=>by
   rw[t,show 241-d=(240-d)+1 by omega];grind [gC]
  have j:¬Ba (l.getD a (nd 0)) b g->(-1:Int)=ob (nV (l,(a:Int),(d:Int))):=λh=>by
   rw[t,show 241-d=(240-d)+1 by omega];unfold gC;rw[Zaa ω,g2 h];rfl
  rw[hQ];simp only;refine⟨λe=>j λh=>absurd h.1 (by assumption),λe1=>⟨λe=>j λh=>absurd h.2.1 (by assumption),λe2=>⟨λe=>j λh=>absurd h.2.2.1 (by assumption),λe3=>⟨λe=>j λh=>absurd h.2.2.2.1 (by grind [oD]),λe4=>⟨λe=>j λh=>absurd h.2.2.2.2.1 (by assumption),λe5=>⟨λe=>j λh=>by have:=h.2.2.2.2.2;omega,λe6=>?_⟩⟩⟩⟩⟩⟩;have G:Ba (l.getD a (nd 0)) b g:=⟨by assumption,by assumption,by assumption,by grind [oD],by assumption,ω⟩;have eW:=A G;have C:∀x:Option Nat×Nat,NZ (l,(a:Int),(d:Int)) x↔((x.1=none\/(x.2:Int)<=g)/\x.2<=l.length+1/\match x.1 with
    | none=>nV (l,(a:Int),(d:Int))=none
    | some c=>x.2<=c/\c<=l.length/\mY (gC l (240-d)) (g.toNat-x.2) c=nV (l,(a:Int),(d:Int))):=λx=>by
   grind [NZ]
  clear t A j G;generalize nV (l,(a:Int),(d:Int))=W at*
  refine⟨⟨(some (a+1),0),by rw[bK ω];rfl,rfl,(C _).mpr ⟨.inr ?_,by simp,by simp,H,by grind⟩⟩,λx hx=>?_⟩
  ·exact Z3 B
  obtain⟨z,i⟩:=x;obtain⟨i1,i2,i3⟩:=(C _).mp hx;have hiL:(i:Int)=(i:Int):=rfl;cases z with
  | none=>
   have i3:W=none:=i3;rw[i3];refine⟨λe=>⟨λe2=>absurd (show(0:Int)<=-1 from e2) (by decide),λ_=>rfl⟩,λ_=>rfl⟩
  | some c=>
   obtain⟨c1,c2,c3⟩:i<=c/\c<=l.length/\mY (gC l (240-d)) (g.toNat-i) c=W:=i3;have i1:(i:Int)<=g:=i1.resolve_left (by simp);have I:(d:Int)<=240:=I;refine⟨λe=>⟨λe2=>?_,λe2=>absurd (show(c:Int)<0 from e2) ω⟩,λe=>?_⟩
   ·have e:(i:Int)<g:=e;have Y:ay .i64 (d:Int) 1=((d+1:Nat):Int):=bK ω;have Z:ay .i64 (i:Int) 1=((i+1:Nat):Int):=bK ω;rw[Y];refine⟨⟨⟨⟨h1,m⟩,⟨show(0:Int)<=(c:Int) by omega,show(c:Int)<=2000000 by omega⟩,show(0:Int)<=((d+1:Nat):Int) by omega,show((d+1:Nat):Int)<=241 by omega⟩,ω⟩,(gC l (240-d) c,i+1),?_,Z,(C _).mpr ⟨.inr (show((i+1:Nat):Int)<=g by omega),show i+1<=l.length+1 by omega,?_⟩,?_⟩
    ·rw[show nV (l,ob (some c),((d+1:Nat):Int))=gC l (241-(d+1)) c from rfl,show 241-(d+1)=240-d by omega]
    ·rw[show g.toNat-i=(g.toNat-(i+1))+1 by omega] at c3;unfold mY at c3;have B:=m_ l (240-d) c
     revert c3 B
     grind
    ·grind [Lj]
   ·have e:g<=(i:Int):=e;rw[show g.toNat-i=0 by omega] at c3;grind [mY]
def Qqr (y:List Nd×Int) (a:Uy.pre y):UB y:=by
 unfold UB;simp only[dw,Zai,kU];exact a
def QjC (h:Ok gA):Ok Ix:=RC (λy=>241-y.2.2.toNat) Z0 (SO h) Qqq
def QjD (h:Ok gA):Ok Uy:=okZ [Ix] f186 (λ_=>dY ()) (QjC h) Qqr
theorem Qqs (y:List Nd) (q:N0.pre y):UC y:=by
 have o:∀x∈y,iO x:=q;unfold UC;simp only[bL,bC,Zad,Zan,Zao,ZaP,Zbi,au,dq,ZaX,ZaY,ZaZ,aC];have d:nV (y,(0:Int),(0:Int))=gC y 241 0:=rfl;have f:=NR y;rw[d,<-f];clear f d;unfold Ic;refine⟨λk=>?_,λk=>⟨λk2=>?_,λk2=>⟨⟨⟨show y.length<=1000000 by omega,o⟩,⟨show(0:Int)<=0 by omega,show(0:Int)<=2000000 by omega⟩,show(0:Int)<=0 by omega,show(0:Int)<=241 by omega⟩,λk3=>?_,λk3=>⟨⟨(0,0),rfl,rfl,Zaj _,Zah _,rfl,ω,ω,?_⟩,λx p=>?_⟩⟩⟩⟩
 ·grind
 ·grind
 ·have e:¬gC y 241 0=some y.length:=λh=>k3 (by rw[h];rfl)
  grind
 ·revert k3
  generalize gC y 241 0=w;intro k3;cases w with
  | none=>exact absurd (show(-1:Int)=(y.length:Int) from k3) ω
  | some b=>rw[show b=y.length by have:(b:Int)=(y.length:Int):=k3;omega]
 ·obtain⟨i,g⟩:=x;obtain⟨c1,c2,c3,c4,c5,c6⟩:i<=y.length/\g<=i/\gV (y.drop i) g=gV y 0/\1<=y.length/\y.length<=480/\gC y 241 0=some y.length:=p;rw[show decide (1<=y.length)=true by grind,show decide (y.length<=480)=true by grind,c6,ZcB,ZbI,ZbI,ZbI,<-c3];refine⟨λe=>?_,λe=>?_⟩
  ·have e:i<y.length:=ω;have n:ay .i64 (i:Int) 1=((i+1:Nat):Int):=bK ω;have m:ay .i64 ((g:Int)+1) 1=((g+1:Nat):Int)+1:=by grind
   have l:y.getD i ⟨0,[],0,0,false,0,0⟩=y.getD i (nd 0):=rfl;have j:y.drop i=y.getD i (nd 0)::y.drop (i+1):=by
    simp_all
   generalize a:gV y 0=r at*
   simp only[l,n,m,Zad] at c3 ⊢;rw[j] at c3 ⊢;unfold gV at c3 ⊢;refine⟨ω,ω,λc=>⟨ω,ω,λe2=>?_,λe2=>?_⟩,λc=>?_⟩
   ·grind
   ·rw[Zac c,Zac e2] at c3;exact⟨(i+1,g+1),rfl,rfl,⟨by assumption,ω,c3.trans a.symm,c4,c5,c6⟩,ω⟩
   ·rw[Zaa c] at c3;exact⟨(i+1,g),rfl,rfl,⟨by assumption,ω,c3.trans a.symm,c4,c5,c6⟩,ω⟩
  ·have e:¬i<y.length:=ω;rw[show y.drop i=[] from Za9 ω];rfl
def Qcu (h:Ok gA):Ok N0:=okZ [Uy] f128 Qqo (QjD h) Qqs
def bF:ah:=.mk 0 [] 0 0 false 0 0 []
def IA (v:AV D.E):C ah:=az (asAgg v) λcs=>uW D 15 cs
def im (op:Int):List ah->ah
 | []=>.mk 1 [] 0 0 false 0 0 []
 | [k]=>k
 | a=>.mk op [] 0 0 false 0 0 a
def Qfa (args:List (AV D.E)) (s:St D.E):C (Int×List ah):=match args with
 | [o,l]=>aP (cT o) λ_ o=>az (aL D s 15 l) λl=>.ret (o,(l:List ah))
 | _=>.fail
def N5:bh D:=bO 219 (Int×List ah) Qfa (λy=>y.2.length<=1000000) (λy=>[Qvo y.1,.list 15 y.2]) λy=>.agg (D.a_ 15 (lk (im y.1 y.2)))
def eN (x:Nd):Bool:=x.op==5&&!x.lz&&x.mx==-1&&decide (x.mn<=1)
def UD:bh D:=bO 223 Nd (λa _=>Qi3 a) (λ_=>True) (λy=>[.agg (D.a_ 7 y)]) λy=>.bool (eN y)
def aF (op:Int) (a:List ah):List ah:=a.flatMap λk=>if k.op=op then k.ae else[k]
def N6:bh D:=bO 216 (Int×List ah) Qfa (λy=>y.2.length<=1000000/\(aF y.1 y.2).length<=1000000) (λy=>[Qvo y.1,.list 15 y.2]) λy=>.list 15 (aF y.1 y.2)
def Qqv (y:N6.Y):cH D:=⟨[],[],[(58,⟨Nat,[0,8,9],λx=>[(5,.grow 15 (aF y.1 (y.2.take x)) 0),(10,Qvo x)],[],λ_=>[(0,.tok 15 209)],1,λx=>x<=y.2.length/\(aF y.1 (y.2.take x)).length<=1000000,λx=>y.2.length-x⟩)],[],1,[]⟩
def jI (f:List Nd->Option (ah×List Nd)):Nat->List Nd->Option (List ah×List Nd)
 | 0,l=>some ([],l)
 | k+1,l=>match f l with
  | none=>none
  | some (t,a)=>match jI f k a with
   | none=>none
   | some (c,b)=>some (t::c,b)
def fN:Nat->List Nd->Option (ah×List Nd)
 | 0,_=>none
 | _+1,[]=>none
 | n+1,x::l=>match jI (fN n) x.ae.toNat l with
  | none=>none
  | some (b,a)=>some (.mk x.op x.r x.mn x.mx x.lz x.cap x.ae b,a)
def cu (l:List Nd):ah×List Nd:=lk ((fN l.length l).getD (bF,[]))
def IB:bh D:=bO 121 (List Nd) ZE (λy=>y.length<=1000000/\(fN y.length y).isSome) (λy=>[.list 7 y]) λy=>.tuple [.agg (D.a_ 15 (cu y).1),.list 7 (cu y).2]
def tM (y:List Nd):Nd:=y.getD 0 (nd 0)
def N7 (y:List Nd) (x:List ah×List Nd×Nat):Prop:=x.1.length=x.2.2/\x.2.2<=(tM y).ae.toNat/\x.2.1.length<y.length/\x.1.length+x.2.1.length+1<=y.length/\∃a l,jI (fN x.2.1.length) ((tM y).ae.toNat-x.2.2) x.2.1=some (a,l)/\x.1++a=(cu y).1.ae/\l=(cu y).2
def Qqx (y:IB.Y):cH D:=⟨[],[],[(122,⟨List ah×List Nd×Nat,[],λx=>[(0,.list 7 x.2.1),(2,.ptr 2 0),(4,.ptr 0 0),(14,Qvo (tM y).ae),(15,Qvo x.2.2)],[],λx=>[(0,.cells [Qvo (tM y).op,.list 6 (tM y).r,Qvo (tM y).mn,Qvo (tM y).mx,.bool (tM y).lz,Qvo (tM y).cap,Qvo (tM y).ae,.grow 15 x.1 1] 209 false),(1,.tok 15 209),(2,.cells (D.a_ 15 bF) 209 false)],3,N7 y,λx=>(tM y).ae.toNat-x.2.2⟩)],[],1,[]⟩
def Qqy (y:IB.Y):Prop:=vc [IB.under (λy=>y.length) y.length] f121 IB Qqx y
mutual
def aD:ah->List Nd
 | .mk op r mn mx lz cap _ ks=>⟨op,r,mn,mx,lz,cap,ks.length⟩::aA ks
def aA:List ah->List Nd
 | []=>[]
 | t::ts=>aD t++aA ts
end
def dg (t:ah):List Nd:=lk (aD t)
def dm (t:ah):Nat:=lk (SizeOf.sizeOf t)
def dO (t:ah):Prop:=(aD t).length<=1000000/\∀x∈aD t,iO x
def IC:bh D:=bO 123 ah (λa _=>match a with
 | [t]=>IA t
 | _=>.fail) dO (λy=>[.agg (D.a_ 15 y)]) λy=>.list 7 (dg y)
def pA (y:ah) (n:Nat):List Nd:=lk (⟨y.op,y.r,y.mn,y.mx,y.lz,y.cap,y.ae.length⟩::aA (y.ae.take n))
def Qqz (y:IC.Y):cH D:=⟨[],[],[(506,⟨Nat,[20,21],λx=>[(4,.grow 7 (pA y x) 0),(22,Qvo x)],[],λ_=>[(0,.tok 7 206)],1,λx=>x<=y.ae.length,λx=>y.ae.length-x⟩)],[],1,[]⟩
def QqA (y:IC.Y):Prop:=vc [IC.under dm (dm y)] f123 IC Qqz y
def UE (y:Int×(List ah)):Prop:=let a:=lk (im y.1 y.2);let q1:=gt (ah.mk 0 [] 0 0 false 0 0 []) y.2 0;aj (aB (ag y.2) 0) (1=a.op/\[]=a.r/\0=a.mn/\0=a.mx/\false=a.lz/\0=a.cap/\0=a.nk/\[]=a.ae/\True) (aj (aB (ag y.2) 1) (Tt 1 (aw 0 (ag y.2)/\q1.op=a.op/\q1.r=a.r/\q1.mn=a.mn/\q1.mx=a.mx/\q1.lz=a.lz/\q1.cap=a.cap/\q1.nk=a.nk/\q1.ae=a.ae/\True)) (y.1=a.op/\[]=a.r/\0=a.mn/\0=a.mx/\false=a.lz/\0=a.cap/\0=a.nk/\y.2=a.ae/\True))
def UF (y:Nd):Prop:=aj (aB y.op 5) (aj (!y.lz) (aj (aB y.mx (-1)) (aG y.mn 1=eN y/\True) (false=eN y/\True)) (false=eN y/\True)) (false=eN y/\True)
def UG (y:Int×(List ah)):Prop:=let b:=y.2.length;let q1:=ag y.2;let d:=λp:Prop=>aa [y.1] (aa [y.2] (aa [q1] p));(∃z:Nat,let e:=aF y.1 (List.take z y.2);d ([]=e/\0=(z:Int)/\(Iv (z<=b/\e.length<=1000000))))/\(∀x:Nat,let c:=aF y.1 (List.take x y.2);let a:=gt (ah.mk 0 [] 0 0 false 0 0 []) y.2 (x:Int).toNat;let f:=bM c [ah.mk a.op a.r a.mn a.mx a.lz a.cap a.nk a.ae];(Iv (x<=b/\c.length<=1000000))->aj (aw (x:Int) q1) (aG 0 (x:Int)/\aw (x:Int) q1/\aj (aB a.op y.1) (bJ (ag (bM c a.ae)) 96/\∃z:Nat,let g:=aF y.1 (List.take z y.2);d (bM c a.ae=g/\ay .i64 (x:Int) 1=(z:Int)/\(Iv ((z<=b/\g.length<=1000000)/\(b-z)<(b-x))))) (bJ (ag f) 96/\∃z:Nat,let h:=aF y.1 (List.take z y.2);d (f=h/\ay .i64 (x:Int) 1=(z:Int)/\(Iv ((z<=b/\h.length<=1000000)/\(b-z)<(b-x)))))) (c=aF y.1 y.2/\True))
abbrev RAC (p:Prop):Prop:=aa ([[]]:List (List (Int×Int))) p
abbrev RAG (p:Prop):Prop:=aa ([[]]:List (List ah)) p
def UH (y:List Nd):Prop:=let a:=tM y;let q1:=(cu y).1;let b:=gt (Nd.mk 0 [] 0 0 false 0 0) y 0;let f:=λp:Prop=>RAD (RAC (RAB p));let g:=λp:Prop=>RAB (RAG p);Tt 1 (aw 0 (ag y)=true/\Tt 1 (aG 1 (ag y)=true/\(∃z:(List ah)×(List Nd)×Nat,wD y 1=z.2.1/\b.ae=a.ae/\0=(z.2.2:Int)/\b.op=a.op/\b.r=a.r/\b.mn=a.mn/\b.mx=a.mx/\b.lz=a.lz/\b.cap=a.cap/\b.ae=a.ae/\[]=z.1/\f (false=false/\g ((Iv (N7 y z)))))/\(∀x:(List ah)×(List Nd)×Nat,let d:=x.2.1.length;let c:=(cu x.2.1).1;let h:=aw (x.2.2:Int) a.ae;let e:=bM x.1 [ah.mk c.op c.r c.mn c.mx c.lz c.cap c.nk c.ae];(Iv (N7 y x))->aj h (Iv ((d<=1000000/\Option.isSome (fN d x.2.1)=true)/\d<y.length)/\RAH x.2.1 (bJ (ag e) 96=true/\∃z:(List ah)×(List Nd)×Nat,(cu x.2.1).2=z.2.1/\aa [a.ae] (ay .i64 (x.2.2:Int) 1=(z.2.2:Int)/\aa [a.op] (aa [a.r] (aa [a.mn,a.mx] (aa [a.lz] (aa [a.cap,a.ae] (e=z.1/\f (false=false/\g ((Iv (N7 y z/\(a.ae.toNat-z.2.2)<(a.ae.toNat-x.2.2))))))))))))) (a.op=q1.op/\a.r=q1.r/\a.mn=q1.mn/\a.mx=q1.mx/\a.lz=q1.lz/\a.cap=q1.cap/\a.ae=q1.nk/\x.1=q1.ae/\x.2.1=(cu y).2/\True))))
def Z7:∀y,UH y=Qqy y:=λy=>by kernel_rfl
abbrev RA1 (v:ah) (p:Prop):Prop:=aa [v.op] (aa [v.r] (aa [v.mn] (aa [v.mx] (aa [v.lz] (aa [v.cap] (aa [v.nk] p))))))
def UI (y:ah):Prop:=let b:=y.ae;let q1:=ag b;bJ (ag y.r) 8=true/\(∃z:Nat,RAI b q1 (([Nd.mk y.op y.r y.mn y.mx y.lz y.cap q1]:List Nd)=pA y z/\0=(z:Int)/\(Iv (z<=b.length))))/\(∀x:Nat,let c:=b.length;let a:=gt (ah.mk 0 [] 0 0 false 0 0 []) b (x:Int).toNat;let d:=ah.mk a.op a.r a.mn a.mx a.lz a.cap a.nk a.ae;let e:=bM (pA y x) (dg d);(Iv (x<=c))->aj (aw (x:Int) q1) (aG 0 (x:Int)=true/\aw (x:Int) q1=true/\Iv (dO d/\dm d<dm y)/\RA1 a (RAH a.ae (bJ (ag e) 72=true/\∃z:Nat,aa [b] (aa [q1] (e=pA y z/\ay .i64 (x:Int) 1=(z:Int)/\(Iv (z<=c/\(c-z)<(c-x)))))))) (pA y x=dg y/\True))
def Z8:∀y,UI y=QqA y:=λy=>by kernel_rfl
theorem bR (t:ah):ah.mk t.op t.r t.mn t.mx t.lz t.cap t.nk t.ae=t:=by cases t;rfl
theorem QqB (y:Int×List ah) (d:N5.pre y):UE y:=by
 obtain⟨op,c⟩:=y;unfold UE;simp only[bL,bC,au,dq,aC]
 match c with
 | []=>exact⟨λ_=>⟨rfl,rfl,rfl,rfl,rfl,rfl,rfl,rfl⟩,λh=>absurd rfl h⟩
 | [k]=>exact⟨λh=>by grind,λ_=>⟨λ_=>⟨by simp,rfl,rfl,rfl,rfl,rfl,rfl,rfl,rfl⟩,λh=>by grind⟩⟩
 | a::b::l=>exact⟨λh=>by grind,λ_=>⟨λh=>by grind,λ_=>⟨rfl,rfl,rfl,rfl,rfl,rfl,rfl,rfl⟩⟩⟩
def Qcv:Ok N5:=okZ [] f219 (λ_=>dY ()) trivial QqB
theorem QqC (y:Nd) (_:UD.pre y):UF y:=by
 grind [UF,eN]
def QjE:Ok UD:=okZ [] f223 (λ_=>dY ()) trivial QqC
theorem ID (op:Int) (a b:List ah):aF op (a++b)=aF op a++aF op b:=by grind [aF]
theorem la (op:Int) (l:List ah) (n:Nat):(aF op (l.take n)).length<=(aF op l).length:=by
 grind [List.take_append_drop,ID]
theorem cq {α:Type} {l:List α} {n:Nat} (d:α) (h:n<l.length):l.take (n+1)=l.take n++[l.getD n d]:=by
 simp_all
theorem QqD (y:Int×List ah) (c:N6.pre y):UG y:=by
 obtain⟨op,a⟩:=y;obtain⟨h1,d⟩:a.length<=1000000/\(aF op a).length<=1000000:=c;unfold UG;simp only[bL,bC,au,aT,br,dq,bR,Zad];refine⟨⟨0,by rfl,rfl,ω,by simp[aF]⟩,λx f=>⟨λe=>⟨ω,e,λb=>?_,λb=>?_⟩,λe=>?_⟩⟩
 ·have e:x<a.length:=ω;have ht:=cq bF e;have hs:aF op (a.take (x+1))=aF op (a.take x)++(a.getD x bF).ae:=by
   grind [aF]
  grind [la]
 ·have e:x<a.length:=ω;have ht:=cq bF e;have hs:aF op (a.take (x+1))=aF op (a.take x)++[a.getD x bF]:=by
   grind [aF]
  grind [la]
 ·grind
def QjF:Ok N6:=okZ [] f216 Qqv trivial QqD
theorem Bb {f:List Nd->Option (ah×List Nd)} (c:∀l t a,f l=some (t,a)->a.length<l.length):∀(k:Nat) (l:List Nd) (b:List ah) (a:List Nd),jI f k l=some (b,a)->a.length<=l.length
 | 0,l,b,a,h=>by cases h;exact Zah _
 | k+1,l,b,a,h=>by
  unfold jI at h;split at h
  ·cases h
  ·rename_i t g ht
   split at h
   ·cases h
   ·rename_i e i d
    cases h;have:=c _ _ _ ht;have:=Bb c k _ _ _ d;omega
theorem sI:∀(n:Nat) (l:List Nd) (t:ah) (a:List Nd),fN n l=some (t,a)->a.length<l.length
 | 0,_,_,_,h=>nomatch h
 | _+1,[],_,_,h=>nomatch h
 | n+1,x::l,t,a,h=>by
  unfold fN at h;split at h
  ·cases h
  ·rename_i d c b
   cases h;have:=Bb (sI n) _ _ _ _ b;simp;omega
theorem pB {f g:List Nd->Option (ah×List Nd)} (N:Nat) (b:∀l t a,f l=some (t,a)->a.length<l.length) (h:∀l,l.length<=N->f l=g l):∀(k:Nat) (l:List Nd),l.length<=N->jI f k l=jI g k l
 | 0,l,_=>rfl
 | k+1,l,hl=>by
  unfold jI;rw[<-h l hl];cases e:f l with
  | none=>rfl
  | some p=>
   obtain⟨t,a⟩:=p;have:=b _ _ _ e;simp only;rw[pB N b h k a ω]
theorem ET:∀(n m:Nat) (l:List Nd),l.length<=n->l.length<=m->fN n l=fN m l
 | 0,0,l,_,_=>rfl
 | 0,m+1,l,h,_=>by
  cases l with
  | nil=>rfl
  | cons a l=>simp at h
 | n+1,0,l,_,h=>by
  cases l with
  | nil=>rfl
  | cons a l=>simp at h
 | n+1,m+1,l,h1,b=>by
  cases l with
  | nil=>rfl
  | cons a l=>
   simp only[Zae] at h1 b;unfold fN;rw[pB l.length (sI n) (λc hl=>ET n m c ω ω) _ l (Zah _)]
theorem QqE (y:List Nd) (A:IB.pre y):UH y:=by
 obtain⟨h1,v⟩:y.length<=1000000/\(fN y.length y).isSome:=A;cases y with
 | nil=>cases v
 | cons X b=>
 have o:tM (X::b)=X:=rfl;obtain⟨a,c,q⟩:∃a c,jI (fN b.length) X.ae.toNat b=some (a,c):=by
  grind [fN]
 have n:cu (X::b)=(ah.mk X.op X.r X.mn X.mx X.lz X.cap X.ae a,c):=by
  grind [cu,aC,fN]
 unfold UH;rw[n,o];simp only[bL,bC,au,aT,br,dq,bR,Zad];have h:∀x,N7 (X::b) x↔(x.1.length=x.2.2/\x.2.2<=X.ae.toNat/\x.2.1.length<b.length+1/\x.1.length+x.2.1.length+1<=b.length+1/\∃j l,jI (fN x.2.1.length) (X.ae.toNat-x.2.2) x.2.1=some (j,l)/\x.1++j=a/\l=c):=λx=>by
  unfold N7;rw[n,o];exact ZbW
 have C:b.length+1<=1000000:=by assumption
 refine⟨by grind,by grind,⟨([],b,0),rfl,rfl,rfl,rfl,rfl,rfl,rfl,rfl,rfl,rfl,rfl,(h _).mpr ⟨rfl,Zaj _,Zbr _,by simp,a,c,q,rfl,rfl⟩⟩,λx z=>?_⟩;obtain⟨m,rest,i⟩:=x;obtain⟨c1,c2,c3,c4,j,l,c5,c6,c7⟩:=(h _).mp z;simp only at c1 c2 c3 c4 c5 c6 c7 ⊢;refine⟨λe=>?_,λe=>?_⟩
 ·rw[show X.ae.toNat-i=(X.ae.toNat-(i+1))+1 by omega] at c5;unfold jI at c5;cases f:fN rest.length rest with
  | none=>rw[f] at c5;cases c5
  | some p=>
   obtain⟨t,d⟩:=p;rw[f] at c5;simp only at c5;have u:cu rest=(t,d):=by grind [cu,aC]
   have w:=sI _ _ _ _ f;rw[pB (g:=fN d.length) d.length (sI _) (λB hl=>ET _ _ B ω hl) _ d (Zah _)] at c5;split at c5
   ·cases c5
   ·rename_i k D s
    cases c5;rw[u];refine⟨⟨⟨ω,rfl⟩,by assumption⟩,by grind,(m++[t],d,i+1),rfl,bK ω,rfl,(h _).mpr ⟨by grind,show i+1<=X.ae.toNat by omega,by grind,by grind,k,l,s,by grind,c7⟩,show X.ae.toNat-(i+1)<X.ae.toNat-i by omega⟩
 ·rw[show X.ae.toNat-i=0 by omega] at c5;cases c5;exact⟨rfl,rfl,rfl,rfl,rfl,rfl,rfl,show m=a by grind,c7⟩
def QjG:Ok IB:=RC (λy=>y.length) Z7 trivial QqE
theorem cG (a b:List ah):aA (a++b)=aA a++aA b:=by
 induction a with
 | nil=>simp[aA]
 | cons x a c=>simp[aA,c]
theorem bT (y:ah):aD y=⟨y.op,y.r,y.mn,y.mx,y.lz,y.cap,y.ae.length⟩::aA y.ae:=by
 cases y;rw[aD];rfl
theorem iP {y:ah} {n:Nat} (h:n<y.ae.length):dm (y.ae.getD n bF)<dm y:=by
 unfold dm;rw[aC,aC,eL h];have:=ZdR (Zas h);obtain⟨op,r,mn,mx,lz,cap,nk,a⟩:=y;grind [ah.ae]
theorem QqF (y:ah) (f:IC.pre y):UI y:=by
 obtain⟨h1,b⟩:(aD y).length<=1000000/\∀x∈aD y,iO x:=f;have i:y.r.length<=1000000:=by
  have:=b ⟨y.op,y.r,y.mn,y.mx,y.lz,y.cap,y.ae.length⟩ (by grind [bT]);exact this
 unfold UI;simp only[bL,bC,au,aT,br,dq,bR,Zad,pA,dg,aC];have key:∀l:List ah,l.length<=(aA l).length:=by
  intro l
  induction l with
  | nil=>simp
  | cons a l k=>simp only[aA,Zab,Zae];rw[bT];simp;omega
 have h0:=h1;rw[bT] at h1;simp only[Zae] at h1;have hk:=key y.ae;refine⟨ω,⟨0,rfl,rfl,Zaj _⟩,λx j=>⟨λe=>?_,λe=>?_⟩⟩
 ·have e:x<y.ae.length:=ω;have ht:=cq bF e;have g:y.ae=y.ae.take x++(y.ae.getD x bF::y.ae.drop (x+1)):=by
   simp_all
  have c:aA y.ae=aA (y.ae.take x)++(aD (y.ae.getD x bF)++aA (y.ae.drop (x+1))):=by
   grind [cG,aA]
  have hs:aA (y.ae.take (x+1))=aA (y.ae.take x)++aD (y.ae.getD x bF):=by
   grind [cG,aA]
  have hlen:=ZaR List.length c;simp only[Zab] at hlen;have d:y.ae.getD x (ah.mk 0 [] 0 0 false 0 0 [])=y.ae.getD x bF:=rfl;rw[d];refine⟨ω,e |> λh=>ω,⟨⟨ω,λz hz=>b z ?_⟩,iP e⟩,?_,x+1,?_,bK ω,ω,ω⟩
  ·grind [bT]
  ·grind
  ·grind
 ·grind [bT]
def QjH:Ok IC:=RC dm Z8 trivial QqF
mutual
def ql:ah->Bool
 | .mk op _ _ _ _ _ _ ks=>op==6||kg ks
def kg:List ah->Bool
 | []=>false
 | t::ts=>ql t||kg ts
end
mutual
def UJ:ah->ah->Bool
 | .mk op r mn mx lz cap _ ks,b=>op==b.op&&mn==b.mn&&mx==b.mx&&lz==b.lz&&cap==b.cap&&decide (r=b.r)&&decide (ks.length=b.ae.length)&&sJ ks b.ae
def sJ:List ah->List ah->Bool
 | [],_=>true
 | a::l,b::m=>UJ a b&&sJ l m
 | _::_,[]=>false
end
variable {l:List ah} {i:Nat} {p:ah->Bool}
def fo (t:ah):Bool:=lk (ql t)
def ow (a b:ah):Bool:=lk (UJ a b)
def dT (l:List ah):Prop:=(aA l).length<=1000000/\∀x∈aA l,iO x
def uM (l:List ah):Nat:=lk (SizeOf.sizeOf l)
def yy (p:ah->Bool) (l:List ah):Int:=if l.findIdx p<l.length then l.findIdx p else-1
def vp (a:List (AV D.E)):C ah:=match a with
 | [t]=>IA t
 | _=>.fail
def QjI (a:List (AV D.E)) (s:St D.E):C (List ah):=match a with
 | [l,_]=>az (aL D s 15 l) λl=>.ret (l:List ah)
 | _=>.fail
def N8:bh D:=bO 222 ah (λa _=>vp a) dO (λy=>[.agg (D.a_ 15 y)]) λy=>.bool (fo y)
def UK:bh D:=bO 251 (List ah) QjI dT (λy=>[.list 15 y,.func (.func 222) [] []]) λy=>.bool (y.any fo)
def N9:bh D:=bO 249 (List ah) QjI dT (λy=>[.list 15 y,.func (.func 222) [] []]) λy=>Qvo (yy fo y)
def QjJ (y:N9.Y):cH D:=⟨[],[],[(26,{ X:=Nat,aO:=[0,1,7],sl:=λi=>[(8,Qvo i)],kp:=[],pc:=λ_=>[],nx:=0,inv:=λi=>i<=y.length/\∀j,j<i->fo (y.getD j bF)=false,me:=λi=>y.length-i })],[],1,[]⟩
def fgT (n:Nat):s7:=[N8.under (λy=>3*dm y) n,UK.under (λy=>3*uM y+2) n,N9.under (λy=>3*uM y+1) n]
def QqH (y:N8.Y):Prop:=vc (fgT (3*dm y)++[]) f222 N8 (λ_=>dY ()) y
def QqI (y:UK.Y):Prop:=vc (fgT (3*uM y+2)++[]) f251 UK (λ_=>dY ()) y
def QqJ (y:N9.Y):Prop:=vc (fgT (3*uM y+1)++[]) f249 N9 QjJ y
def QjK (a:List (AV D.E)):C (ah×ah):=match a with
 | [t,u]=>az (IA t) λx=>az (IA u) λy=>.ret (x,y)
 | _=>.fail
def QqK (a:List (AV D.E)) (s:St D.E):C (List ah×List ah):=match a with
 | [l,m,_]=>az (aL D s 15 l) λl=>az (aL D s 15 m) λm=>.ret ((l:List ah),(m:List ah))
 | _=>.fail
def N':bh D:=bO 253 (ah×ah) (λa _=>QjK a) (λy=>dO y.1) (λy=>[.agg (D.a_ 15 y.1),.agg (D.a_ 15 y.2)]) λy=>.bool (ow y.1 y.2)
def smL (l m:List ah):Bool:=lk (decide (l.length=m.length)&&sJ l m)
def N_:bh D:=bO 276 (List ah×List ah) QqK (λy=>dT y.1) (λy=>[.list 15 y.1,.list 15 y.2,.func (.func 253) [] []]) λy=>.bool (smL y.1 y.2)
def Z9 (y:List ah×List ah) (i:Nat):Prop:=i<=y.1.length/\y.1.length=y.2.length/\sJ (y.1.drop i) (y.2.drop i)=sJ y.1 y.2
def QjL (y:N_.Y):cH D:=⟨[],[],[(58,⟨Nat,[0,1,2,15,16],λi=>[(17,Qvo i)],[],λ_=>[],0,Z9 y,λi=>y.1.length-i⟩)],[],1,[]⟩
def fsT (n:Nat):s7:=[N'.under (λy=>2*dm y.1) n,N_.under (λy=>2*uM y.1+1) n]
def QqL (y:N'.Y):Prop:=vc (fsT (2*dm y.1)++[Et]) f253 N' (λ_=>dY ()) y
def QqM (y:N_.Y):Prop:=vc (fsT (2*uM y.1+1)++[]) f276 N_ QjL y
def UL (y:ah):Prop:=aj (aB y.op 6) (true=fo y/\True) (Iv (dT y.ae/\((3*uM y.ae)+2)<(3*dm y))/\aa [y.ae] (List.any y.ae fo=fo y/\True))
def Z':∀y,UL y=QqH y:=λy=>by kernel_rfl
def UM (y:List ah):Prop:=Iv (dT y/\((3*uM y)+1)<((3*uM y)+2))/\aa [y] (aG 0 (yy fo y)=List.any y fo/\True)
def Z_:∀y,UM y=QqI y:=λy=>by kernel_rfl
def UN (y:List ah):Prop:=let u:=λz:Nat=>(∀j:Nat,(Nat.le (Nat.succ j) z)->fo (List.getD y j bF)=false);(∃z:Nat,RAI y (ag y) (0=(z:Int)/\(Iv (z<=y.length/\u z))))/\(∀x:Nat,let b:=y.length;let q1:=aw (x:Int) (ag y);let a:=gt (ah.mk 0 [] 0 0 false 0 0 []) y (x:Int).toNat;let c:=ah.mk a.op a.r a.mn a.mx a.lz a.cap a.nk a.ae;(Iv (x<=b/\(∀j:Nat,(Nat.le (Nat.succ j) x)->fo (List.getD y j bF)=false)))->aj q1 (aG 0 (x:Int)/\q1/\Iv (dO c/\(3*dm c)<((3*uM y)+1))/\RA1 a (RAH a.ae (aj (fo c) ((x:Int)=yy fo y/\True) (∃z:Nat,aa [y] (aa [ag y] (ay .i64 (x:Int) 1=(z:Int)/\(Iv ((z<=b/\u z)/\(b-z)<(b-x))))))))) ((-1)=yy fo y/\True))
def δ:∀y,UN y=QqJ y:=λy=>by kernel_rfl
def UO (y:ah×ah):Prop:=let a:=y.1.ae;let q1:=!(aB y.1.mx y.2.mx);let b:=!(aB y.1.cap y.2.cap);let c:=!(aB y.1.op y.2.op);let d:=!(oD y.1.lz y.2.lz);let e:=!(aB y.1.mn y.2.mn);let f:=!(decide (y.1.r=y.2.r));RA1 y.1 (RA1 y.2 (RA1 y.2 (aj c (false=ow y.1 y.2/\True) (aj e (false=ow y.1 y.2/\True) (aj q1 (false=ow y.1 y.2/\True) (aj d (false=ow y.1 y.2/\True) (aj b (false=ow y.1 y.2/\True) (Iv True/\aa [y.1.r,y.2.r] (aj f (false=ow y.1 y.2/\True) (Iv (dT a/\((2*uM a)+1)<(2*dm y.1))/\aa [a,y.2.ae] (smL a y.2.ae=ow y.1 y.2/\True)))))))))))
def ε:∀y,UO y=QqL y:=λy=>by kernel_rfl
def UP (y:(List ah)×(List ah)):Prop:=let c:=ag y.1;let q1:=!(aB c (ag y.2));aj q1 (false=smL y.1 y.2/\True) ((∃z:Nat,aa [y.1,y.2,y.1] (aa [c] (0=(z:Int)/\(Iv (Z9 y z)))))/\(∀x:Nat,let a:=gt (ah.mk 0 [] 0 0 false 0 0 []) y.2 (x:Int).toNat;let b:=gt (ah.mk 0 [] 0 0 false 0 0 []) y.1 (x:Int).toNat;let d:=ah.mk b.op b.r b.mn b.mx b.lz b.cap b.nk b.ae;let e:=!(ow d (ah.mk a.op a.r a.mn a.mx a.lz a.cap a.nk a.ae));(Iv (Z9 y x))->aj (aw (x:Int) c) (aG 0 (x:Int)/\aw (x:Int) c/\aG 0 (x:Int)/\aw (x:Int) (ag y.2)/\Iv (dO d/\(2*dm d)<((2*uM y.1)+1))/\aa [b.op] (aa [b.r] (aa [b.mn,b.mx] (aa [b.lz] (aa [b.cap,b.nk] (aa [b.ae] (aa [a.op] (aa [a.r] (aa [a.mn,a.mx] (aa [a.lz] (aa [a.cap,a.nk] (aa [a.ae] (aj e (false=smL y.1 y.2/\True) (∃z:Nat,aa [y.1,y.2,y.1] (aa [c] (ay .i64 (x:Int) 1=(z:Int)/\(Iv (Z9 y z/\(y.1.length-z)<(y.1.length-x))))))))))))))))))) (true=smL y.1 y.2/\True)))
def ζ:∀y,UP y=QqM y:=λy=>by kernel_rfl
theorem yz (y:ah):uM y.ae<dm y:=by
 unfold uM dm;rw[aC,aC];obtain⟨op,r,mn,mx,lz,cap,nk,a⟩:=y;grind [ah.ae]
def CC (h:i<l.length):dm (l.getD i bF)<uM l:=by
 unfold uM dm;rw[aC,aC,eL h];exact ZdR (Zas h)
theorem dO.ae {y:ah} (h:dO y):dT y.ae:=by
 obtain⟨h1,a⟩:=h;rw[bT] at h1;simp only[Zae] at h1;exact⟨ω,λx b=>a x (by grind [bT])⟩
theorem dT.get (h:dT l) {n:Nat} (d:n<l.length):dO (l.getD n bF):=by
 obtain⟨h1,a⟩:=h;have c:l=l.take n++(l.getD n bF::l.drop (n+1)):=by
  simp_all
 have b:aA l=aA (l.take n)++(aD (l.getD n bF)++aA (l.drop (n+1))):=by
  grind [cG,aA]
 have hlen:=ZaR List.length b;simp only[Zab] at hlen;exact⟨ω,λx e=>a x (by grind)⟩
theorem tN (l:List ah):l.length<=(aA l).length:=by
 induction l with
 | nil=>simp
 | cons a l b=>simp only[aA,Zab,Zae];rw[bT];simp;omega
def dT.len (h:dT l):l.length<=1000000:=Zav (tN l) h.1
theorem EU (l:List ah):kg l=l.any fo:=by
 induction l with
 | nil=>simp[kg]
 | cons a l b=>rw[kg,ZdX,b];congr 1;unfold fo;rw[aC]
def UQ (y:ah):fo y=(y.op==6||y.ae.any fo):=by
 rw[<-EU];unfold fo;rw[aC];cases y;rfl
theorem QqN (y:ah) (a:N8.pre y):UL y:=by
 have a:dO y:=a;unfold UL;simp only[bC,oo,oq];rw[UQ];have:=yz y;refine⟨λh=>by grind,λh=>⟨⟨a.ae,ω⟩,?_⟩⟩;grind
theorem UR (h:∀j,j<l.length->p (l.getD j bF)=false):yy p l= -1:=by
 grind [yy]
theorem US (hi:i<l.length) (h:p (l.getD i bF)) (a:∀j,j<i->p (l.getD j bF)=false):yy p l=(i:Int):=by
 grind [List.findIdx_eq,yy]
theorem UT (p:ah->Bool) (l:List ah):aG 0 (yy p l)=l.any p:=by
 grind [yy]
def QqO (y:List ah) (a:UK.pre y):UM y:=by
 unfold UM;simp only[dw,Zai,kU];exact⟨⟨a,ω⟩,UT _ _⟩
theorem QqP (y:List ah) (a:N9.pre y):UN y:=by
 have a:dT y:=a;have hl:=a.len;unfold UN;simp only[bL,bC,au,dq,bR,Zad];refine⟨⟨0,rfl,Zaj _,λj d=>absurd d (Zbo _)⟩,λx ⟨g,c⟩=>⟨λe=>?_,λe=>?_⟩⟩
 ·have b:x<y.length:=ω;have c:∀j,j<x->fo (y.getD j bF)=false:=c;have hk:=CC b;have f:y.getD x (ah.mk 0 [] 0 0 false 0 0 [])=y.getD x bF:=rfl;rw[f];refine⟨ω,e,⟨a.get b,ω⟩,λh=>(US b h c).symm,λh=>⟨x+1,bK ω,⟨ω,λj d=>?_⟩,ω⟩⟩;grind
 ·grind [UR]
inductive Fg where
 | g | c | i
noncomputable section
def fgC:Fg->bh D
 | .g=>N8 | .c=>UK | .i=>N9
def QqQ:∀i,(fgC i).Y->Nat
 | .g=>λy=>3*dm y | .c=>λy=>3*uM y+2 | .i=>λy=>3*uM y+1
def fgF:Fg->Func
 | .g=>f222 | .c=>f251 | .i=>f249
def fgO:∀i,(fgC i).Y->cH D
 | .g=>λ_=>dY () | .c=>λ_=>dY () | .i=>QjJ
def QqR:∀i,Ok (fgC i):=
 xH [.g,.c,.i] fgC QqQ (fn:=fgF) (tab:=λ_=>[]) (fI:=fgO) (λ_=>trivial)
  (λi=>match i with
   | .g=>by kernel_rfl | .c=>by kernel_rfl | .i=>by kernel_rfl)
  (λi=>match i with
   | .g=>by kernel_rfl | .c=>by kernel_rfl | .i=>by kernel_rfl)
  λi=>match i with
   | .g=>λy a=>Eq.mp (Z' y) (QqN y a) | .c=>λy a=>Eq.mp (Z_ y) (QqO y a) | .i=>λy a=>Eq.mp (δ y) (QqP y a)
end
def QjM (a b:ah):ow a b=(a.op==b.op&&a.mn==b.mn&&a.mx==b.mx&&a.lz==b.lz&&a.cap==b.cap&&decide (a.r=b.r)&&smL a.ae b.ae):=by
 unfold ow smL;rw[aC,aC];obtain⟨op,r,mn,mx,lz,cap,nk,c⟩:=a;rw[UJ];rw[Bool.and_assoc (_&&decide (r=b.r))];rfl
theorem QqS (y:ah×ah) (c:N'.pre y):UO y:=by
 obtain⟨a,b⟩:=y;have c:dO a:=c;have:=yz a;unfold UO;simp only[bC,oo,oq,Zan,Zao,ZaP,Zbi,oD];rw[QjM];refine⟨λh=>?_,λh1=>⟨λh=>?_,λd=>⟨λh=>?_,λe=>⟨λh=>?_,λf=>⟨λh=>?_,λg=>⟨λh=>?_,λi=>⟨⟨c.ae,ω⟩,?_⟩⟩⟩⟩⟩⟩⟩
 ·grind
 ·grind
 ·grind
 ·grind
 ·grind
 ·grind
 ·grind
theorem Oa {l m:List ah} {i:Nat} (h1:i<l.length) (a:i<m.length):sJ (l.drop i) (m.drop i)=(ow (l.getD i bF) (m.getD i bF)&&sJ (l.drop (i+1)) (m.drop (i+1))):=by
 grind [List.drop_eq_getElem_cons,sJ,ow,aC]
theorem QqT (y:List ah×List ah) (c:N_.pre y):UP y:=by
 obtain⟨a,b⟩:=y;have c:dT a:=c;have hl:=c.len;unfold UP;simp only[bL,bC,au,dq,bR,Zad,Zan,Zao,smL,aC];refine⟨λh=>by grind,λh=>?_⟩;have h:a.length=b.length:=ω;rw[ZaK h,ZbI];refine⟨⟨0,rfl,Zaj _,h,rfl⟩,λx g=>?_⟩;obtain⟨i1,i2,i3⟩:x<=a.length/\a.length=b.length/\sJ (a.drop x) (b.drop x)=sJ a b:=g;refine⟨λe=>?_,λe=>?_⟩
 ·have d:x<a.length:=ω;have hk:=CC d;have f:∀l:List ah,l.getD x (ah.mk 0 [] 0 0 false 0 0 [])=l.getD x bF:=λ_=>rfl
  rw[f,f];rw[Oa d ω] at i3;refine⟨ω,e,ω,ω,⟨c.get d,ω⟩,λq=>?_,λq=>⟨x+1,bK ω,⟨show x+1<=a.length by omega,h,?_⟩,ω⟩⟩
  ·grind
  ·grind
 ·grind [sJ]
inductive Fs where
 | s | e
noncomputable section
def fsC:Fs->bh D
 | .s=>N' | .e=>N_
def QqU:∀i,(fsC i).Y->Nat
 | .s=>λy=>2*dm y.1 | .e=>λy=>2*uM y.1+1
def fsF:Fs->Func
 | .s=>f253 | .e=>f276
def QjN:Fs->s7
 | .s=>[Et] | .e=>[]
def fsO:∀i,(fsC i).Y->cH D
 | .s=>λ_=>dY () | .e=>QjL
def QqV:∀i,Ok (fsC i):=
 xH [.s,.e] fsC QqU (fn:=fsF) (tab:=QjN) (fI:=fsO)
  (λi=>match i with
   | .s=>Qb6 | .e=>trivial)
  (λi=>match i with
   | .s=>by kernel_rfl | .e=>by kernel_rfl)
  (λi=>match i with
   | .s=>by kernel_rfl | .e=>by kernel_rfl)
  λi=>match i with
   | .s=>λy a=>Eq.mp (ε y) (QqS y a) | .e=>λy a=>Eq.mp (ζ y) (QqT y a)
end
abbrev uN (l:List ah):List (Nat×AO D.E):=[(0,.arr 15 l 209 false)]
def Ob:bh D:=⟨216,Int×List ah,Qfa,λy=>y.2.length<=1000000/\(aF y.1 y.2).length<=1000000,λy=>[Qvo y.1,.list 15 y.2],λ_=>[],λy=>.own 0 8 (ag (aF y.1 y.2)),λy=>uN (aF y.1 y.2),0,1⟩
def QqW (y:Ob.Y):cH D:=⟨[],[6,7],[(58,⟨Nat,[0,8,9],λx=>[(5,.own 0 8 (ag (aF y.1 (y.2.take x)))),(10,Qvo x)],[],λx=>uN (aF y.1 (y.2.take x)),1,λx=>x<=y.2.length/\(aF y.1 (y.2.take x)).length<=1000000,λx=>y.2.length-x⟩)],[],1,[]⟩
def wg (t:ah):Bool:=t.op==1
def UU:bh D:=bO 218 ah (λa _=>vp a) (λ_=>True) (λy=>[.agg (D.a_ 15 y)]) λy=>.bool (wg y)
def QjO (v:AV D.E) (s:St D.E):C (List ah):=match v with
 | .own b _ _=>az (kB s b) λa=>az (gQ 15 a.c a.xs) λl=>.ret (l:List ah)
 | _=>.fail
def QjP (a:List (AV D.E)) (s:St D.E):C (List ah):=match a with
 | [l,_]=>QjO l s
 | _=>.fail
abbrev QjQ (y:List ah):List (AV D.E):=[.own 0 8 (ag y),.func (.func 218) [] []]
def Oc:bh D:=⟨249,List ah,QjP,λy=>y.length<=1000000,QjQ,uN,λy=>Qvo (yy wg y),uN,1,1⟩
def QqZ (y:Oc.Y):cH D:=⟨[],[],[(26,{ X:=Nat,aO:=[1,7],sl:=λi=>[(0,.own 0 8 (ag y)),(8,Qvo i)],kp:=[],pc:=λ_=>uN y,nx:=1,inv:=λi=>i<=y.length/\∀j,j<i->wg (y.getD j bF)=false,me:=λi=>y.length-i })],[],1,[]⟩
def hV (y:List ah):List ah:=y.filter λt=>!wg t
def Od:bh D:=⟨217,List ah,QjP,λy=>y.length<=1000000,QjQ,uN,λy=>.list 15 (lk (hV y)),λ_=>[],1,1⟩
def UW (y:List ah) (x:List ah×Nat×Nat):Prop:=x.1.length=y.length/\x.2.1<=x.2.2/\x.2.2<=y.length/\x.1.take x.2.1=hV (y.take x.2.2)/\x.1.drop x.2.2=y.drop x.2.2
def Qq1 (y:Od.Y):cH D:=⟨[],[],[(122,⟨List ah×Nat×Nat,[1],λx=>[(0,.own 0 8 (ag y)),(5,Qvo x.2.1),(6,Qvo x.2.2)],[],λx=>uN x.1,1,UW y,λx=>y.length-x.2.2⟩)],[],1,[]⟩
def EV (t:ah):ah:=im 3 (hV (aF 3 t.ae))
def ctC:bh D:=bO 179 ah (λa _=>vp a) (λy=>y.ae.length<=1000000/\(aF 3 y.ae).length<=1000000) (λy=>[.agg (D.a_ 15 y)]) λy=>.agg (D.a_ 15 (lk (EV y)))
abbrev rA (k:ah):List (Nat×AO D.E):=[(0,.cells (D.a_ 15 k) 209 false)]
def UX (v:AV D.E) (s:St D.E):C ah:=match v with
 | .ptr b _=>az (cR (s.h.get b)) λo=>match o with
  | .cells cs _ _=>uW D 15 cs
  | _=>.fail
 | _=>.fail
def UY:bh D:=⟨252,ah×ah,λa s=>match a with
 | [x,p]=>az (IA x) λx=>az (UX p s) λk=>.ret (x,k)
 | _=>.fail,λy=>dO y.1,λy=>[.agg (D.a_ 15 y.1),.ptr 0 0],λy=>rA y.2,λy=>.bool (ow y.1 y.2),λy=>rA y.2,1,1⟩
def QjS (a:List (AV D.E)) (s:St D.E):C (List ah×ah):=match a with
 | [l,f]=>match f with
  | .func _ _ c=>match c with
   | [p]=>az (aL D s 15 l) λl=>az (UX p s) λk=>.ret ((l:List ah),k)
   | _=>.fail
  | _=>.fail
 | _=>.fail
abbrev QjT (y:List ah×ah):List (AV D.E):=[.list 15 y.1,.func (.func 252) [] [.ptr 0 0]]
variable {l:List ah}
def Oe:bh D:=⟨249,List ah×ah,QjS,λy=>dT y.1,QjT,λy=>rA y.2,λy=>Qvo (yy (λx=>ow x y.2) y.1),λy=>rA y.2,1,1⟩
def Qq4 (y:Oe.Y):cH D:=⟨[],[],[(26,{ X:=Nat,aO:=[0,7],sl:=λi=>[(1,.func (.func 252) [] [.ptr 0 0]),(8,Qvo i)],kp:=[],pc:=λ_=>rA y.2,nx:=1,inv:=λi=>i<=y.1.length/\∀j,j<i->ow (y.1.getD j bF) y.2=false,me:=λi=>y.1.length-i })],[],1,[]⟩
def UZ:bh D:=⟨251,List ah×ah,QjS,λy=>dT y.1,QjT,λy=>rA y.2,λy=>.bool (y.1.any λx=>ow x y.2),λy=>rA y.2,1,1⟩
def eo (out:List ah):List ah->List ah
 | []=>out
 | k::l=>eo (if out.any (λx=>ow x k) then out else out++[k]) l
def Of:bh D:=bO 221 (List ah) (λa s=>match a with
 | [l]=>az (aL D s 15 l) λl=>.ret (l:List ah)
 | _=>.fail) dT (λy=>[.list 15 y]) λy=>.list 15 (eo [] y)
def U0 (y:List ah) (x:List ah×Nat):Prop:=x.2<=y.length/\eo x.1 (y.drop x.2)=eo [] y/\(aA x.1).length<=(aA (y.take x.2)).length/\∀n∈aA x.1,iO n
def Qq7 (y:Of.Y):cH D:=⟨[],[],[(58,⟨List ah×Nat,[6,7],λx=>[(3,.grow 15 x.1 0),(8,Qvo x.2)],[],λ_=>[(0,.tok 15 209)],1,U0 y,λx=>y.length-x.2⟩)],[],1,[]⟩
def U1 (y:Int×(List ah)):Prop:=let b:=y.2.length;let q1:=ag y.2;let h:=λp:Prop=>aa [y.1] (aa [y.2] (aa [q1] p));(∃z:Nat,let d:=aF y.1 (List.take z y.2);h (0=ag d/\0=(z:Int)/\[]=d/\(Iv (z<=b/\d.length<=1000000))))/\(∀x:Nat,let c:=aF y.1 (List.take x y.2);let a:=gt (ah.mk 0 [] 0 0 false 0 0 []) y.2 (x:Int).toNat;let i:=ag (bM c a.ae);let e:=bM c [ah.mk a.op a.r a.mn a.mx a.lz a.cap a.nk a.ae];(Iv (x<=b/\c.length<=1000000))->aj (aw (x:Int) q1) (aG 0 (x:Int)/\aw (x:Int) q1/\aj (aB a.op y.1) (bJ i 96/\∃z:Nat,let f:=aF y.1 (List.take z y.2);h (i=ag f/\ay .i64 (x:Int) 1=(z:Int)/\bM c a.ae=f/\(Iv ((z<=b/\f.length<=1000000)/\(b-z)<(b-x))))) (bJ (ag e) 96/\∃z:Nat,let g:=aF y.1 (List.take z y.2);h (ag e=ag g/\ay .i64 (x:Int) 1=(z:Int)/\e=g/\(Iv ((z<=b/\g.length<=1000000)/\(b-z)<(b-x)))))) (ag c=ag (aF y.1 y.2)/\c=aF y.1 y.2/\True))
def QjU (y:ah):Prop:=
 aB y.op 1=wg y/\
 True
def U2 (y:List ah):Prop:=let u:=λz:Nat=>(∀j:Nat,(Nat.le (Nat.succ j) z)->wg (List.getD y j bF)=false);(∃z:Nat,aa [ag y,ag y] (0=(z:Int)/\aa [y] ((Iv (z<=y.length/\u z)))))/\(∀x:Nat,let b:=y.length;let q1:=aw (x:Int) (ag y);let a:=gt (ah.mk 0 [] 0 0 false 0 0 []) y (x:Int).toNat;let c:=wg (ah.mk a.op a.r a.mn a.mx a.lz a.cap a.nk a.ae);(Iv (x<=b/\(∀j:Nat,(Nat.le (Nat.succ j) x)->wg (List.getD y j bF)=false)))->aj q1 (aG 0 (x:Int)/\q1/\Iv True/\RA1 a (RAH a.ae (aj c ((x:Int)=yy wg y/\aa [y] (True)) (∃z:Nat,aa [ag y,ag y] (ay .i64 (x:Int) 1=(z:Int)/\aa [y] ((Iv ((z<=b/\u z)/\(b-z)<(b-x))))))))) ((-1)=yy wg y/\RAH y (True)))
def U3 (y:List ah):Prop:=let c:=ag y;let q1:=aB (yy wg y) (-1);let u:=ah.mk 0 [] 0 0 false 0 0 [];Iv (y.length<=1000000)/\RAI c y (aj q1 (y=lk (hV y)/\True) ((∃z:(List ah)×Nat×Nat,aa [c] (yy wg y=(z.2.1:Int)/\ay .i64 (yy wg y) 1=(z.2.2:Int)/\y=z.1/\(Iv (UW y z))))/\(∀x:(List ah)×Nat×Nat,let b:=(x.2.1:Int);let d:=(x.2.2:Int);let a:=gt u x.1 d.toNat;let e:=ah.mk a.op a.r a.mn a.mx a.lz a.cap a.nk a.ae;(Iv (UW y x))->aj (aw d c) (aG 0 d/\aw d c/\Iv True/\aa [a.op] (aa [a.r] (aa [a.mn,a.mx] (aa [a.lz] (aa [a.cap,a.nk] (aa [a.ae] (aj (!(wg e)) (aG 0 b/\aw b c/\∃z:(List ah)×Nat×Nat,aa [c] (ay .i64 b 1=(z.2.1:Int)/\ay .i64 d 1=(z.2.2:Int)/\cS x.1 b.toNat e=z.1/\(Iv (UW y z/\(y.length-z.2.2)<(y.length-x.2.2))))) (∃z:(List ah)×Nat×Nat,aa [c] (b=(z.2.1:Int)/\ay .i64 d 1=(z.2.2:Int)/\x.1=z.1/\(Iv (UW y z/\(y.length-z.2.2)<(y.length-x.2.2)))))))))))) (aG 0 b/\aG b c/\aG 0 b/\aG b c/\dE (Dm x.1 b (c-b) (oF (c-b) u)) b=lk (hV y)/\True))))
def Qfb (y:ah):Prop:=let a:=lk (EV y);let q1:=aF 3 y.ae;let c:=lk (hV q1);let b:=lk (im 3 c);Iv (y.ae.length<=1000000/\q1.length<=1000000)/\RAI (3:Int) y.ae (Iv (q1.length<=1000000)/\aa [ag q1] (aa [q1] (Iv (c.length<=1000000)/\aa ([3]:List Int) (aa [c] (b.op=a.op/\b.r=a.r/\b.mn=a.mn/\b.mx=a.mx/\b.lz=a.lz/\b.cap=a.cap/\b.nk=a.nk/\b.ae=a.ae/\True)))))
def U4 (y:ah×ah):Prop:=let a:=ah.mk y.1.op y.1.r y.1.mn y.1.mx y.1.lz y.1.cap y.1.nk y.1.ae;Iv (dO a)/\RA1 y.1 (RAH y.1.ae (RA1 y.2 (RAH y.2.ae (ow a (ah.mk y.2.op y.2.r y.2.mn y.2.mx y.2.lz y.2.cap y.2.nk y.2.ae)=ow y.1 y.2/\aa [y.2.op] (aa [y.2.r] (aa [y.2.mn,y.2.mx] (aa [y.2.lz] (aa [y.2.cap,y.2.nk] (aa [y.2.ae] (True))))))))))
def U5 (y:(List ah)×ah):Prop:=let b:=ag y.1;let q1:=y.1.length;let d:=yy (λ(x:ah)=>ow x y.2) y.1;let c:=λp:Prop=>aa [y.2.op] (aa [y.2.r] (aa [y.2.mn,y.2.mx] (aa [y.2.lz] (aa [y.2.cap,y.2.nk] (aa [y.2.ae] p)))));(∃z:Nat,aa [y.1] (aa [b] (0=(z:Int)/\c ((Iv (z<=q1/\(∀j:Nat,(Nat.le (Nat.succ j) z)->ow (List.getD y.1 j bF) y.2=false)))))))/\(∀x:Nat,let a:=gt (ah.mk 0 [] 0 0 false 0 0 []) y.1 (x:Int).toNat;let e:=ah.mk a.op a.r a.mn a.mx a.lz a.cap a.nk a.ae;let f:=ow e (ah.mk y.2.op y.2.r y.2.mn y.2.mx y.2.lz y.2.cap y.2.nk y.2.ae);(Iv (x<=q1/\(∀j:Nat,(Nat.le (Nat.succ j) x)->ow (List.getD y.1 j bF) y.2=false)))->aj (aw (x:Int) b) (aG 0 (x:Int)/\aw (x:Int) b/\Iv (dO e)/\aa [a.op] (aa [a.r] (aa [a.mn,a.mx] (aa [a.lz] (aa [a.cap,a.nk] (aa [a.ae] (aa [y.2.op] (aa [y.2.r] (aa [y.2.mn,y.2.mx] (aa [y.2.lz] (aa [y.2.cap,y.2.nk] (aa [y.2.ae] (aj f ((x:Int)=d/\c (True)) (∃z:Nat,aa [y.1] (aa [b] (ay .i64 (x:Int) 1=(z:Int)/\c ((Iv ((z<=q1/\(∀j:Nat,(Nat.le (Nat.succ j) z)->ow (List.getD y.1 j bF) y.2=false))/\(q1-z)<(q1-x)))))))))))))))))))) ((-1)=d/\c (True)))
def U6 (y:(List ah)×ah):Prop:=Iv (dT y.1)/\aa [y.1] (aa [y.2.op] (aa [y.2.r] (aa [y.2.mn,y.2.mx] (aa [y.2.lz] (aa [y.2.cap,y.2.nk] (aa [y.2.ae] (aG 0 (yy (λ(x:ah)=>ow x (ah.mk y.2.op y.2.r y.2.mn y.2.mx y.2.lz y.2.cap y.2.nk y.2.ae)) y.1)=List.any y.1 (λ(x:ah)=>ow x y.2)/\aa [y.2.op] (aa [y.2.r] (aa [y.2.mn,y.2.mx] (aa [y.2.lz] (aa [y.2.cap,y.2.nk] (aa [y.2.ae] (True)))))))))))))
def U7 (y:List ah):Prop:=let c:=λp:Prop=>RAI y (ag y) p;(∃z:(List ah)×Nat,c ([]=z.1/\0=(z.2:Int)/\(Iv (U0 y z))))/\(∀x:(List ah)×Nat,let q1:=(x.2:Int);let a:=gt (ah.mk 0 [] 0 0 false 0 0 []) y q1.toNat;let b:=ah.mk a.op a.r a.mn a.mx a.lz a.cap a.nk a.ae;let d:=!(List.any x.1 (λ(e:ah)=>ow e b));(Iv (U0 y x))->aj (aw q1 (ag y)) (aG 0 q1/\aw q1 (ag y)/\Iv (dT x.1)/\RAH x.1 (RA1 a (RAH a.ae (aj d (bJ (ag (bM x.1 [b])) 96/\∃z:(List ah)×Nat,c (bM x.1 [b]=z.1/\ay .i64 q1 1=(z.2:Int)/\(Iv (U0 y z/\(y.length-z.2)<(y.length-x.2))))) (∃z:(List ah)×Nat,c (x.1=z.1/\ay .i64 q1 1=(z.2:Int)/\(Iv (U0 y z/\(y.length-z.2)<(y.length-x.2))))))))) (x.1=eo [] y/\True))
theorem Qq9 (y:Int×List ah) (c:Ob.pre y):U1 y:=by
 obtain⟨op,a⟩:=y;obtain⟨h1,d⟩:a.length<=1000000/\(aF op a).length<=1000000:=c;unfold U1;simp only[bL,bC,au,aT,br,dq,bR,Zad];refine⟨⟨0,by rfl,rfl,by rfl,ω,by simp[aF]⟩,λx f=>⟨λe=>⟨ω,e,λb=>?_,λb=>?_⟩,λe=>?_⟩⟩
 ·have e:x<a.length:=ω;have ht:=cq bF e;have hs:aF op (a.take (x+1))=aF op (a.take x)++(a.getD x bF).ae:=by
   grind [aF]
  grind [la]
 ·have e:x<a.length:=ω;have ht:=cq bF e;have hs:aF op (a.take (x+1))=aF op (a.take x)++[a.getD x bF]:=by
   grind [aF]
  grind [la]
 ·grind
def QjV:Ok Ob:=okZ [] f216 QqW trivial Qq9
def Qcx:Ok UU:=okZ (V:=QjU) [] f218 (λ_=>dY ()) trivial λy _=>⟨rfl,trivial⟩
theorem Qra (y:List ah) (f:Oc.pre y):U2 y:=by
 have hl:y.length<=1000000:=f;unfold U2;simp only[bL,bC,au,dq,bR,Zad];refine⟨⟨0,rfl,Zaj _,λj b=>absurd b (Zbo _)⟩,λx ⟨g,a⟩=>⟨λe=>?_,λe=>?_⟩⟩
 ·have c:x<y.length:=ω;have a:∀j,j<x->wg (y.getD j bF)=false:=a;have d:y.getD x (ah.mk 0 [] 0 0 false 0 0 [])=y.getD x bF:=rfl;rw[d];refine⟨ω,e,λh=>(US c h a).symm,λh=>⟨x+1,bK ω,⟨ω,λj b=>?_⟩,ω⟩⟩;grind
 ·grind [UR]
def QjW:Ok Oc:=okZ [UU] f249 QqZ Qcx Qra
theorem EW (p:ah->Bool) (l:List ah):(yy p l= -1/\∀j,j<l.length->p (l.getD j bF)=false)\/∃i:Nat,i<l.length/\yy p l=(i:Int)/\p (l.getD i bF)/\∀j,j<i->p (l.getD j bF)=false:=by
 grind [yy]
theorem EX (h:∀j,j<l.length->wg (l.getD j bF)=false):hV l=l:=by
 unfold hV;refine List.filter_eq_self.mpr λa b=>?_
 grind [List.getElem_of_mem]
theorem yB {n:Nat} (h:n<l.length):hV (l.take (n+1))=hV (l.take n)++(if wg (l.getD n bF) then[] else[l.getD n bF]):=by
 grind [hV,cq]
theorem U8 {i:Nat} {a:ah} (h:i<l.length):(l.set i a).take (i+1)=l.take i++[a]:=by
 rw[cq bF (by grind),List.take_set_of_le (Zah _),eL (by grind),List.getElem_set_self]
theorem Qrb (y:List ah) (f:Od.pre y):U3 y:=by
 have hl:y.length<=1000000:=f;unfold U3;simp only[bL,bC,au,dq,bR,Zad,aC,Zan,Zao];refine⟨hl,λh=>?_,λh=>?_⟩
 ·grind [EW,EX]
 ·obtain⟨i,i1,i2,i3,i4⟩:∃i:Nat,i<y.length/\yy wg y=(i:Int)/\wg (y.getD i bF)/\∀j,j<i->wg (y.getD j bF)=false:=by
   grind [EW]
  rw[i2];refine⟨⟨(y,i,i+1),rfl,bK ω,rfl,rfl,ZcR _,i1,?_,rfl⟩,λx d=>?_⟩
  ·show y.take i=hV (y.take (i+1))
   grind [yB,EX]
  ·obtain⟨a,i,j⟩:=x;obtain⟨c1,c2,c3,c4,c5⟩:a.length=y.length/\i<=j/\j<=y.length/\a.take i=hV (y.take j)/\a.drop j=y.drop j:=d;refine⟨λe=>⟨ω,e,?_⟩,λe=>⟨ω,by grind,ω,by grind,?_⟩⟩
   ·have e:j<y.length:=by grind
    have c:a.getD j (ah.mk 0 [] 0 0 false 0 0 [])=y.getD j bF:=by
     grind [List.drop_eq_getElem_cons]
    have b:a.drop (j+1)=y.drop (j+1):=by
     grind [List.drop_eq_getElem_cons]
    rw[c];refine⟨λq=>⟨ω,by grind,(a.set i (y.getD j bF),i+1,j+1),bK (show i<=1000000 by omega),bK (show j<=1000000 by omega),rfl,⟨by grind,show i+1<=j+1 by omega,show j+1<=y.length by omega,?_,?_⟩,show y.length-(j+1)<y.length-j by omega⟩,λq=>⟨(a,i,j+1),rfl,bK (show j<=1000000 by omega),rfl,⟨c1,show i<=j+1 by omega,show j+1<=y.length by omega,?_,b⟩,show y.length-(j+1)<y.length-j by omega⟩⟩
    ·grind [U8,yB]
    ·grind [List.drop_set_of_lt]
    ·grind [yB]
   ·grind [dE,Dm,Int.toNat_natCast]
def QjX:Ok Od:=okZ [UU,Oc] f217 Qq1 ⟨Qcx,QjW⟩ Qrb
def U9 (l:List ah):(hV l).length<=l.length:=List.length_filter_le _ _
def ctH (y:ah) (b:ctC.pre y):Qfb y:=by
 obtain⟨h1,a⟩:y.ae.length<=1000000/\(aF 3 y.ae).length<=1000000:=b;have:=U9 (aF 3 y.ae);unfold Qfb;simp only[dw,Zai,kU,aC];exact⟨⟨h1,a⟩,a,ω,rfl,rfl,rfl,rfl,rfl,rfl,rfl,rfl⟩
def Qrc:Ok ctC:=okZ [Ob,Od,N5] f179 (λ_=>dY ()) ⟨QjV,QjX,Qcv⟩ ctH
theorem Qrd (y:ah×ah) (a:UY.pre y):U4 y:=by
 have a:dO y.1:=a;grind [U4,bR]
def QjY:Ok UY:=okZ [N'] f252 (λ_=>dY ()) (QqV .s) Qrd
theorem Qre (y:List ah×ah) (a:Oe.pre y):U5 y:=by
 obtain⟨y,k⟩:=y;have a:dT y:=a;have hl:=a.len;unfold U5;simp only[bL,bC,au,dq,bR,Zad];refine⟨⟨0,rfl,Zaj _,λj d=>absurd d (Zbo _)⟩,λx ⟨g,b⟩=>⟨λe=>?_,λe=>?_⟩⟩
 ·have c:x<y.length:=ω;have b:∀j,j<x->ow (y.getD j bF) k=false:=b;have f:y.getD x (ah.mk 0 [] 0 0 false 0 0 [])=y.getD x bF:=rfl;rw[f];refine⟨ω,e,a.get c,λh=>(US (p:=λx=>ow x k) c h b).symm,λh=>⟨x+1,bK ω,⟨ω,λj d=>?_⟩,ω⟩⟩;grind
 ·grind [UR]
def QjZ:Ok Oe:=okZ [UY] f249 Qq4 QjY Qre
def Qrf (y:List ah×ah) (a:UZ.pre y):U6 y:=by
 unfold U6;simp only[dw,Zai,kU,bR];exact⟨a,UT _ _⟩
def Qj0:Ok UZ:=okZ [Oe] f251 (λ_=>dY ()) QjZ Qrf
theorem Qrg (y:List ah) (c:Of.pre y):U7 y:=by
 have c:dT y:=c;have hl:=c.len;unfold U7;simp only[bL,bC,au,aT,br,dq,bR,Zad,Zan,Zao];refine⟨⟨([],0),rfl,rfl,Zaj _,rfl,Zaj _,λn a=>by grind [aA]⟩,λx j=>?_⟩;obtain⟨o,i⟩:=x;obtain⟨c1,c2,c3,c4⟩:i<=y.length/\eo o (y.drop i)=eo [] y/\(aA o).length<=(aA (y.take i)).length/\∀n∈aA o,iO n:=j;have b:∀n,(aA (y.take n)).length<=(aA y).length:=λn=>by
  grind [List.take_append_drop,cG]
 have hO:dT o:=⟨by have:=b i;have:=c.1;omega,c4⟩;have h:=hO.len;refine⟨λe=>?_,λe=>?_⟩
 ·have d:i<y.length:=ω;have g:y.getD i (ah.mk 0 [] 0 0 false 0 0 [])=y.getD i bF:=rfl;have f:y.drop i=y.getD i bF::y.drop (i+1):=by simp_all
  have k:(aA (y.take (i+1))).length=(aA (y.take i)).length+(aD (y.getD i bF)).length:=by
   grind [cG,aA]
  rw[f,eo] at c2;rw[g];refine⟨ω,e,hO,λq=>?_,λq=>?_⟩
  ·rw[q] at c2;refine⟨by grind,(o++[y.getD i bF],i+1),rfl,bK ω,⟨show i+1<=y.length by omega,by assumption,?_,λn a=>?_⟩,show y.length-(i+1)<y.length-i by omega⟩
   ·grind [cG]
   ·rw[cG,aA,aA,Zaw] at a;rcases List.mem_append.mp a with a | a
    ·grind
    ·exact(c.get d).2 n a
  ·rw[q] at c2;exact⟨(o,i+1),rfl,bK ω,⟨show i+1<=y.length by omega,by assumption,show(aA o).length<=(aA (y.take (i+1))).length by omega,c4⟩,show y.length-(i+1)<y.length-i by omega⟩
 ·grind [eo]
def Qj1:Ok Of:=okZ [UZ] f221 Qq7 Qj0 Qrg
def tP (l:List ah):Prop:=∀t∈l,t.r.length<=1000000
def ox (l:List ah):ah:=l.getD (l.length-1) bF
def pC (r:List Rg):ah:=.mk 2 (aU r) 0 0 false 0 0 []
def dL (out:List ah) (k:ah):List ah:=if out.length≠0/\k.op=2/\(ox out).op=2 then out.set (out.length-1) (pC ((ox out).r++k.r)) else out++[k]
def bI (out:List ah):List ah->List ah
 | []=>out
 | k::l=>bI (dL out k) l
def Og:bh D:=bO 220 (List ah) (λa s=>match a with
 | [l]=>az (aL D s 15 l) λl=>.ret (l:List ah)
 | _=>.fail) (λy=>y.length<=1000000/\tP y) (λy=>[.list 15 y]) λy=>.list 15 (bI [] y)
def sK (y:List ah) (x:List ah×Nat):Prop:=x.2<=y.length/\bI x.1 (y.drop x.2)=bI [] y/\x.1.length<=x.2/\tP x.1
def Qrh (y:Og.Y):cH D:=⟨[],[9],[(58,⟨List ah×Nat,[8,9],λx=>[(3,.own 0 8 (ag x.1)),(10,Qvo x.2)],[],λx=>uN x.1,1,sK y,λx=>y.length-x.2⟩)],[],1,[]⟩
def Lk (t:ah):Nd:=⟨t.op,t.r,t.mn,t.mx,t.lz,t.cap,t.nk⟩
def bG (t:ah):ah:=t.ae.getD 0 bF
def vq (t:ah):ah:=.mk t.op t.r t.mn t.mx (t.lz&&decide (t.mn≠t.mx)) t.cap t.nk t.ae
def EY (k:ah) (n:Int):ah:=.mk k.op k.r (k.mn*n) k.mx k.lz k.cap k.nk k.ae
def cV (t:ah):ah:=
 if (bG t).op=1 then bG t
 else if t.mn=1/\t.mx=1 then bG t
 else if t.mx=0/\fo (bG t)=false then .mk 1 [] 0 0 false 0 0 []
 else if eN (Lk (vq t))/\eN (Lk (bG t))/\(bG (bG t)).op=2 then EY (bG t) t.mn
 else vq t
def π (y:ah):Prop:=1<=y.ae.length/\dO (bG y)/\0<=y.mn/\((bG y).op=5->0<=(bG y).mn/\1<=(bG y).ae.length)
def U':bh D:=bO 181 ah (λa _=>vp a) π (λy=>[.agg (D.a_ 15 y)]) λy=>.agg (D.a_ 15 (lk (cV y)))
end
end sx
end Go.Proofs.YtiiiphndmbabcaaGreat
