/- StreamAgain: a part of the proof. -/
import Derived.Test.YtfkmlhnhkdbjeaaGreatC7
set_option linter.all false
namespace Go.Proofs.YtfkmlhnhkdbjeaaGreat
open Go.Proofs.Tryz
set_option maxRecDepth 100000
set_option maxHeartbeats 4000000
namespace sx
noncomputable section
open Go Go.RowKit cls syn
variable {Z g:aZ} {y Y:aG} {s:im} {N:Int} {b:By} {o:List cH} {x:Nat}
theorem BV:∀(k lo hi:Nat) (t:By),ki k lo hi t->t.length<k
 | 0,_,_,_,h=>nomatch h
 | _+1,_,_,[],_=>Nat.succ_pos _
 | k+1,lo,hi,b::t,h=>by
  rw[ki] at h;split at h
  ·cases h
  ·exact Nat.succ_lt_succ (BV k 128 191 t h)
theorem Xk (h:gy b):b.length<=3:=by
 unfold gy at h;simp only[ZaW,ZaP] at h;have:=BV _ _ _ _ h.2;have a:=(jQ (b.getD 0 0).toNat).1;rw[Zbg] at this;change (mo b).1= -1\/(mo b).1=0\/(mo b).1=1\/(mo b).1=2\/(mo b).1=3 at a;omega
theorem GL:∀(k:Nat) (y:jz) (l:List Gt),0<=y.n->y.n<=4->y.n.toNat<=k->0<=(oG k y l).1.n/\(oG k y l).1.n<=3/\(di (oG k y l).1=[]\/gy (di (oG k y l).1))
 | 0,y,l,h0,a,h=>by
  have e:y.n=0:=ω;exact⟨h0,by show y.n<=3;omega,.inl (by show di y=[];unfold di;rw[e];rfl)⟩
 | k+1,y,l,h0,a,h=>by
  rw[oG];split
  ·rename_i b
   have ht:=C_ b.1 a;have c:(D6 y (kN y).2.toNat).n=y.n-(kN y).2:=by show y.n-((kN y).2.toNat:Int)=_;omega
   exact GL k _ _ ω ω ω
  ·grind [di,List.length_take,Xk]
theorem Xl (c:Int) (h:wX s N):wX (jm s c) (N+16):=by
 have⟨h1,g,_,f⟩:=h;have e:jm s c=_:=az _;rw[e];have⟨b,a2,a3⟩:=GL 4 (Bo s.d c) [] (by show 0<=s.d.n+1;omega) (by show s.d.n+1<=4;omega) (by show(s.d.n+1).toNat<=4;omega);refine⟨b,a2,a3,?_⟩;have hl:(t_ s.d c).2.length<=0+4:=yL 4 _ [];have a:=oH f (l:=(t_ s.d c).2) _ (Zah _);rw[ZaM] at a;have⟨g1,g2,g3,g4⟩:=a;exact⟨g1,g2,g3,by grind⟩
def Na {p:iY} (h1:Μ p.ag) (b:p.ai.length<=1000):Ub (wm p) 0:=by
 have hl:(wm p).L.length=p.ai.length:=by show(jH++(p.ai.take p.ai.length).map fL).length=_;simp[jH]
 refine⟨⟨⟨?_,λx a=>?_,h1⟩,ω,λl hl=>?_⟩,hl.symm,ZaQ _,ZaQ _⟩
 ·show(rE p.ag.length).length=_
  unfold rE;simp;rfl
 ·have:x=0:=Zdw (show x∈List.replicate (p.ag.length:Int).toNat (0:Int) from a);omega
 ·obtain⟨s,_,rfl⟩:=ZcL.1 hl;show 1<=1000000
  omega
theorem Nb (h:wX s N):wX (bS s) 0/\(bS s).v.L.length=s.v.L.length:=by
 have e:bS s=⟨HC,wm s.v.p⟩:=az _;have⟨_,_,_,a⟩:=h;rw[e];refine⟨⟨ZaQ _,by show(0:Int)<=3;omega,.inl rfl,Na a.1.1.2.2 (by have:=a.1.2.1;have:=a.2.1;omega)⟩,?_⟩;rw[<-a.2.1];show(jH++(s.v.p.ai.take s.v.p.ai.length).map fL).length=_
 simp[jH]
def wX.le {M:Int} (h:wX s N) (a:N<=M):wX s M:=⟨h.1,h.2.1,h.2.2.1,h.2.2.2.1,h.2.2.2.2.1,h.2.2.2.2.2.1,Int.le_trans h.2.2.2.2.2.2 a⟩
def wX.P (h:wX s N) (a:N<=900000000000):rI s:=⟨⟨h.1,h.2.1,h.2.2.2.1,h.2.2.2.2.1,h.2.2.2.2.2.1,by have:=h.2.2.2.2.2.2;omega⟩,h.2.2.1⟩
theorem rM.Q (h:rM Z y) (c:y.pos<=100000000):wo Z y:=by
 have⟨a,a2,a3,a4,a5,b⟩:=h;refine⟨⟨a.P ω,λk=>?_,λk=>?_⟩,a4,a5,c,b⟩
 ·have d:=(a2 k).1.P ω;grind [GK]
 ·exact⟨(a3 k).1.P ω,(a3 k).2⟩
theorem Nc (y:aG) (c:Int):(jw y c=1/\y.aO=false/\y.pos-y.aF<200)\/(jw y c=2/\y.aO=false)\/(jw y c=3/\y.aO=false)\/(jw y c=4/\y.aO)\/(jw y c=5/\y.aO):=by
 grind [jw,II,pD]
theorem uV (a:PW Z):sK Z y N=(bif fk Z y N then .o else .c):=by
 cases Z<;>first | rfl | cases a
theorem Qb (c:Int) (l:Z=.n\/Z=.c\/Z=.o) (h:rM Z y) (m:y.pos<=100000000):rM (sK Z y c) (oS Z y c)/\(fC Z y c).length<=1001:=by
 have j:=h.Q m;have⟨p,s,t,u,w⟩:=BU j;have⟨i,a2,a3,a4,a5,r⟩:=h;have hz:(0:Int)<=16*(y.pos+1):=ω;have e:16*y.pos+16=16*(y.pos+1):=ω;have A:wX (bS y.ax) (16*(y.pos+1)):=(Nb i).1.le hz;have B:∀d,wX (jm y.ax d) (16*(y.pos+1)):=λd=>e▸Xl d i
 have q:wX (bS (jm y.ax 10)) (16*(y.pos+1)):=(Nb (B 10)).1.le hz;have K:wX y.ax (16*(y.pos+1)):=i.le ω;have sl:=DC j.1.1;have halt:wX (iN Z y c) (16*(y.pos+1)):=by
  grind [iN,az,DD]
 have b:PW Z->wX (iq y c) (16*(y.pos+1))/\0<(iq y c).v.L.length:=λk=>by
  have⟨k1,k2⟩:=a2 k;have kp:=(k1.P ω).1;unfold iq;rw[az];split
  ·grind [Xl,Qe1]
  ·split
   ·exact⟨(Nb k1).1.le hz,by grind [Nb]⟩
   ·exact⟨k1.le ω,k2⟩
 have a:0<=bV y c/\bV y c<=y.pos+1/\(dm y c=false->y.pos+1-bV y c<=200):=by
  grind [Nc,bV,dm]
 have g:(fC Z y c).length<=1001:=by
  grind [uU,fC,az,pj]
 refine⟨?_,g⟩;rcases l with rfl | rfl | rfl
 ·exact⟨halt,nofun,nofun,a⟩
 ·refine⟨halt,λ_=>b rfl,λk=>?_,a⟩;exact⟨by show wX (ky .c y c) _;unfold ky;rw[az];exact B 10,sl,p,by show pD y<=500;omega⟩
 ·have⟨k1,k2,k3,k4⟩:=a3 rfl;have cl:=DC (j.1.2.2 rfl).1;refine⟨halt,λ_=>b rfl,λk=>?_,a⟩;have C:∀d,wX (jm y.bg d) (16*(y.pos+1)):=λd=>e▸Xl d k1
  refine⟨?_,?_,?_⟩
  ·show wX (ky .o y c) (16*(y.pos+1))
   unfold ky;rw[az];simp only;split
   ·exact C c
   ·split
    ·grind
    ·exact k1.le ω
  ·show(mg .o y c).length<=1000
   grind [mg]
  ·show 0<=kx .o y c/\kx .o y c<=500
   grind [kx,D7,HF]
theorem lX {f:aZ} {y:aG} {b:By} (a:f=.n\/f=.c\/f=.o) (h:rM f y) (e:y.pos+b.length<=100000000):∀k,k<=b.length->rM (b5 f y b k).1 (b5 f y b k).2.1/\(b5 f y b k).2.1.pos=y.pos+k/\(b5 f y b k).2.2.length<=1001*k/\(f=.n->(b5 f y b k).1=.n)/\(PW f->(b5 f y b k).1=.c\/(b5 f y b k).1=.o)
 | 0,_=>⟨h,by show y.pos=y.pos+0;omega,Zaj _,id,λk=>by rcases a with rfl | rfl | rfl;cases k;exact .inl rfl;exact .inr rfl⟩
 | k+1,hk=>by
  have⟨i1,i2,i3,i4,i5⟩:=lX (b:=b) a h e k ω;have d:(b5 f y b k).1=.n\/(b5 f y b k).1=.c\/(b5 f y b k).1=.o:=by
   rcases a with rfl | rfl | rfl
   ·grind
   all_goals exact .inr (i5 rfl)
  have⟨g,j⟩:=Qb ((b.getD k 0).toNat:Int) d i1 ω;refine⟨g,by show(b5 f y b k).2.1.pos+1=_;omega,?_,λk=>?_,λi=>?_⟩
  ·grind [b5]
  ·show sK _ _ _=_
   rw[i4 k];rfl
  ·grind [PW,b5,uV]
theorem bT {t:im} {p:Prop} (h:s=t) (a:p):fb s t p:=(W_ h).mpr a
def bc (b:By) (k:Nat):Int:=((b.getD k 0).toNat:Int)
def vK (h:b5 Z y b x=(g,Y,o)):b5 Z y b (x+1)=(sK g Y (bc b x),oS g Y (bc b x),o++fC g Y (bc b x)):=by
 rw[b5,h];rfl
theorem y3 (e:Z=.n\/Z=.c\/Z=.o) (i:An Z (y,b)) (h:b5 Z y b x=(g,Y,o)) (j:x<b.length):wo g Y/\(∀l:List cH,l=fC g Y (bc b x)->ba (ab (bn o l)) 104)/\ay .i64 (x:Int) 1=((x+1:Nat):Int):=by
 have⟨h1,d,a⟩:=i;have d:b.length<=1000000:=d;have a:y.pos+b.length<=100000000:=a;have⟨i1,i2,i3,_⟩:=lX e h1 a x ω;have hs:=(lX e h1 a (x+1) ω).2.2.1;rw[vK h] at hs;rw[h] at i1 i2 i3;refine⟨i1.Q (by grind),λl hl=>?_,bA ω ω⟩;grind
theorem Qno:Ok QbE:=okZ (V:=Qe2) [M8] Tryz.f9 (λy=>⟨[],[],[(58,fdL .n .n y)],[],1,[]⟩) QhQ λ(y:aG×By) l=>by
 have⟨y,b⟩:=y;unfold Qe2;simp only[ej,gH,cD,cP,cF,cC,gg,gF,iz,aw,Zad];refine⟨⟨0,rfl,rfl,rfl,rfl,rfl,bT rfl ⟨Zaj _,rfl⟩⟩,λx i=>?_⟩;have⟨j,a⟩:=i;generalize d:b5 .n y b x=R at a ⊢;have⟨g,r,o⟩:=R;obtain rfl:g=.n:=a;refine⟨λk=>?_,λk=>?_⟩
 ·have⟨c,e,f⟩:=y3 (.inl rfl) l d ω;have h:=vK d;refine⟨ω,k,⟨⟨c.1.1,nofun,nofun⟩,c.2⟩,e _ rfl,x+1,?_⟩;rw[h];exact⟨rfl,f,rfl,rfl,rfl,bT rfl ⟨⟨ω,rfl⟩,ω⟩⟩
 ·grind [bT]
def isO (g:aZ):Bool:=match g with
 | .o=>true
 | _=>false
def Ke {t:Bool} (e:x=b.length) (h:b5 Z y b x=(g,Y,o)) (ht:t=sw Z y b):t=isO g:=by
 rw[ht];show isO (b5 Z y b b.length).1=_
 rw[<-e,h]
theorem Qnp (y:aG×By) (m:y2 .c (y,true)):Kc y:=by
 have⟨y,b⟩:=y;have⟨m,ht⟩:=m;unfold Kc;simp only[ej,gH,cD,cP,cF,cC,gg,gF,iz,aw,Zad,Zd2,Zd3,Zdv,Zdt];refine⟨(),⟨0,rfl,rfl,rfl,rfl,rfl,bT rfl (bT rfl ⟨Zaj _,rfl⟩)⟩,λx n=>?_,λx n=>?_⟩
 ·have⟨p,a⟩:=n;generalize e:b5 .c y b x=R at a ⊢;have⟨g,r,o⟩:=R;obtain rfl:g=.c:=a;have j:=vK e;refine⟨λk=>?_,λk=>?_⟩
  ·have⟨f,h,i⟩:=y3 (.inr (.inl rfl)) m e ω;have l:wo .c ⟨y.ru,r.pos,r.aF,0,0,r.aO,[],r.ax,r.aT,fl⟩:=⟨⟨f.1.1,f.1.2.1,nofun⟩,f.2⟩;refine⟨ω,k,λq=>⟨⟨l,q.symm⟩,h _ rfl,x+1,?_⟩,λq=>⟨⟨l,q.symm⟩,h _ rfl,x+1,?_⟩⟩
   ·have d:sK .c r (bc b x)=.o:=by rw[uV rfl,show fk .c r (bc b x)=true from q];rfl
    rw[j,d];exact⟨rfl,i,rfl,rfl,rfl,rfl,rfl,rfl,bT rfl (bT rfl (bT rfl ⟨⟨ω,rfl⟩,ω⟩))⟩
   ·have d:sK .c r (bc b x)=.c:=by rw[uV rfl,show fk .c r (bc b x)=false from q];rfl
    rw[j,d];exact⟨rfl,i,rfl,rfl,rfl,bT rfl (bT rfl ⟨⟨ω,rfl⟩,ω⟩)⟩
  ·exact absurd (Ke ω e ht) nofun
 ·have⟨p,a⟩:=n;generalize e:b5 .c y b x=R at a ⊢;have⟨g,r,o⟩:=R;obtain rfl:g=.o:=a;have j:=vK e;refine⟨λk=>?_,λk=>?_⟩
  ·have⟨f,h,i⟩:=y3 (.inr (.inl rfl)) m e ω;have l:wo .o ⟨y.ru,r.pos,r.aF,r.aK,r.size,r.aO,r.aL,r.ax,r.aT,r.bg⟩:=f;refine⟨ω,k,λq=>⟨⟨l,q.symm⟩,h _ rfl,x+1,?_⟩,λq=>⟨⟨l,q.symm⟩,h _ rfl,x+1,?_⟩⟩
   ·have d:sK .o r (bc b x)=.o:=by rw[uV rfl,show fk .o r (bc b x)=true from q];rfl
    rw[j,d];exact⟨rfl,i,rfl,rfl,rfl,rfl,rfl,rfl,bT rfl (bT rfl (bT rfl ⟨⟨ω,rfl⟩,ω⟩))⟩
   ·have d:sK .o r (bc b x)=.c:=by rw[uV rfl,show fk .o r (bc b x)=false from q];rfl
    rw[j,d];exact⟨rfl,i,rfl,rfl,rfl,bT rfl (bT rfl ⟨⟨ω,rfl⟩,ω⟩)⟩
  ·grind [bT]
theorem Qnq (y:aG×By) (m:y2 .c (y,false)):Kd y:=by
 have⟨y,b⟩:=y;have⟨m,ht⟩:=m;unfold Kd;simp only[ej,gH,cD,cP,cF,cC,gg,gF,iz,aw,Zad,Zd2,Zd3,Zdv,Zdt];refine⟨(),⟨0,rfl,rfl,rfl,rfl,rfl,bT rfl (bT rfl ⟨Zaj _,rfl⟩)⟩,λx n=>?_,λx n=>?_⟩
 ·have⟨p,a⟩:=n;generalize e:b5 .c y b x=R at a ⊢;have⟨g,r,o⟩:=R;obtain rfl:g=.c:=a;have j:=vK e;refine⟨λk=>?_,λk=>?_⟩
  ·have⟨f,h,i⟩:=y3 (.inr (.inl rfl)) m e ω;have l:wo .c ⟨y.ru,r.pos,r.aF,0,0,r.aO,[],r.ax,r.aT,fl⟩:=⟨⟨f.1.1,f.1.2.1,nofun⟩,f.2⟩;refine⟨ω,k,λq=>⟨⟨l,q.symm⟩,h _ rfl,x+1,?_⟩,λq=>⟨⟨l,q.symm⟩,h _ rfl,x+1,?_⟩⟩
   ·have d:sK .c r (bc b x)=.o:=by rw[uV rfl,show fk .c r (bc b x)=true from q];rfl
    rw[j,d];exact⟨rfl,i,rfl,rfl,rfl,rfl,rfl,rfl,bT rfl (bT rfl (bT rfl ⟨⟨ω,rfl⟩,ω⟩))⟩
   ·have d:sK .c r (bc b x)=.c:=by rw[uV rfl,show fk .c r (bc b x)=false from q];rfl
    rw[j,d];exact⟨rfl,i,rfl,rfl,rfl,bT rfl (bT rfl ⟨⟨ω,rfl⟩,ω⟩)⟩
  ·grind [bT]
 ·have⟨p,a⟩:=n;generalize e:b5 .c y b x=R at a ⊢;have⟨g,r,o⟩:=R;obtain rfl:g=.o:=a;have j:=vK e;refine⟨λk=>?_,λk=>?_⟩
  ·have⟨f,h,i⟩:=y3 (.inr (.inl rfl)) m e ω;have l:wo .o ⟨y.ru,r.pos,r.aF,r.aK,r.size,r.aO,r.aL,r.ax,r.aT,r.bg⟩:=f;refine⟨ω,k,λq=>⟨⟨l,q.symm⟩,h _ rfl,x+1,?_⟩,λq=>⟨⟨l,q.symm⟩,h _ rfl,x+1,?_⟩⟩
   ·have d:sK .o r (bc b x)=.o:=by rw[uV rfl,show fk .o r (bc b x)=true from q];rfl
    rw[j,d];exact⟨rfl,i,rfl,rfl,rfl,rfl,rfl,rfl,bT rfl (bT rfl (bT rfl ⟨⟨ω,rfl⟩,ω⟩))⟩
   ·have d:sK .o r (bc b x)=.c:=by rw[uV rfl,show fk .o r (bc b x)=false from q];rfl
    rw[j,d];exact⟨rfl,i,rfl,rfl,rfl,bT rfl (bT rfl ⟨⟨ω,rfl⟩,ω⟩)⟩
  ·exact absurd (Ke ω e ht) nofun
def Qe3:Ok fdC:=QyR (k:=fdC) (T:=Kc) (F:=Kd) [rL .c,rL .o] Tryz.f9 Qnl id id (λ_=>rfl) ⟨Xf,Xg⟩ Qnp Qnq
theorem QvP (y:aG×By) (m:QhX y):Xj y:=by
 have⟨y,b⟩:=y;have⟨m,ht⟩:=m;have ht:true=sw .o y b:=ht.symm;unfold Xj;simp only[ej,gH,cD,cP,cF,cC,gg,gF,iz,aw,Zad,Zd2,Zd3,Zdv,Zdt];refine⟨(),⟨0,rfl,rfl,rfl,rfl,rfl,rfl,rfl,rfl,bT rfl (bT rfl (bT rfl ⟨Zaj _,rfl⟩))⟩,λx n=>?_,λx n=>?_⟩
 ·have⟨p,a⟩:=n;generalize e:b5 .o y b x=R at a ⊢;have⟨g,r,o⟩:=R;obtain rfl:g=.o:=a;have j:=vK e;refine⟨λk=>?_,λk=>?_⟩
  ·have⟨f,h,i⟩:=y3 (.inr (.inr rfl)) m e ω;have l:wo .o ⟨y.ru,r.pos,r.aF,r.aK,r.size,r.aO,r.aL,r.ax,r.aT,r.bg⟩:=f;refine⟨ω,k,λq=>⟨⟨l,q.symm⟩,h _ rfl,x+1,?_⟩,λq=>⟨⟨l,q.symm⟩,h _ rfl,x+1,?_⟩⟩
   ·have d:sK .o r (bc b x)=.o:=by rw[uV rfl,show fk .o r (bc b x)=true from q];rfl
    rw[j,d];exact⟨rfl,i,rfl,rfl,rfl,rfl,rfl,rfl,bT rfl (bT rfl (bT rfl ⟨⟨ω,rfl⟩,ω⟩))⟩
   ·have d:sK .o r (bc b x)=.c:=by rw[uV rfl,show fk .o r (bc b x)=false from q];rfl
    rw[j,d];exact⟨rfl,i,rfl,rfl,rfl,bT rfl (bT rfl ⟨⟨ω,rfl⟩,ω⟩)⟩
  ·grind [bT]
 ·have⟨p,a⟩:=n;generalize e:b5 .o y b x=R at a ⊢;have⟨g,r,o⟩:=R;obtain rfl:g=.c:=a;have j:=vK e;refine⟨λk=>?_,λk=>?_⟩
  ·have⟨f,h,i⟩:=y3 (.inr (.inr rfl)) m e ω;have l:wo .c ⟨y.ru,r.pos,r.aF,0,0,r.aO,[],r.ax,r.aT,fl⟩:=⟨⟨f.1.1,f.1.2.1,nofun⟩,f.2⟩;refine⟨ω,k,λq=>⟨⟨l,q.symm⟩,h _ rfl,x+1,?_⟩,λq=>⟨⟨l,q.symm⟩,h _ rfl,x+1,?_⟩⟩
   ·have d:sK .c r (bc b x)=.o:=by rw[uV rfl,show fk .c r (bc b x)=true from q];rfl
    rw[j,d];exact⟨rfl,i,rfl,rfl,rfl,rfl,rfl,rfl,bT rfl (bT rfl (bT rfl ⟨⟨ω,rfl⟩,ω⟩))⟩
   ·have d:sK .c r (bc b x)=.c:=by rw[uV rfl,show fk .c r (bc b x)=false from q];rfl
    rw[j,d];exact⟨rfl,i,rfl,rfl,rfl,bT rfl (bT rfl ⟨⟨ω,rfl⟩,ω⟩)⟩
  ·exact absurd (Ke ω e ht) nofun
def Qnr:Ok QbF:=okZ [rL .c,rL .o] Tryz.f9 (λy=>⟨[],[],[],[],1,[(58,⟨Unit,λ_=>fdL .o .o y,some (fdL .o .c y)⟩)]⟩) ⟨Xf,Xg⟩ QvP
def m_ (y:mD):Bool:=!seq y.s.c []
def tP (y:mD):aG:=⟨y,0,0,0,0,false,[],bu y.p,bu y.q,fl⟩
def fO (y:mD×Bool):Prop:=pb y.1.p/\Mg y.1.q/\(m_ y.1->pb y.1.q)/\y.2=m_ y.1
def Qe4 (a:List (AV D.E)) (s:St D.E):C (mD×Bool):=aB (Qbm a s) λy=>.split (m_ y) (.ret (y,true)) (.ret (y,false))
def Qns (y:mD×Bool):List (Nat×AO D.E):=match y.2 with
 | true=>fa .c 4 (tP y.1)
 | false=>fa .n 4 (tP y.1)
def Kf:bp D:=⟨15,mD×Bool,Qe4,fO,λ_=>[.ptr 0 0],λy=>BR y.1,λ_=>.ptr 3 0,Qns,3,18⟩
def tQ:bp D:=⟨7,mD×Bool,Qe4,fO,λ_=>[.ptr 0 0],λy=>BR y.1,λ_=>.tuple [.ptr 3 0,.num .i64 0],Qns,3,18⟩
def QbI:bp D:=cq 7 Unit (λa _=>match a with
 | [p]=>match p with
  | .fY=>.ret ()
  | _=>.fail
 | _=>.fail) (λ_=>True) (λ_=>[.fY]) λ_=>.tuple [.fY,.num .i64 1]
def lY (x:db):db:={ x with aU:=[] }
def Kg:bp D:=cq 17 (List db) (λa s=>match a with
 | [l]=>aB (aW D s 2 l) λl=>.ret (l:List db)
 | _=>.fail) (λy=>y.length<=1000) (λy=>[.list 2 y]) λy=>.list 2 (List.map lY y)
def QvR (y:Kg.Y):dj D:=⟨[],[],[(58,⟨Nat,[6,7],λk=>[(3,.grow 2 (List.map lY (List.take k (y:List db))) 0),(8,Qyy k)],[],λ_=>[(0,.tok 2 113)],1,λk=>k<=List.length (y:List db),λk=>List.length (y:List db) -k⟩)],[],1,[]⟩
def Qc:bp D:=⟨18,im,λa s=>match a with
 | [p]=>FU p s
 | _=>.fail,λy=>uC y.d/\zN y.v.L,λ_=>[.ptr 0 0],FT 0 5 6,λy=>.agg (nW y),FT 0 5 6,7,7⟩
def Kh:List (AV D.E):=[.dc,.num .i64 0,.dc]
def Qd:bp D:=cq 18 Unit (λa _=>match a with
 | [p]=>match p with
  | .fY=>.ret ()
  | _=>.fail
 | _=>.fail) (λ_=>True) (λ_=>[.fY]) λ_=>.agg Kh
structure GM where
 pos:Int
 aF:Int
 aO:Bool
 nE:Bool
 aK:Int
 size:Int
 aL:List db
def GN (y:GM) (bg ax aT:List (AV D.E)):AV D.E:=.agg ([.int .i64 y.pos,.int .i64 y.aF,.bool y.aO,.bool y.nE,.int .i64 y.aK,.int .i64 y.size,.list 2 y.aL]++bg++ax++aT)
def scQ (s:im):Prop:=uC s.d/\zN s.v.L
def wq (f:aZ) (y:aG):Prop:=scQ y.ax/\scQ y.aT/\(sfO f->scQ y.bg/\y.aL.length<=1000)
def y4:bp D:=⟨10,aG,yY .c,wq .c,λ_=>[.ptr 3 0],fa .c 4,λy=>GN ⟨y.pos,y.aF,y.aO,false,0,0,[]⟩ Kh (nW y.ax) (nW y.aT),fa .c 4,25,25⟩
def GO:bp D:=⟨10,aG,yY .o,wq .o,λ_=>[.ptr 3 0],fa .o 4,λy=>GN ⟨y.pos,y.aF,y.aO,true,y.aK,y.size,y.aL.map lY⟩ (nW y.bg) (nW y.ax) (nW y.aT),fa .o 4,25,25⟩
structure Qe where
 ru:mD
 st:GM
 bg:im
 ax:im
 aT:im
def Ki (h p l:AV D.E) (s:St D.E):C im:=aB (aW D s 0 h) λ_=>aP (cQ p) λ_ p=>aB (aW D s 2 l) λl=>.ret ⟨HC,⟨⟨[],[]⟩,p,l,⟨[],gI⟩⟩⟩
def y5 (y:Qe):Int:=if y.st.nE=true then y.st.aK else y.st.aF
def QhZ (h:By) (s:im):List (AV D.E):=[.list 0 h,.int .i64 s.v.aq,.list 2 s.v.L]
def QbJ:bp D:=⟨11,(Qe×By×By×By),λa s=>match a with
 | [r,x]=>aB (Qbl r s) λr=>aB (asAgg x) λcs=>match cs with
  | [p,l,g,o,e,z,n,h1,p1,h,b,p2,i,f,p3,j]=>aP (cQ p) λ_ p=>aP (cQ l) λ_ l=>aP (xg g) λg _=>aP (xg o) λo _=>aP (cQ e) λ_ e=>aP (cQ z) λ_ z=>aB (aW D s 2 n) λn=>aB (Ki h1 p1 h s) λc=>aB (Ki b p2 i s) λa=>aB (Ki f p3 j s) λd=>aB (aW D s 0 h1) λh1=>aB (aW D s 0 b) λb=>aB (aW D s 0 f) λf=>.ret (⟨r,⟨p,l,g,o,e,z,n⟩,c,a,d⟩,(h1:By),(b:By),(f:By))
  | _=>.fail
 | _=>.fail,λy=>fO (y.1.ru,true),λy=>[.ptr 0 0,GN y.1.st (QhZ y.2.1 y.1.bg) (QhZ y.2.2.1 y.1.ax) (QhZ y.2.2.2 y.1.aT)],λy=>BR y.1.ru,λy=>.tuple [GN ⟨y5 y.1,y5 y.1,false,false,0,0,[]⟩ Kh (nW (bu y.1.ru.p)) (nW (bu y.1.ru.q)),.num .i64 0],λy=>BR y.1.ru,3,3⟩
def Kj (y:mD):Prop:=let a:=!(seq y.s.c []);Iv (GD y)/\cJ y (Iv (PT y)/\cJ y (Iv (pb y.p)/\RA2 y.p (aj a (Iv (pb y.q)/\aa [y.q.ag] (aa [y.q.ai] (dN y (a=PW aZ.c/\aa ([0,0]:List Int) (false=false/\bC (bu y.q) (bC (bu y.p) (cJ y (True)))))))) (dN y (a=PW aZ.c/\aa ([0,0]:List Int) (false=false/\False))))))
def Kk (y:mD):Prop:=let a:=!(seq y.s.c []);Iv (GD y)/\cJ y (Iv (PT y)/\cJ y (Iv (pb y.p)/\RA2 y.p (aj a (Iv (pb y.q)/\aa [y.q.ag] (aa [y.q.ai] (dN y (a=PW aZ.n/\aa ([0,0]:List Int) (false=false/\False))))) (dN y (a=PW aZ.n/\aa ([0,0]:List Int) (false=false/\bC (bu y.p) (cJ y (True))))))))
def Kl (y:mD):Prop:=aj (m_ y) (Iv (fO (y,true))/\dV y (RAF (false=false/\bC (bu y.q) (bC (bu y.p) (cJ y (True)))))) (Iv (fO (y,false))/\dV y (False))
def Km (y:mD):Prop:=aj (m_ y) (Iv (fO (y,true))/\dV y (False)) (Iv (fO (y,false))/\dV y (RAF (false=false/\bC (bu y.p) (cJ y (True)))))
def Qnz (y:Unit):Prop:=
 True
def Qe5 (y:List db):Prop:=(∃z:Nat,RAP y (ab y) ([]=List.map lY (List.take z y)/\0=(z:Int)/\(Iv (z<=y.length))))/\(∀x:Nat,let b:=y.length;let q1:=List.map lY (List.take x y);let c:=aD (x:Int) (ab y);let a:=gt (db.mk false 0 0 0 0 0 0 0 0 0 0 []) y (x:Int).toNat;let d:=bn q1 [db.mk a.done a.c0 a.c1 a.c2 a.c3 a.c4 a.c5 a.c6 a.c7 a.c8 a.c9 []];(Iv (x<=b))->aj c (aM 0 (x:Int)/\c/\ba (ab d) 112/\∃z:Nat,RAP y (ab y) (d=List.map lY (List.take z y)/\ay .i64 (x:Int) 1=(z:Int)/\(Iv (z<=b/\(b-z)<(b-x))))) (q1=List.map lY y/\True))
def Qe6 (y:im):Prop:=Iv (uC y.d/\zN y.v.L)/\bC y (aa [di y.d] (aa [y.v.aq] (aa [y.v.L] (iM y (True)))))
def QnA (y:Unit):Prop:=
 True
abbrev RAL (p:Prop):Prop:=aa ([[]]:List (List db)) p
def Xq (y:aG):Prop:=Iv (0<=1000)/\RAL (Iv True/\Iv (uC y.ax.d/\zN y.ax.v.L)/\bC y.ax (Iv (uC y.aT.d/\zN y.aT.v.L)/\bC y.aT (aa [y.pos,y.pos,y.pos,y.pos,y.pos,y.aF,y.aF,y.aF,y.aF,y.aF] (aa [y.aO,y.aO,y.aO,y.aO,y.aO] (nY y (false=false/\aa ([0,0]:List Int) (List.map lY []=[]/\aa [di y.ax.d] (aa [y.ax.v.aq] (aa [y.ax.v.L] (aa [di y.aT.d] (aa [y.aT.v.aq] (aa [y.aT.v.L] (dV y.ru (nY y (iM y.ax (iM y.aT (True)))))))))))))))))
def Xs (y:aG):Prop:=let a:=List.map lY y.aL;Iv (y.aL.length<=1000)/\RAO y.aL (Iv (uC y.bg.d/\zN y.bg.v.L)/\bC y.bg (Iv (uC y.ax.d/\zN y.ax.v.L)/\bC y.ax (Iv (uC y.aT.d/\zN y.aT.v.L)/\bC y.aT (aa [y.pos,y.pos,y.pos,y.pos,y.pos,y.aF,y.aF,y.aF,y.aF,y.aF] (aa [y.aO,y.aO,y.aO,y.aO,y.aO] (aa [y.aK,y.aK,y.aK,y.aK,y.aK,y.size,y.size,y.size,y.size,y.size] (aa [y.aL] (nY y (Tt 1 (aa [y.aK,y.size] (aa [a] (aa [di y.bg.d] (aa [y.bg.v.aq] (aa [y.bg.v.L] (aa [di y.ax.d] (aa [y.ax.v.aq] (aa [y.ax.v.L] (aa [di y.aT.d] (aa [y.aT.v.aq] (aa [y.aT.v.L] (dV y.ru (rq y (iM y.ax (iM y.aT (iM y.bg (True))))))))))))))))))))))))))
def Qe7 (y:Qe×(List UInt8)×(List UInt8)×(List UInt8)):Prop:=let a:=bu y.1.ru.p;let q1:=bu y.1.ru.q;let b:Prop:=(false=false/\false=false/\aa ([0,0]:List Int) (aa ([[]]:List (List db)) (aa [di a.d] (aa [a.v.aq] (aa [a.v.L] (aa [di q1.d] (aa [q1.v.aq] (aa [q1.v.L] (cJ y.1.ru (True))))))))));aj (m_ y.1.ru) (Iv (fO (y.1.ru,true))/\cJ y.1.ru (Iv (wq aZ.c (aG.mk y.1.ru 0 0 0 0 false [] a q1 fl))/\dN y.1.ru (aa ([0,0]:List Int) (false=false/\bC q1 (bC a (cJ y.1.ru (aj y.1.st.nE (y.1.st.aK=y5 y.1/\y.1.st.aK=y5 y.1/\b) (y.1.st.aF=y5 y.1/\y.1.st.aF=y5 y.1/\b)))))))) (Iv (fO (y.1.ru,false))/\cJ y.1.ru (False))
def QnB (y:mD) (e:fO (y,true)):Kj y:=by
 obtain⟨h1,b,d,a⟩:=e;have a:true=!(seq y.s.c []):=a;unfold Kj;simp only[bj,cD,<-a,ZaX];exact⟨h1.pg,b,h1,⟨d a.symm,rfl⟩,nofun⟩
def QnC (y:mD) (d:fO (y,false)):Kk y:=by
 obtain⟨h1,b,e,a⟩:=d;have a:false=!(seq y.s.c []):=a;unfold Kk;simp only[bj,cD,<-a,ZaX];exact⟨h1.pg,b,h1,nofun,rfl⟩
def Qe8 (a:Ok cW):Ok Kf:=QyR (k:=Kf) (T:=Kj) (F:=Kk) [PU,PV,Wz] f15 (λ_=>dk ()) id id (λ_=>rfl) ⟨QeS,QeT,QmP a⟩ QnB QnC
theorem QnD (y:mD) (b:fO (y,true)):Kl y:=by
 have a:true=m_ y:=b.2.2.2;unfold Kl;simp only[bj,cD,<-a,ZaX];grind
theorem QnE (y:mD) (b:fO (y,false)):Km y:=by
 have a:false=m_ y:=b.2.2.2;unfold Km;simp only[bj,cD,<-a,ZaX];grind
def DI (a:Ok cW):Ok tQ:=QyR (k:=tQ) (T:=Kl) (F:=Km) [Kf] Tryz.f7 (λ_=>dk ()) id id (λ_=>rfl) (Qe8 a) QnD QnE
def QnF:Ok QbI:=okZ (V:=Qnz) [] Tryz.f7 (λ_=>dk ()) trivial λy _=>by assumption
theorem Xu:Ok Kg:=okZ (V:=Qe5) [] f17 QvR trivial λ(y:List db) a=>by
 have a:y.length<=1000:=a;unfold Qe5;simp only[ej,cC,gg,gF,iz,aw,Zad,bq,a_];refine⟨⟨0,rfl,rfl,Zaj _⟩,λx b=>⟨λk=>?_,λk=>?_⟩⟩
 ·grind [lY,List.take_append_getElem]
 ·grind
def Xv:Ok Qc:=okZ (V:=Qe6) [Qbp] f18 (λ_=>dk ()) QmQ λ(y:im) a=>by
 unfold Qe6;simp only[cE,cD,Zai,cC];exact a
def Xw:Ok Qd:=okZ (V:=QnA) [] f18 (λ_=>dk ()) trivial λy _=>by assumption
def Kn:Ok y4:=okZ (V:=Xq) [Kg,Qc,Qd] f10 (λ_=>dk ()) ⟨Xu,Xv,Xw⟩ λ(y:aG) a=>by
 unfold Xq;simp only[cE,cD,cF,Zai,Zal,cC];exact⟨Zaj _,a.1,a.2.1,rfl⟩
def Xx:Ok GO:=okZ (V:=Xs) [Kg,Qc,Qd] f10 (λ_=>dk ()) ⟨Xu,Xv,Xw⟩ λ(y:aG) d=>by
 obtain⟨h1,b,a⟩:=d;obtain⟨a,c⟩:=a rfl;unfold Xs;simp only[ej,cD,cF,cP,cC];exact⟨c,a,h1,b⟩
def y6 {p:iY} (h:pb p):scQ (bu p):=by
 rw[show bu p=_ from az _];refine⟨⟨ZaQ _,by show(0:Int)<=4;omega⟩,?_,λx a=>?_⟩
 ·show(jH++(p.ai.take p.ai.length).map fL).length<=1000
  have:=h.2.1;simp[jH];omega
 ·have hl:x∈(p.ai.take p.ai.length).map fL:=a;obtain⟨s,_,rfl⟩:=ZcL.1 hl;show 1<=1000000
  omega
theorem QnG (c:Ok cW):Ok QbJ:=okZ (V:=Qe7) [tQ,y4] f11 (λ_=>dk ()) ⟨DI c,Kn⟩ λ(y:Qe×By×By×By) a=>by
 have a:fO (y.1.ru,true):=a;have b:true=m_ y.1.ru:=a.2.2.2;unfold Qe7;simp only[bj,cD,<-b,ZaX];refine⟨⟨a,⟨y6 a.1,y6 (a.2.2.1 b.symm),nofun⟩,λk=>?_,λk=>?_⟩,nofun⟩
 ·grind [y5]
 ·grind [y5]
def Ko (y:cx):Prop:=let b:=ab y.r;Iv True/\(∃z:Dy,RAP y.r b ([]=z.o/\0=((z.i:Nat):Int)/\0=ab z.t/\[]=z.t/\(Iv (yX y z))))/\(∀x:Dy,let q1:=((x.i:Nat):Int);let a:=gt (mw.mk [] []) y.r q1.toNat;let f:=!(!(kq x.t a.name));let c:=(cr a.text).1;let d:=su x.t a.name q1;let g:=!(aE (cr a.text).2.1 0);let e:=bn x.o [lk (cO c)];(Iv (yX y x))->aj (aD q1 b) (aM 0 q1/\aD q1 b/\Iv True/\RAO a.name (aj (!(jA a.name)) ([]=(br y).out/\False) (Iv (TbP (Zm.mk x.t a.name q1))/\aa [a.name] (aa [q1,ab x.t] (aa [x.t] (aj f ([]=(br y).out/\False) (Iv True/\aa [a.text] (aj g ([]=(br y).out/\False) (Iv (pf c)/\aa [c] (ba (ab e) 24/\∃z:Dy,aa [y.r] (aa [b] (e=z.o/\ay .i64 q1 1=((z.i:Nat):Int)/\ab d=ab z.t/\d=z.t/\(Iv (yX y z/\(y.r.length-z.i)<(y.r.length-x.i))))))))))))))) (x.o=(br y).out/\RAF (ab x.t=ab (br y).tab/\x.t=(br y).tab/\True)))
def Kp (y:cx):Prop:=let b:=ab y.r;Iv True/\(∃z:Dy,RAP y.r b ([]=z.o/\0=((z.i:Nat):Int)/\0=ab z.t/\[]=z.t/\(Iv (yX y z))))/\(∀x:Dy,let q1:=((x.i:Nat):Int);let a:=gt (mw.mk [] []) y.r q1.toNat;let g:=!(!(kq x.t a.name));let c:=(cr a.text).1;let d:=su x.t a.name q1;let e:=(cr a.text).2.1;let f:=bn x.o [lk (cO c)];(Iv (yX y x))->aj (aD q1 b) (aM 0 q1/\aD q1 b/\Iv True/\RAO a.name (aj (!(jA a.name)) (14=(br y).au/\q1=(br y).at_/\True) (Iv (TbP (Zm.mk x.t a.name q1))/\aa [a.name] (aa [q1,ab x.t] (aa [x.t] (aj g (8=(br y).au/\q1=(br y).at_/\True) (Iv True/\aa [a.text] (aj (!(aE e 0)) (e=(br y).au/\q1=(br y).at_/\True) (Iv (pf c)/\aa [c] (ba (ab f) 24/\∃z:Dy,aa [y.r] (aa [b] (f=z.o/\ay .i64 q1 1=((z.i:Nat):Int)/\ab d=ab z.t/\d=z.t/\(Iv (yX y z/\(y.r.length-z.i)<(y.r.length-x.i))))))))))))))) (False))
abbrev RAI (p:Prop):Prop:=aa ([[]]:List (List a8)) p
abbrev RAJ (p:Prop):Prop:=aa ([[]]:List (List Int)) p
def Kq (y:cx):Prop:=let a:=Dz y;let q1:=bZ (br y).out;let k:=ab (br y).tab;let o:=!(aE (br y).au 0);let b:=([lk (cO a)]:List (List Nd));let l:=!(aE (cr y.c).2.1 0);let m:=!(aE (bZ b).2.1 0);let i:=λp:Prop=>RAF (RA4 y p);let j:=λp:Prop=>RA4 y p;let n:=λp:Prop=>RAO (br y).out (RAG p);let d:Prop:=(RAP k (br y).tab (True));let e:Prop:=([]=(b_ y).cc/\[]=(b_ y).cs/\d);let f:Prop:=(RA4 y (RAI (RAJ (RAI (RAJ (False))))));let g:Prop:=((bZ b).1.1=(b_ y).cc/\(bZ b).1.2=(b_ y).cs/\d);let u:=Iv ((Ne (y,true).1.c [])->(cr y.c).2.1=0);let h:Prop:=(RA4 y (RAI (RAJ (RAI (RAJ (RAP k (br y).tab (RA4 y (u))))))));aj (aD 8 (ab y.r)) (False) (aj (Am y) (Iv (Wx (y,true))/\j (aj (!(aE 0 0)) (False) (Iv (y.r.length<=1000)/\j ((aj (!(seq y.c [])) (Iv True/\RAO y.c (aj l (aa [y.r] (False)) (∃z:Unit,n ((cr y.c).1=a/\h)))) (∃z:Unit,n ([]=a/\h)))/\(∀x:Unit,u->Iv (qu (br y).out)/\RAO (br y).out (aj (!(aE q1.2.1 0)) (False) (aj (!(seq y.c [])) (Iv (pf a)/\aa [a] (Iv (qu b)/\aa [b] (aj m (aa [y.r] (False)) (i (q1.1.1=(b_ y).ag/\q1.1.2=(b_ y).st/\g))))) (i (q1.1.1=(b_ y).ag/\q1.1.2=(b_ y).st/\e))))))))) (Iv (Wx (y,false))/\j (aj o (False) (Iv (y.r.length<=1000)/\j ((aj (!(seq y.c [])) (Iv True/\RAO y.c (aj l (aa [y.r] (False)) (∃z:Unit,aa [(br y).at_] ((cr y.c).1=a/\f)))) (∃z:Unit,RAO (br y).at_ ([]=a/\f)))/\(∀x:Unit,u->Iv (qu [])/\RAO ([]:List (List Nd)) (aj (!(aE (bZ []).2.1 0)) (False) (aj (!(seq y.c [])) (Iv (pf a)/\aa [a] (Iv (qu b)/\aa [b] (aj m (aa [y.r] (False)) (i ((bZ []).1.1=(b_ y).ag/\(bZ []).1.2=(b_ y).st/\g))))) (i ((bZ []).1.1=(b_ y).ag/\(bZ []).1.2=(b_ y).st/\e))))))))))
def Kr (y:cx):Prop:=let a:=Dz y;let q1:=ab (br y).tab;let l:=!(aE (br y).au 0);let b:=(cr y.c).2.1;let g:=([lk (cO a)]:List (List Nd));let i:=(bZ (br y).out).2;let m:=!(aE (bZ g).2.1 0);let h:=λp:Prop=>RA4 y p;let k:=λp:Prop=>RAO (br y).out (RAG p);let j:Prop:=(ab y.r=(b_ y).at_/\True);let d:Prop:=(RA4 y (RAI (RAJ (RAI (RAJ (False))))));let u:=Iv ((Ne (y,false).1.c [])->b=0);let e:Prop:=(RA4 y (RAI (RAJ (RAI (RAJ (RAP q1 (br y).tab (RA4 y (u))))))));let f:Prop:=(aj (!(seq y.c [])) (Iv (pf a)/\RAO a (Iv (qu g)/\aa [g] (aj m (aa [y.r] ((bZ g).2.1=(b_ y).au/\j)) (False)))) (False));let A:=aa [y.r] (b=(b_ y).au/\j);aj (aD 8 (ab y.r)) (13=(b_ y).au/\8=(b_ y).at_/\True) (aj (Am y) (Iv (Wx (y,true))/\h (aj (!(aE 0 0)) (0=(b_ y).au/\0=(b_ y).at_/\True) (Iv (y.r.length<=1000)/\h ((aj (!(seq y.c [])) (Iv True/\RAO y.c (aj (!(aE b 0)) A (∃z:Unit,k ((cr y.c).1=a/\e)))) (∃z:Unit,k ([]=a/\e)))/\(∀x:Unit,u->Iv (qu (br y).out)/\RAO (br y).out (aj (!(aE i.1 0)) (i.1=(b_ y).au/\i.2=(b_ y).at_/\True) (f))))))) (Iv (Wx (y,false))/\h (aj l ((br y).au=(b_ y).au/\(br y).at_=(b_ y).at_/\True) (Iv (y.r.length<=1000)/\h ((aj (!(seq y.c [])) (Iv True/\RAO y.c (aj (!(aE b 0)) A (∃z:Unit,aa [(br y).at_] ((cr y.c).1=a/\d)))) (∃z:Unit,RAO (br y).at_ ([]=a/\d)))/\(∀x:Unit,u->Iv (qu [])/\RAO ([]:List (List Nd)) (aj (!(aE (bZ []).2.1 0)) ((bZ []).2.1=(b_ y).au/\(bZ []).2.2=(b_ y).at_/\True) (f))))))))
end
end sx
namespace sx
open Go Go.RowKit cls syn
set_option maxRecDepth 100000
set_option maxHeartbeats 4000000
section
variable {G:List Gt} {ax:Ps->Ps×List Nd}
variable {l:List Nd} {c:List (List Nd)}
theorem ft:cR []:=λx a=>nomatch a
theorem Nf {x:Nd} (h:jl x) (hl:cR l):cR (x::l):=λy a=>by
 rcases List.mem_cons.mp a with h1 | h1
 ·grind
 ·exact hl y h1
def y7 {op:Int} (hl:cR l) (mn mx:Int) (lz:Bool) (cap af:Int):cR (⟨op,[],mn,mx,lz,cap,af⟩::l):=Nf (Zaj _) hl
def tR (l:List Rg) (h:l.length<=1000000):cR [xZ l]:=Nf h ft
theorem QbP (s:Ps):(eC G s).2.1.length<=1000000:=by
 grind [eC,A7]
def Qh0 (s:Ps):cR (tg G s).2:=by
 unfold tg;simp only;split
 ·exact ft
 ·split
  ·exact ft
  ·split
   ·exact ft
   ·refine tR _ ?_;split<;>exact lL _
def XC (A:∀s,cR (ax s).2) (s:Ps):cR (iH G ax s).2:=by
  unfold iH;generalize bd G s.next 63=free;cases free<;>simp only[Zbv,Za0,ZaE]
  all_goals
    split
    · exact ft
    · split
      · exact ft
      · first
          | (split
             · exact ft
             · split
               · exact ft
               · first | exact A _ | exact y7 (A _) _ _ _ _ _)
          | (split
             · exact ft
             · first | exact A _ | exact y7 (A _) _ _ _ _ _)
theorem QbQ (A:∀s,cR (ax s).2) (s:Ps):cR (jG G ax s).2:=by
 unfold jG;simp only;split
 ·exact ft
 ·split
  ·exact XC A s
  ·split
   ·exact Qh0 s
   ·split
    ·exact tR _ (QbP s)
    ·split
     ·exact tR _ (lL _)
     ·split
      ·exact y7 ft _ _ _ _ _
      ·split
       ·exact y7 ft _ _ _ _ _
       ·split
        ·exact ft
        ·exact tR _ (lL _)
theorem QbR (s:Ps) (mn mx:Int) (h:cR l):cR (oA G s mn mx l).2:=by
 unfold oA;split
 ·exact ft
 ·exact y7 h _ _ _ _ _
theorem Qh1 (A:∀s,cR (ax s).2) (s:Ps):cR (fR G ax s).2:=by
 grind [QbQ,fR,ft,QbR]
theorem Ng (op:Int) (h:∀l∈c,cR l):cR (b9 op c):=by
 match c,h with
 | [],_=>exact y7 ft _ _ _ _ _
 | [x],h=>exact h x (by simp)
 | a::b::c,h=>
  refine y7 (λx d=>?_) _ _ _ _ _;have⟨l,hl,d⟩:=List.mem_flatten.mp d;exact h l hl x d
theorem DJ (h:∀x∈c,cR x) (b:cR l):∀x∈c++[l],cR x:=λx hl=>by
 grind
theorem GP (A:∀s,cR (ax s).2):∀(n:Nat) (s:Ps) (a:List (List Nd)),(∀l∈a,cR l)->∀l∈(ff G ax n s a).2,cR l
 | 0,s,a,h=>h
 | n+1,s,a,h=>by
  rw[ff];split
  ·exact GP A n _ _ (DJ h (Qh1 A s))
  ·exact h
def XD (A:∀s,cR (ax s).2) (s:Ps):cR (nw G ax s).2:=Ng 3 (GP A _ _ _ λl hl=>nomatch hl)
theorem GQ (A:∀s,cR (ax s).2):∀(n:Nat) (s:Ps) (a:List (List Nd)),(∀l∈a,cR l)->∀l∈(gQ G ax n s a).2,cR l
 | 0,s,a,h=>h
 | n+1,s,a,h=>by
  rw[gQ];split
  ·exact GQ A n _ _ (DJ h (XD A s.next))
  ·exact h
theorem Ks:∀(n:Nat) (s:Ps),cR (r6 G n s).2
 | 0,s=>ft
 | n+1,s=>Ng 4 (GQ (Ks n) _ _ _ λl hl=>by rw[List.mem_singleton.mp hl];exact XD (Ks n) s)
end
variable {l:List Row} {k:By}
theorem mT (y:By):cR (cr y).1:=by
 grind [cr,ft,x3,Ks]
theorem Nh (v:Int) (h:kq l k=false):su l k v=l.take (mb l k)++⟨k,v⟩::l.drop (mb l k):=by
 grind [su]
theorem Qh2 {j:Nat} (h:j<mb l k) (a:j<l.length):(l[j]).k<k:=by
 have:=ZdK h;grind
theorem XE (d:Du l) (f:kq l k=false) {j:Nat} (h:mb l k<=j) (c:j<l.length):k<(l[j]).k:=by
 have b:∀i (hi:i<l.length),(l[i]).k≠k:=λi hi e=>by
  grind [kq]
 have a:mb l k<l.length:=Nat.lt_of_le_of_lt h c;have h0:¬(l[mb l k]).k<k:=by
  have:=ZcC (w:=a);simp only[Zan,Zbi] at this;exact this
 have h1:k<(l[mb l k]).k:=Std.lt_of_le_of_ne ω λe=>b _ a e.symm
 rcases Zbm (mb l k) j with e | e
 ·exact Zdk h1 (List.pairwise_iff_getElem.mp d _ _ a c e)
 ·grind
theorem XF {v:Int} (c:Du l) (g:kq l k=false):Du (su l k v)/\(su l k v).length=l.length+1:=by
 rw[Nh v g];constructor
 ·unfold Du;rw[ZbC];refine⟨ZdS (List.take_sublist _ _) c,List.pairwise_cons.mpr ⟨λb f=>?_,ZdS (List.drop_sublist _ _) c⟩,λa d b f=>?_⟩
  ·grind [List.getElem_of_mem,XE]
  ·have⟨i,hi,e⟩:=Za3 d;have h1:a.k<k:=by grind [Qh2]
   grind [List.getElem_of_mem,List.lt_trans,XE]
 ·grind
theorem y8 {y:cx} {x:Dy} (h:yX y x) (b:x.i<y.r.length):
  (jA (y.r.getD x.i ⟨[],[]⟩).name=false->(br y).au=14/\(br y).at_=x.i)/\
  (jA (y.r.getD x.i ⟨[],[]⟩).name->kq x.t (y.r.getD x.i ⟨[],[]⟩).name->(br y).au=8/\(br y).at_=x.i)/\
  (jA (y.r.getD x.i ⟨[],[]⟩).name->kq x.t (y.r.getD x.i ⟨[],[]⟩).name=false->((cr (y.r.getD x.i ⟨[],[]⟩).text).2.1≠0->(br y).au=(cr (y.r.getD x.i ⟨[],[]⟩).text).2.1/\(br y).at_=x.i)/\
   ((cr (y.r.getD x.i ⟨[],[]⟩).text).2.1=0->yX y ⟨su x.t (y.r.getD x.i ⟨[],[]⟩).name x.i,x.o++[cO (cr (y.r.getD x.i ⟨[],[]⟩).text).1],x.i+1⟩)):=by
 have⟨h1,d,j,f,a⟩:=h;rw[Zaq b,ph] at a;rw[fh b];refine⟨λe=>?_,λc e=>?_,λc e2=>⟨λe=>?_,λe=>?_⟩⟩
 ·grind
 ·grind
 ·grind
 ·rw[Zaa (by grind),Zaa (by grind),Zaa ω] at a;have⟨g,k⟩:=XF (v:=(x.i:Int)) d e2;exact⟨b,g,by grind,by simp[f],a⟩
theorem QnH (y:cx) (b:Bool) (l:GC.pre (y,b)):(b->Ko y)/\(b=false->Kp y):=by
 obtain⟨hl,s⟩:y.r.length<=8/\b=Am y:=l;have m:(Am y↔(br y).au=0):=by grind [Am]
 have hz:yX y ⟨[],[],0⟩:=⟨Zaj _,List.Pairwise.nil,Zah _,rfl,by grind [br,az]⟩;have k:∀n,gt (mw.mk [] []) y.r n=y.r.getD n ⟨[],[]⟩:=λ_=>rfl
 constructor
 ·intro p;unfold Ko;simp only[bN,bj,aw,k,bq,Zad,a_,Zan,Zao,az];refine⟨⟨⟨[],[],0⟩,rfl,rfl,rfl,rfl,hz⟩,λx c=>⟨λe=>?_,λe=>?_⟩⟩
  ·have f:x.i<y.r.length:=ω;have⟨g,j,s3⟩:=y8 c f;have⟨i1,i2,i3,i4,i5⟩:=c;refine⟨ω,e,λq=>?_,λq=>⟨⟨i2,by grind⟩,λa=>?_,λa=>⟨λd=>?_,λd=>⟨mT _,?_,_,rfl,bR ω,rfl,rfl,(s3 q a).2 d,by grind⟩⟩⟩⟩
   ·grind
   ·grind
   ·grind
   ·grind
  ·have⟨i1,i2,i3,i4,i5⟩:=c;grind [ph]
 ·intro o;have h0:(br y).au≠0:=λh=>by grind
  unfold Kp;simp only[bN,bj,aw,k,bq,Zad,a_,Zan,Zao,az];refine⟨⟨⟨[],[],0⟩,rfl,rfl,rfl,rfl,hz⟩,λx c=>⟨λe=>?_,λe=>?_⟩⟩
  ·have f:x.i<y.r.length:=ω;have⟨g,j,s3⟩:=y8 c f;have⟨i1,i2,i3,i4,i5⟩:=c;refine⟨ω,e,λq=>⟨(g q).1.symm,(g q).2.symm⟩,λq=>⟨⟨i2,by grind⟩,λa=>⟨(j q a).1.symm,(j q a).2.symm⟩,λa=>⟨λd=>⟨((s3 q a).1 d).1.symm,((s3 q a).1 d).2.symm⟩,λd=>⟨mT _,?_,_,rfl,bR ω,rfl,rfl,(s3 q a).2 d,by grind⟩⟩⟩⟩;simp only[Zab,Zae,Zak];omega
  ·have⟨i1,i2,i3,i4,i5⟩:=c;have:x.i=y.r.length:=ω;rw[this,ZbH,ph] at i5;rw[<-i5] at h0;exact h0 rfl
def QnI (hs:Ok J8) (b:Ok cW) (c:Ok yy):Ok GC:=QyR (k:=GC) (T:=Ko) (F:=Kp) [Ws,J6,J8,Ah,Gj] f21 QmG id id (λ_=>rfl) ⟨QmD,QmA,hs,Qel b c,QeD b⟩ (λy a=>(QnH y true a).1 rfl) λy a=>(QnH y false a).2 rfl
theorem wY {l:List Nd} (h:cR l):cR (cO l):=by
 unfold cO;split
 ·rename_i b
  have⟨t,h1,a,c⟩:=jU b;have e:cw l=(t,[]):=by grind [qm]
  rw[e];exact(ri t (Gm t h1) (by rw[<-a];exact⟨Zah _,h⟩)).2.2
 ·exact ft
theorem wZ:∀(l:List mw) (i:Nat) (t:List Row) (o:List (List Nd)),(∀x∈o,cR x)->(∀x∈(ph l i t o).out,cR x)/\(ph l i t o).out.length<=o.length+l.length
 | [],i,t,o,h=>⟨h,Zah _⟩
 | x::l,i,t,o,h=>by
  rw[ph];split
  ·grind
  ·split
   ·grind
   ·split
    ·grind
    ·have⟨h1,a⟩:=wZ l (i+1) (su t x.name i) (o++[cO (cr x.text).1]) (DJ h (wY (mT _)));grind
section
variable {y:cx} (h1:¬8<y.r.length)
include h1
theorem XG (a:(br y).au≠0):jB y=M6 (br y).au (br y).at_:=by grind [jB]
theorem XH (a:(br y).au=0) (b:y.c≠[]) (d:(cr y.c).2.1≠0):jB y=M6 (cr y.c).2.1 y.r.length:=by grind [jB]
variable (h2:(br y).au=0) (h3:y.c≠[]->(cr y.c).2.1=0)
include h2 h3
theorem XI (a:(bZ (br y).out).2.1≠0):jB y=M6 (bZ (br y).out).2.1 (bZ (br y).out).2.2:=by grind [jB]
variable (h4:(bZ (br y).out).2.1=0)
include h4
theorem XJ (a:y.c≠[]) (b:(bZ [cO (cr y.c).1]).2.1≠0):jB y=M6 (bZ [cO (cr y.c).1]).2.1 y.r.length:=by grind [jB]
theorem Qf (a:y.c≠[]) (b:(bZ [cO (cr y.c).1]).2.1=0):jB y=⟨(bZ (br y).out).1.1,(bZ (br y).out).1.2,(bZ [cO (cr y.c).1]).1.1,(bZ [cO (cr y.c).1]).1.2,0,0⟩:=by grind [jB]
theorem XK (a:y.c=[]):jB y=⟨(bZ (br y).out).1.1,(bZ (br y).out).1.2,[],[],0,0⟩:=by grind [jB]
end
theorem QnJ (y:cx) (b:Bool) (B:uS.pre (y,b)):(b->Kq y)/\(b=false->Kr y):=by
 obtain⟨hl,D⟩:y.r.length<=1000/\b=mQ y:=B;have z:b_ y=jB y:=by grind [b_,az]
 have n:y.c≠[]->Dz y=(cr y.c).1:=λh=>by grind [Dz,az]
 have j:y.c=[]->Dz y=[]:=λh=>by grind [Dz,az]
 have p:b↔(jB y).au=0:=by grind [mQ]
 have m:(Am y↔(br y).au=0):=by grind [Am]
 have i:(Am y=false↔(br y).au≠0):=by grind
 have v:∀{s:By},seq s []=false↔s≠[]:=λ{s}=>by grind
 obtain⟨o1,E⟩:(∀x∈(br y).out,cR x)/\(br y).out.length<=y.r.length:=by
  grind [wZ,br,az]
 have w:qu (br y).out:=⟨ω,o1⟩;have q:cR (Dz y):=by
  by_cases h:y.c=[]
  ·grind [ft]
  ·grind [mT]
 have u:qu [cO (Dz y)]:=⟨by simp,λl hl=>by rw[List.mem_singleton.mp hl];exact wY q⟩;have t:8<y.r.length->jB y=M6 13 8:=λh=>by grind [jB]
 constructor
 ·intro A;have h0:=p.mp A;unfold Kq;simp only[bN,bj,aw,yd,v,Zan,Zao,az,ZaY,ZaZ,m,i];refine⟨λo=>?_,λo=>⟨λd=>⟨⟨by grind,(m.mpr d).symm⟩,λh=>absurd rfl h,hl,⟨λa=>⟨λf=>?_,λf=>⟨(n a).symm,λ_=>f⟩⟩,λa=>⟨(j a).symm,λh=>absurd a h⟩⟩,λk=>⟨w,λg=>?_,λg=>⟨λa=>⟨q,u,λe=>?_,λe=>?_⟩,λa=>?_⟩⟩⟩,λd=>absurd ?_ d⟩⟩
  ·rw[t ω] at h0;cases h0
  ·rw[XH ω d a f] at h0;exact f h0
  ·rw[XI ω d k g] at h0;exact g h0
  ·rw[n a] at e;rw[XJ ω d k g a e] at h0;exact e h0
  ·grind [Qf]
  ·grind [XK]
  ·refine Zch λh=>?_
   rw[XG ω h] at h0;exact h h0
 ·intro C;unfold Kr;rw[z];simp only[bN,bj,aw,yd,v,Zan,Zao,az,ZaY,ZaZ,m,i];refine⟨λo=>?_,λo=>⟨λd=>⟨⟨by grind,(m.mpr d).symm⟩,λh=>absurd rfl h,hl,⟨λa=>⟨λf=>?_,λf=>⟨(n a).symm,λ_=>f⟩⟩,λa=>⟨(j a).symm,λh=>absurd a h⟩⟩,λk=>⟨w,λg=>?_,λg=>⟨λa=>⟨q,u,λe=>?_,λe=>?_⟩,λa=>?_⟩⟩⟩,λd=>⟨⟨by grind,(i.mpr d).symm⟩,λ_=>?_,λh=>absurd h d⟩⟩⟩
  ·rw[t ω];exact⟨rfl,rfl⟩
  ·rw[XH ω d a f];exact⟨rfl,rfl⟩
  ·rw[XI ω d k g];exact⟨rfl,rfl⟩
  ·rw[n a] at e ⊢;rw[XJ ω d k g a e];exact⟨rfl,rfl⟩
  ·grind [Qf]
  ·grind [XK]
  ·rw[XG ω d];exact⟨rfl,rfl⟩
def QnK (hs:Ok J8) (a:Ok cW) (c:Ok yy):Ok uS:=QyR (k:=uS) (T:=Kq) (F:=Kr) [GC,Wt,Ah,J3,Gj] f13 QmK id id (λ_=>rfl) ⟨QnI hs a c,QmE,Qel a c,Qmx a,QeD a⟩ (λy b=>(QnJ y true b).1 rfl) λy b=>(QnJ y false b).2 rfl
end sx
set_option maxRecDepth 100000
set_option maxHeartbeats 4000000
namespace sx
noncomputable section
open Go Go.RowKit cls syn
def Kt:bp D:=cq 67 ah (λa _=>wa a) dX (λy=>[.agg (D.bm 15 y)]) λy=>.list 7 (dD y)
def QvW (t:ah):ah:=.mk t.op t.r t.mn t.mx t.lz t.cap t.af.length t.af
abbrev tbx (t:ah):Nat×AO D.E:=(0,.cells (D.bm 15 t) 164 false)
def QvY (y:Kt.Y):dj D:=⟨[],[],[(122,⟨Nat,[],λx=>[(1,.ptr 0 0),(3,.grow 7 (qi y x) 1),(4,Qyy x)],[],λ_=>[tbx (QvW y),(1,.tok 7 149)],2,λx=>x<=y.af.length,λx=>y.af.length-x⟩)],[],1,[]⟩
def QvZ (y:Kt.Y):Prop:=vc [Kt.under dI (dI y)] f67 Kt QvY y
def wu (a b:ah):Bool:=lk (decide (aH a=aH b))
def Qg:bp D:=cq 166 (ah×ah) (λa _=>Ql5 a) (λy=>dX y.1/\dX y.2) (λy=>[.agg (D.bm 15 y.1),.agg (D.bm 15 y.2)]) λy=>.bool (wu y.1 y.2)
def GR (y:ah×ah) (i:Nat):Prop:=i<=(dD y.1).length/\(dD y.1).length=(dD y.2).length/\∀j,j<i->(dD y.1).getD j (nd 0)=(dD y.2).getD j (nd 0)
def Qh (y:ah×ah) (i k:Nat):Prop:=GR y i/\i<(dD y.1).length/\({ (dD y.1).getD i (nd 0) with r:=[] }={ (dD y.2).getD i (nd 0) with r:=[] }/\((dD y.1).getD i (nd 0)).r.length=((dD y.2).getD i (nd 0)).r.length)/\k<=((dD y.1).getD i (nd 0)).r.length/\∀j,j<k->((dD y.1).getD i (nd 0)).r.getD j (0,0)=((dD y.2).getD i (nd 0)).r.getD j (0,0)
def Qv0 (y:Qg.Y):dj D:=⟨[],[],[(122,⟨Nat,[5,6],λi=>[(7,Qyy i)],[],λ_=>[],0,GR y,λi=>(dD y.1).length-i⟩)],[],1,
 [(15654,⟨Nat,λi=>⟨Nat,[5,6,7],λx=>[(8,Qyy x)],[],λ_=>[],0,Qh y i,λx=>((dD y.1).getD i (nd 0)).r.length-x⟩,none⟩)]⟩
def Ku:bp D:=cq 141 ah (λa _=>wa a) dX (λy=>[.agg (D.bm 15 y)]) λy=>.bool (fM y)
def Qv2 (y:Ku.Y):dj D:=⟨[],[],[(58,{ X:=Nat,aS:=[],sl:=λx=>[(1,.ptr 0 0),(3,Qyy x)],kp:=[],pc:=λ_=>[tbx y],nx:=1,inv:=λx=>x<=y.af.length/\∀j,j<x->fM (y.af.getD j bI)=false,me:=λx=>y.af.length-x })],[],1,[]⟩
def Qv3 (y:Ku.Y):Prop:=vc [Ku.under dI (dI y)] f141 Ku Qv2 y
abbrev RAA (v:ah) (p:Prop):Prop:=aa [v.r] (aa [v.mn] (aa [v.mx] (aa [v.lz] (aa [v.cap] p))))
def XL (y:ah):Prop:=let b:=y.af;let q1:=b.length;let d:=(q1:Int);(∃z:Nat,([Nd.mk y.op y.r y.mn y.mx y.lz y.cap (ab b)]:List Nd)=qi y z/\0=(z:Int)/\RAO y.op (RAA y (ab b=d/\aa [b] ((Iv (z<=q1))))))/\(∀x:Nat,let e:=aD (x:Int) (ab b);let a:=gt (ah.mk 0 [] 0 0 false 0 0 []) b (x:Int).toNat;let c:=ah.mk a.op a.r a.mn a.mx a.lz a.cap a.nk a.af;let f:=bn (qi y x) (dD c);(Iv (x<=q1))->aj e (aM 0 (x:Int)=true/\e=true/\Iv (dX c/\dI c<dI y)/\RA0 a (RAO a.af (ba (ab f) 72=true/\∃z:Nat,f=qi y z/\ay .i64 (x:Int) 1=(z:Int)/\aa [y.op] (aa [y.r] (aa [y.mn,y.mx] (aa [y.lz] (aa [y.cap,d] (aa [b] ((Iv (z<=q1/\(q1-z)<(q1-x)))))))))))) (qi y x=dD y/\True))
def QbS:∀y,XL y=QvZ y:=λy=>by kernel_rfl
def XM (y:ah×ah):Prop:=let t:=(dD y.1).length;let q1:=ah.mk y.2.op y.2.r y.2.mn y.2.mx y.2.lz y.2.cap y.2.nk y.2.af;let u:=ah.mk y.1.op y.1.r y.1.mn y.1.mx y.1.lz y.1.cap y.1.nk y.1.af;let h:=dD u;let i:=dD q1;let c:=ab h;let g:=ab i;let A:=Nd.mk 0 [] 0 0 false 0 0;Iv (dX u)/\RA0 y.1 (RAO y.1.af (Iv (dX q1)/\aa [y.2.op] (aa [y.2.r] (aa [y.2.mn,y.2.mx] (aa [y.2.lz] (aa [y.2.cap,y.2.nk] (aa [y.2.af] (aa [y.1.op] (aa [y.1.r] (aa [y.1.mn,y.1.mx] (aa [y.1.lz] (aa [y.1.cap,y.1.nk] (aa [y.1.af] (aa [y.2.op] (aa [y.2.r] (aa [y.2.mn,y.2.mx] (aa [y.2.lz] (aa [y.2.cap,y.2.nk] (aa [y.2.af] (aa [y.2.op] (aa [y.2.r] (aa [y.2.mn,y.2.mx] (aa [y.2.lz] (aa [y.2.cap,y.2.nk] (aa [y.2.af] (aj (!(aE c g)) (false=wu y.1 y.2/\True) ((∃z:Nat,aa [h,i] (0=(z:Int)/\(Iv (GR y z))))/\(∀x:Nat,let a:=gt A h (x:Int).toNat;let b:=gt A i (x:Int).toNat;let v:=!(aE a.op b.op);let l:=!(sN a.lz b.lz);let m:=!(aE a.af b.af);let n:=!(aE a.cap b.cap);let o:=!(aE a.mx b.mx);let p:=!(aE a.mn b.mn);let q:=!(aE (ab a.r) (ab b.r));(Iv (GR y x))->aj (aD (x:Int) c) (aM 0 (x:Int)/\aD (x:Int) c/\aM 0 (x:Int)/\aD (x:Int) g/\aj v (aa [a.op,b.op] (false=wu y.1 y.2/\True)) (aM 0 (x:Int)/\aD (x:Int) c/\aM 0 (x:Int)/\aD (x:Int) g/\aj p (aa [a.op,b.op,a.mn,b.mn] (false=wu y.1 y.2/\True)) (aM 0 (x:Int)/\aD (x:Int) c/\aM 0 (x:Int)/\aD (x:Int) g/\aj o (aa [a.op,b.op,a.mn,b.mn,a.mx,b.mx] (false=wu y.1 y.2/\True)) (aM 0 (x:Int)/\aD (x:Int) c/\aM 0 (x:Int)/\aD (x:Int) g/\aj l (aa [a.op,b.op,a.mn,b.mn,a.mx,b.mx] (aa [a.lz,b.lz] (false=wu y.1 y.2/\True))) (aM 0 (x:Int)/\aD (x:Int) c/\aM 0 (x:Int)/\aD (x:Int) g/\aj n (aa [a.op,b.op,a.mn,b.mn,a.mx,b.mx] (aa [a.lz,b.lz] (aa [a.cap,b.cap] (false=wu y.1 y.2/\True)))) (aM 0 (x:Int)/\aD (x:Int) c/\aM 0 (x:Int)/\aD (x:Int) g/\aj m (aa [a.op,b.op,a.mn,b.mn,a.mx,b.mx] (aa [a.lz,b.lz] (aa [a.cap,b.cap,a.af,b.af] (false=wu y.1 y.2/\True)))) (aM 0 (x:Int)/\aD (x:Int) c/\aM 0 (x:Int)/\aD (x:Int) g/\aa [a.op,b.op,a.mn,b.mn,a.mx,b.mx] (aa [a.lz,b.lz] (aa [a.cap,b.cap,a.af,b.af] (aa [a.r,b.r] (aj q (false=wu y.1 y.2/\True) (∃z:Nat,let j:=(List.getD (dD y.1) z (nd 0)).r.length;(∃d:Nat,aa [h,i] (aa [(x:Int)] (0=(d:Int)/\(Iv (Qh y z d)))))/\(∀x1:Nat,let k:=aD (x1:Int) (ab a.r);let e:=gt (0,0) a.r (x1:Int).toNat;let f:=gt (0,0) b.r (x1:Int).toNat;let s:=!((aE e.1 f.1)&&(aE e.2 f.2));(Iv (Qh y z x1))->aM 0 (x:Int)/\aD (x:Int) c/\aj k (aM 0 (x:Int)/\aD (x:Int) c/\aM 0 (x1:Int)/\k/\aM 0 (x:Int)/\aD (x:Int) g/\aM 0 (x1:Int)/\aD (x1:Int) (ab b.r)/\aa [a.r] (aa [e.1,e.2] (aa [b.r] (aa [f.1,f.2] (aj s (false=wu y.1 y.2/\True) (∃d:Nat,aa [h,i] (aa [(x:Int)] (ay .i64 (x1:Int) 1=(d:Int)/\(Iv (Qh y z d/\(j-d)<(j-x1))))))))))) (∃d:Nat,aa [h,i] (ay .i64 (x:Int) 1=(d:Int)/\(Iv (GR y d/\(t-d)<(t-x)))))))))))))))))) (true=wu y.1 y.2/\True)))))))))))))))))))))))))))))
def XN (y:ah):Prop:=let b:=y.af;let f:=λp:Prop=>RA0 y (RAO b p);let u:=λz:Nat=>(∀j:Nat,(Nat.le (Nat.succ j) z)->fM (List.getD b j bI)=false);aj (aE y.op 6) (true=fM y/\True) ((∃z:Nat,0=(z:Int)/\f ((Iv (z<=b.length/\u z))))/\(∀x:Nat,let c:=b.length;let e:=aD (x:Int) (ab b);let a:=gt (ah.mk 0 [] 0 0 false 0 0 []) b (x:Int).toNat;let d:=ah.mk a.op a.r a.mn a.mx a.lz a.cap a.nk a.af;(Iv (x<=c/\(∀j:Nat,(Nat.le (Nat.succ j) x)->fM (List.getD b j bI)=false)))->aj e (aM 0 (x:Int)/\e/\Iv (dX d/\dI d<dI y)/\RA0 a (RAO a.af (aj (fM d) (true=fM y/\True) (∃z:Nat,ay .i64 (x:Int) 1=(z:Int)/\f ((Iv ((z<=c/\u z)/\(c-z)<(c-x)))))))) (false=fM y/\True)))
def QbU:∀y,XN y=Qv3 y:=λy=>by kernel_rfl
theorem GU (l:List ah):l.length<=(aC l).length:=by
 induction l with
 | nil=>simp
 | cons a l b=>simp only[aC,Zab,Zae];rw[b6];simp;omega
theorem y9 {y:ah} (h:dX y) {x:Nat} (c:x<y.af.length):dX (y.af.getD x bI)/\qi y x++dD (y.af.getD x bI)=qi y (x+1)/\(qi y (x+1)).length<=1000000:=by
 obtain⟨h1,a⟩:=h;have ht:=cy bI c;have d:y.af=y.af.take x++(y.af.getD x bI::y.af.drop (x+1)):=by
  simp_all
 have b:aC y.af=aC (y.af.take x)++(aH (y.af.getD x bI)++aC (y.af.drop (x+1))):=by
  grind [cU,aC]
 have hs:aC (y.af.take (x+1))=aC (y.af.take x)++aH (y.af.getD x bI):=by
  grind [cU,aC]
 have hlen:=ZaR List.length b;simp only[Zab] at hlen;rw[b6] at h1;simp only[Zae] at h1;unfold qi dD;rw[az,az,az,hs];refine⟨⟨ω,λz hz=>a z ?_⟩,rfl,by grind⟩;grind [b6]
theorem dX.few {y:ah} (h:dX y):y.af.length<=1000000:=by
 have:=GU y.af;have h1:=h.1;grind [b6]
theorem Qv4 (y:ah) (a:Kt.pre y):XL y:=by
 have a:dX y:=a;have hk:=a.few;unfold XL;have b:∀n,gt (ah.mk 0 [] 0 0 false 0 0 []) y.af n=y.af.getD n bI:=λ_=>rfl
 simp only[bj,gg,gF,iz,aw,a_,bq,b,bX,Zad];refine⟨⟨0,by unfold qi;rw[az];rfl,rfl,Zaj _⟩,λx c=>⟨λe=>?_,λe=>?_⟩⟩
 ·obtain⟨k1,k2,k3⟩:=y9 a (show x<y.af.length by omega);rw[k2];exact⟨ω,e,⟨k1,jo ω⟩,ω,x+1,rfl,bR ω,ω,ω⟩
 ·grind [qi,dD,b6]
def Qe9:Ok Kt:=QY dI QbS trivial Qv4
theorem Qv5 (y:ah×ah) (N:Qg.pre y):XM y:=by
 obtain⟨a,b⟩:=y;obtain⟨m,J⟩:dX a/\dX b:=N;have H:wu a b=decide (aH a=aH b):=by grind [wu,az]
 have F:∀i,GR (a,b) i↔(i<=(aH a).length/\(aH a).length=(aH b).length/\∀j,j<i->(aH a).getD j (nd 0)=(aH b).getD j (nd 0)):=λi=>by grind [GR,dD,az]
 have G:∀i k,Qh (a,b) i k↔(GR (a,b) i/\i<(aH a).length/\({ (aH a).getD i (nd 0) with r:=[] }={ (aH b).getD i (nd 0) with r:=[] }/\((aH a).getD i (nd 0)).r.length=((aH b).getD i (nd 0)).r.length)/\k<=((aH a).getD i (nd 0)).r.length/\∀j,j<k->((aH a).getD i (nd 0)).r.getD j (0,0)=((aH b).getD i (nd 0)).r.getD j (0,0)):=λi k=>by unfold Qh dD;rw[az,az]
 have P:(aH a).length<=1000000:=m.1;have g:∀i,i<(aH a).length->((aH a).getD i (nd 0)).r.length<=1000000:=λi hi=>m.2 _ (by grind)
 unfold XM;have K:∀(l:List Nd) n,gt (Nd.mk 0 [] 0 0 false 0 0) l n=l.getD n (nd 0):=λ_ _=>rfl
 have o:∀(l:List Rg) n,gt (0,0) l n=l.getD n (0,0):=λ_ _=>rfl
 have C:∀{p q:Bool},sN p q↔p=q:=λ{p q}=>by simp[sN]
 have D:∀{p q:Bool},sN p q=false↔p≠q:=λ{p q}=>by grind
 have I:∀t:ah,dD t=aH t:=λt=>by unfold dD;rw[az]
 simp only[bN,bj,aw,K,o,C,D,bX,Zad,Zan,Zao,ZaW,Zbz,I,F,G,H];generalize aH a=A at*
 generalize aH b=B at*
 have ne:∀i,A.getD i (nd 0)≠B.getD i (nd 0)->false=decide (A=B):=λi h=>by
  grind
 refine⟨m,J,λhl=>?_,λhl=>⟨⟨0,rfl,Zaj _,ω,λj d=>absurd d (Zbo _)⟩,λx M=>⟨λe=>?_,λe=>?_⟩⟩⟩
 ·grind
 ·obtain⟨c1,c2,c3⟩:=M;have f:x<A.length:=ω;have c:(x:Int)<(B.length:Int):=ω;have x0:(0:Int)<=(x:Int):=ω;have Q:=g x f;have ne:=ne x;generalize hu:A.getD x (nd 0)=u at*
  generalize z:B.getD x (nd 0)=v at*
  refine⟨x0,e,x0,c,λq=>ne λh=>q (by rw[h]),λq1=>⟨x0,e,x0,c,λq=>ne λh=>q (by rw[h]),λR=>⟨x0,e,x0,c,λq=>ne λh=>q (by rw[h]),λS=>⟨x0,e,x0,c,λq=>ne λh=>q (by rw[h]),λT=>⟨x0,e,x0,c,λq=>ne λh=>q (by rw[h]),λU=>⟨x0,e,x0,c,λq=>ne λh=>q (by rw[h]),λV=>⟨x0,e,x0,c,λq=>ne λh=>q (by rw[h]),λW=>?_⟩⟩⟩⟩⟩⟩⟩;have hw:({ u with r:=[] }:Nd)={ v with r:=[] }:=by grind
  have s:u.r.length=v.r.length:=ω;refine⟨x,⟨0,rfl,⟨c1,c2,c3⟩,f,⟨by grind,by grind⟩,Zaj _,λj d=>absurd d (Zbo _)⟩,λk hk=>?_⟩;obtain⟨_,_,_,E,w⟩:=hk;rw[hu] at E w;rw[z] at w;refine⟨x0,e,λek=>⟨x0,e,ω,ek,x0,c,ω,ω,λq=>ne λh=>?_,λq=>⟨k+1,bR ω,⟨⟨c1,c2,c3⟩,f,⟨by grind,ω⟩,by grind,λj d=>?_⟩,by grind⟩⟩,λek=>⟨x+1,bR ω,⟨ω,c2,λj d=>?_⟩,ω⟩⟩
  ·grind
  ·grind
  ·rcases Zbm j x with h | h
   ·exact c3 j h
   ·rw[show j=x by omega,hu,z];have L:u.r=v.r:=Zdx s λj h1 O=>by
     grind
    obtain⟨X,Y,Z,u4,u5,u6,u7⟩:=u;obtain⟨v1,v2,v3,v4,v5,v6,v7⟩:=v;grind
 ·grind [List.ext_getElem]
def QnL:Ok Qg:=okZ [Kt] f166 Qv0 Qe9 Qv5
theorem Qv6 (y:ah) (a:Ku.pre y):XN y:=by
 have a:dX y:=a;have hk:=a.few;have ge:=VL y;unfold XN;have d:∀n,gt (ah.mk 0 [] 0 0 false 0 0 []) y.af n=y.af.getD n bI:=λ_=>rfl
 simp only[bN,bj,aw,d,bX,Zad];refine⟨λh=>by grind,λh=>⟨⟨0,rfl,Zaj _,λj c=>absurd c (Zbo _)⟩,λx f=>⟨λe=>?_,λe=>?_⟩⟩⟩
 ·have b:x<y.af.length:=ω;obtain⟨k1,_,_⟩:=y9 a b;refine⟨ω,e,⟨k1,jo b⟩,λq=>?_,λq=>⟨x+1,bR ω,⟨b,λj c=>?_⟩,ω⟩⟩
  ·grind
  ·grind
 ·grind [List.getElem_of_mem]
def QnM:Ok Ku:=QY dI QbU trivial Qv6
abbrev wv (n:Nat) (t:ah):Nat×AO D.E:=(n,.cells (D.bm 15 t) 164 false)
abbrev tkO (n:Nat):Nat×AO D.E:=(n,.tok 15 164)
variable {l:List ah}
def QnO (a:List (AV D.E)) (s:St D.E):C (List ah):=match a with
 | [l]=>aB (aW D s 15 l) λl=>.ret (l:List ah)
 | _=>.fail
def fP (l:List ah):List ah:=l.flatMap λk=>if k.op=1 then[] else if k.op=3 then k.af else[k]
def jt (t:ah) (a:List ah):ah:=.mk t.op t.r t.mn t.mx t.lz t.cap t.nk a
def Kv (t:ah):ah:=match fP t.af with
 | []=>.mk 1 [] 0 0 false 0 0 []
 | [k]=>k
 | a=>jt t a
def Kw:bp D:=cq 103 ah (λa _=>wa a) (λy=>y.af.length<=1000000/\(fP y.af).length<=1000000) (λy=>[.agg (D.bm 15 y)]) λy=>.agg (D.bm 15 (lk (Kv y)))
def Qv7 (y:Kw.Y):dj D:=⟨[],[],[(58,⟨Nat,[],λx=>[(1,.ptr 0 0),(2,.ptr 1 0),(3,.grow 15 (fP (y.af.take x)) 2),(4,Qyy x)],[],λ_=>[wv 0 y,wv 1 bI,tkO 2],3,λx=>x<=y.af.length,λx=>y.af.length-x⟩)],[],1,[]⟩
def fA:List ah->List ah->List ah
 | _,[]=>[]
 | s,k::l=>if s.any (λx=>wu x k)=true then fA (s++[k]) l else k::fA (s++[k]) l
def Qi:bp D:=cq 140 (List ah) QnO ed (λy=>[.list 15 y]) λy=>.list 15 (lk (fA [] y))
def Ao (y:List ah) (x:List ah×Nat):Prop:=x.2<=y.length/\x.1.length<=x.2/\x.1++fA (y.take x.2) (y.drop x.2)=fA [] y
def Kx (y:List ah) (i k:Nat):Bool:=lk ((y.take k).any λx=>wu x (y.getD i bI))
def Qv9 (y:Qi.Y):dj D:=⟨[],[],[(58,⟨List ah×Nat,[0],λx=>[(3,.grow 15 x.1 0),(4,Qyy x.2)],[],λ_=>[tkO 0],1,Ao y,λx=>y.length-x.2⟩)],[],1,
 [(14922,⟨List ah×Nat,λx=>⟨Nat,[0,4],λk=>[(3,.grow 15 x.1 0),(5,.bool (Kx y x.2 k)),(6,Qyy k)],[],λ_=>[tkO 0],1,λk=>k<=x.2/\x.2<y.length/\Ao y x,λk=>x.2-k⟩,none⟩)]⟩
def Qj:bp D:=cq 139 (List ah) QnO (λy=>y.length<=1000000/\uN y) (λy=>[.list 15 y]) λy=>.list 15 (bQ [] y)
def Qwb (y:Qj.Y):dj D:=⟨[],[8],[(58,⟨List ah×Nat,[0],λx=>[(3,.own 0 8 (ab x.1)),(4,Qyy x.2)],[],λx=>[(0,.arr 15 x.1 164 false)],1,tG y,λx=>y.length-x.2⟩)],[],1,[]⟩
def w6 (l:List ah):List ah:=bQ [] (fA [] l)
def ju:Nat->List ah->List ah
 | 0,l=>w6 l
 | n+1,l=>if (w6 l).length<l.length then ju n (w6 l) else w6 l
def Ky (t:ah):ah:=match ju (aI 4 t.af).length (aI 4 t.af) with
 | [k]=>k
 | a=>jt t a
def Kz:bp D:=cq 104 ah (λa _=>wa a) (λy=>y.af.length<=1000000/\ed (aI 4 y.af)) (λy=>[.agg (D.bm 15 y)]) λy=>.agg (D.bm 15 (lk (Ky y)))
def Qwd (y:Kz.Y):dj D:=⟨[],[],[(58,⟨Nat,[],λx=>[(1,.ptr 0 0),(2,.ptr 1 0),(3,.grow 15 (aI 4 (y.af.take x)) 2),(5,Qyy x)],[],λ_=>[wv 0 y,wv 1 bI,tkO 2],3,λx=>x<=y.af.length/\(aI 4 (y.af.take x)).length<=1000000,λx=>y.af.length-x⟩),
 (124,⟨List ah,[],λx=>[(1,.ptr 0 0),(2,.ptr 1 0),(3,.list 15 x),(4,.list 15 (lk (w6 x)))],[],λ_=>[wv 0 y,wv 1 bI],2,λx=>ed x/\x.length<=(aI 4 y.af).length/\ju x.length x=ju (aI 4 y.af).length (aI 4 y.af),λx=>x.length⟩)],[],1,[]⟩
def Qwf (y:ah):Prop:=QaV y/\y.op=5
def KC:bp D:=cq 105 ah (λa _=>wa a) Qwf (λy=>[.agg (D.bm 15 y)]) λy=>.agg (D.bm 15 (lk (dn y)))
def Qwg (y:KC.Y):dj D:=⟨[],[],[],[(7,⟨Unit,[],λ_=>[(1,.ptr 0 0),(2,.ptr 1 0),(3,.ptr 2 0)],[],λ_=>[wv 0 (wb y),wv 1 bI,wv 2 (bL y)],3,λ_=>True,λ_=>0⟩)],1,[]⟩
def XO (y:ah):Prop:=let a:=lk (Kv y);let q1:=y.af;let c:=q1.length;let g:=λp:Prop=>RAG (RAH (RAF p));let h:=λp:Prop=>RAF (RAK (RA0 y (RAO q1 p)));let u:=ah.mk 0 [] 0 0 false 0 0 [];(∃z:Nat,[]=fP (List.take z q1)/\0=(z:Int)/\g (false=false/\h ((Iv (z<=c)))))/\(∀x:Nat,let d:=fP (List.take x q1);let f:=aD (x:Int) (ab q1);let e:=gt u d 0;let b:=gt u q1 (x:Int).toNat;let i:=bn d [ah.mk b.op b.r b.mn b.mx b.lz b.cap b.nk b.af];(Iv (x<=c))->aj f (aM 0 (x:Int)/\f/\aj (aE b.op 1) (∃z:Nat,d=fP (List.take z q1)/\ay .i64 (x:Int) 1=(z:Int)/\g (false=false/\h ((Iv (z<=c/\(c-z)<(c-x)))))) (aj (aE b.op 3) (aM 0 (x:Int)/\f/\ba (ab (bn d b.af)) 96/\∃z:Nat,bn d b.af=fP (List.take z q1)/\ay .i64 (x:Int) 1=(z:Int)/\g (false=false/\h ((Iv (z<=c/\(c-z)<(c-x)))))) (aM 0 (x:Int)/\f/\ba (ab i) 96/\∃z:Nat,i=fP (List.take z q1)/\ay .i64 (x:Int) 1=(z:Int)/\g (false=false/\h ((Iv (z<=c/\(c-z)<(c-x)))))))) (aj (aE (ab d) 0) (1=a.op/\[]=a.r/\0=a.mn/\0=a.mx/\false=a.lz/\0=a.cap/\0=a.nk/\[]=a.af/\True) (aj (aE (ab d) 1) (Tt 1 (aD 0 (ab d)/\e.op=a.op/\e.r=a.r/\e.mn=a.mn/\e.mx=a.mx/\e.lz=a.lz/\e.cap=a.cap/\e.nk=a.nk/\e.af=a.af/\True)) (y.op=a.op/\y.r=a.r/\y.mn=a.mn/\y.mx=a.mx/\y.lz=a.lz/\y.cap=a.cap/\y.nk=a.nk/\d=a.af/\True))))
def XP (y:List ah):Prop:=let d:=y.length;let u:=ah.mk 0 [] 0 0 false 0 0 [];(∃z:(List ah)×Nat,RAO y ([]=z.1/\0=(z.2:Int)/\(Iv (Ao y z))))/\(∀x:(List ah)×Nat,let q1:=(x.2:Int);let a:=gt u y q1.toNat;let e:=ah.mk a.op a.r a.mn a.mx a.lz a.cap a.nk a.af;let f:=([e]:List ah);(Iv (Ao y x))->aj (aD q1 (ab y)) (∃z:(List ah)×Nat,(∃c:Nat,RAP y q1 (x.1=z.1/\false=Kx y z.2 c/\0=(c:Int)/\(Iv (c<=z.2/\z.2<d/\Ao y z))))/\(∀x1:Nat,let g:=Kx y z.2 x1;let i:=aD (x1:Int) q1;let b:=gt u y (x1:Int).toNat;let h:=ah.mk b.op b.r b.mn b.mx b.lz b.cap b.nk b.af;(Iv (x1<=z.2/\z.2<d/\Ao y z))->aj i (aj g (∃c:Nat,RAQ y q1 z.1 (true=Kx y z.2 c/\ay .i64 (x1:Int) 1=(c:Int)/\(Iv ((c<=z.2/\z.2<d/\Ao y z)/\(z.2-c)<(z.2-x1))))) (aM 0 (x1:Int)/\aD (x1:Int) (ab y)/\aM 0 q1/\aD q1 (ab y)/\Iv (dX h/\dX e)/\RA0 b (RAO b.af (RA0 a (RAO a.af (RA0 b (RAO b.af (RA0 a (RAO a.af (∃c:Nat,aa [y] (aa [q1] (aa [z.1] (wu h e=Kx y z.2 c/\ay .i64 (x1:Int) 1=(c:Int)/\(Iv ((c<=z.2/\z.2<d/\Ao y z)/\(z.2-c)<(z.2-x1)))))))))))))))) (aj (!g) (aM 0 q1/\aD q1 (ab y)/\ba (ab (bn z.1 f)) 96/\∃c:(List ah)×Nat,RAO y (bn z.1 f=c.1/\ay .i64 q1 1=(c.2:Int)/\(Iv (Ao y c/\(d-c.2)<(d-x.2))))) (∃c:(List ah)×Nat,RAO y (z.1=c.1/\ay .i64 q1 1=(c.2:Int)/\(Iv (Ao y c/\(d-c.2)<(d-x.2)))))))) (x.1=lk (fA [] y)/\True))
def XQ (y:List ah):Prop:=let e:=y.length;let j:=λp:Prop=>RAO y p;let u:=ah.mk 0 [] 0 0 false 0 0 [];(∃z:(List ah)×Nat,j (0=ab z.1/\0=(z.2:Int)/\[]=z.1/\(Iv (tG y z))))/\(∀x:(List ah)×Nat,let d:=ab x.1;let b:=(x.2:Int);let c:=dE .i64 d 1;let a:=gt u y b.toNat;let f:=gt u x.1 c.toNat;let g:=bn (bn [] f.r) a.r;let h:=bn x.1 [ah.mk a.op a.r a.mn a.mx a.lz a.cap a.nk a.af];let i:Prop:=(aM 0 b/\aD b (ab y)/\ba (ab h) 96/\∃z:(List ah)×Nat,j (ab h=ab z.1/\ay .i64 b 1=(z.2:Int)/\h=z.1/\(Iv (tG y z/\(e-z.2)<(e-x.2)))));(Iv (tG y x))->aj (aD b (ab y)) (aj (aD 0 d) (aM 0 c/\aD c d/\aj (aE f.op 2) (aM 0 b/\aD b (ab y)/\aj (aE a.op 2) (aM 0 c/\aD c d/\ba (ab (bn [] f.r)) 8/\aM 0 b/\aD b (ab y)/\ba (ab g) 8/\Iv (g.length<=2000000)/\RAO g (aM 0 c/\aD c d/\aa [f.r,a.r,a.r] (∃z:(List ah)×Nat,j (d=ab z.1/\ay .i64 b 1=(z.2:Int)/\dh x.1 c.toNat (ah.mk 2 (aY g) 0 0 false 0 0 [])=z.1/\(Iv (tG y z/\(e-z.2)<(e-x.2))))))) (i)) (i)) (i)) (x.1=bQ [] y/\True))
def XR (y:ah):Prop:=let d:=lk (Ky y);let q1:=y.af;let l:=(aI 4 q1).length;let m:=λp:Prop=>RAF (RAK (RA0 y (RAO q1 p)));let n:=λp:Prop=>RAG (RAH (RAF p));let u:=ah.mk 0 [] 0 0 false 0 0 [];(∃z:Nat,let t:=aI 4 (List.take z q1);[]=t/\0=(z:Int)/\n (false=false/\m ((Iv (z<=q1.length/\t.length<=1000000)))))/\(∀x:Nat,let g:=q1.length;let o:=aD (x:Int) (ab q1);let f:=aI 4 (List.take x q1);let q:=lk (fA [] f);let a:=gt u q1 (x:Int).toNat;let h:=bn f [ah.mk a.op a.r a.mn a.mx a.lz a.cap a.nk a.af];(Iv (x<=g/\f.length<=1000000))->aj o (aM 0 (x:Int)/\o/\aj (aE a.op 4) (aM 0 (x:Int)/\o/\ba (ab (bn f a.af)) 96/\∃z:Nat,let i:=aI 4 (List.take z q1);bn f a.af=i/\ay .i64 (x:Int) 1=(z:Int)/\n (false=false/\m ((Iv ((z<=g/\i.length<=1000000)/\(g-z)<(g-x)))))) (aM 0 (x:Int)/\o/\ba (ab h) 96/\∃z:Nat,let j:=aI 4 (List.take z q1);h=j/\ay .i64 (x:Int) 1=(z:Int)/\n (false=false/\m ((Iv ((z<=g/\j.length<=1000000)/\(g-z)<(g-x))))))) (Iv (ed f)/\RAO f (Iv (q.length<=1000000/\uN q)/\aa [q] ((∃z:List ah,f=z/\bQ [] q=lk (w6 z)/\n (false=false/\m ((Iv (ed z/\z.length<=l/\ju z.length z=ju l (aI 4 q1))))))/\(∀x1:List ah,let b:=lk (w6 x1);let e:=lk (fA [] b);let s:=aD (ab b) (ab x1);let c:=gt u b 0;let k:=ju l (aI 4 q1);(Iv (ed x1/\x1.length<=l/\ju x1.length x1=k))->aj s (Iv (ed b)/\aa [b] (Iv (e.length<=1000000/\uN e)/\aa [e] (∃z:List ah,b=z/\bQ [] e=lk (w6 z)/\n (false=false/\m ((Iv ((ed z/\z.length<=l/\ju z.length z=k)/\z.length<x1.length))))))) (aj (aE (ab b) 1) (Tt 1 (aD 0 (ab b)/\c.op=d.op/\c.r=d.r/\c.mn=d.mn/\c.mx=d.mx/\c.lz=d.lz/\c.cap=d.cap/\c.nk=d.nk/\c.af=d.af/\True)) (y.op=d.op/\y.r=d.r/\y.mn=d.mn/\y.mx=d.mx/\y.lz=d.lz/\y.cap=d.cap/\y.nk=d.nk/\b=d.af/\True)))))))
def XS (y:ah):Prop:=let a:=bL y;let q1:=lk (dn y);let d:=a.af;let u:=ah.mk 0 [] 0 0 false 0 0 [];let c:=gt u y.af 0;let n:=aE (gt u d 0).op 2;let i:=y.lz&&(decide (Ne y.mn y.mx));let j:=ah.mk a.op a.r a.mn a.mx a.lz a.cap a.nk d;let l:=λp:Prop=>RAG (RAH (RAF p));let m:=λp:Prop=>RAF (RAK (RAR y.op y.r y.mn y.mx p));let k:Prop:=(RAQ y.cap y.nk y.af ((Iv True)));let e:Prop:=(a.mx=q1.mx/\a.lz=q1.lz/\a.cap=q1.cap/\a.nk=q1.nk/\d=q1.af/\True);let f:Prop:=(a.op=q1.op/\a.r=q1.r/\a.mn=q1.mn/\e);let b:Prop:=(y.op=q1.op/\y.r=q1.r/\y.mn=q1.mn/\y.mx=q1.mx/\i=q1.lz/\y.cap=q1.cap/\y.nk=q1.nk/\y.af=q1.af/\True);let g:Prop:=(aj (aE a.op 5) (Tt 1 (aD 0 (ab d)/\aj n (aj (!i) (aj (!a.lz) (aj (aE y.mx (-1)) (aj (aE a.mx (-1)) (aj (aM y.mn 1) (aj (aM a.mn 1) (a.op=q1.op/\a.r=q1.r/\jx .i64 a.mn y.mn=q1.mn/\e) (b)) (b)) (b)) (b)) (b)) (b)) (b))) (b));let h:Prop:=(aj (aE y.mx 0) (Iv (dX j)/\RA0 a (RAO d (aj (!(fM j)) (1=q1.op/\[]=q1.r/\0=q1.mn/\0=q1.mx/\false=q1.lz/\0=q1.cap/\0=q1.nk/\[]=q1.af/\True) (g)))) (g));Tt 1 (aD 0 (ab y.af)/\(aj (aE y.mn y.mx) (∃z:Unit,c.op=a.op/\c.r=a.r/\c.mn=a.mn/\c.mx=a.mx/\c.lz=a.lz/\c.cap=a.cap/\c.nk=a.nk/\c.af=d/\l (false=false/\m (false=i/\k))) (∃z:Unit,c.op=a.op/\c.r=a.r/\c.mn=a.mn/\c.mx=a.mx/\c.lz=a.lz/\c.cap=a.cap/\c.nk=a.nk/\c.af=d/\l (false=false/\m (y.lz=i/\k))))/\(∀x:Unit,(Iv True)->aj (aE a.op 1) (f) (aj (aE y.mn 1) (aj (aE y.mx 1) (f) (h)) (h))))
theorem fields {a b:ah} (h:b=a):a.op=b.op/\a.r=b.r/\a.mn=b.mn/\a.mx=b.mx/\a.lz=b.lz/\a.cap=b.cap/\a.nk=b.nk/\a.af=b.af:=by
 grind
def y_ (t:ah) (a:List ah):t.op=(jt t a).op/\t.r=(jt t a).r/\t.mn=(jt t a).mn/\t.mx=(jt t a).mx/\t.lz=(jt t a).lz/\t.cap=(jt t a).cap/\t.nk=(jt t a).nk/\a=(jt t a).af:=⟨rfl,rfl,rfl,rfl,rfl,rfl,rfl,rfl⟩
theorem Qk (a b:List ah):fP (a++b)=fP a++fP b:=by grind [fP]
theorem KD {x:Nat} (a:x<l.length):fP (l.take (x+1))=fP (l.take x)++(if (l.getD x bI).op=1 then[] else if (l.getD x bI).op=3 then(l.getD x bI).af else[l.getD x bI])/\(fP (l.take (x+1))).length<=(fP l).length:=by
 constructor
 ·grind [cy,fP]
 ·grind [List.take_append_drop,Qk]
theorem Qwi (y:ah) (f:Kw.pre y):XO y:=by
 obtain⟨h1,g⟩:y.af.length<=1000000/\(fP y.af).length<=1000000:=f;unfold XO;have d:∀(l:List ah) n,gt (ah.mk 0 [] 0 0 false 0 0 []) l n=l.getD n bI:=λ_ _=>rfl
 simp only[bN,bj,aw,a_,bq,d,bX,Zad,az];refine⟨⟨0,by rfl,rfl,Zaj _⟩,λx i=>⟨λe=>?_,λe=>?_⟩⟩
 ·have c:x<y.af.length:=ω;have⟨j,m⟩:=KD c;grind
 ·rw[show x=y.af.length by omega,ZaM];unfold Kv
  match fP y.af with
  | []=>exact⟨λ_=>⟨rfl,rfl,rfl,rfl,rfl,rfl,rfl,rfl⟩,λh=>absurd rfl h⟩
  | [k]=>exact⟨λh=>by simp at h,λ_=>⟨λ_=>⟨by simp,rfl,rfl,rfl,rfl,rfl,rfl,rfl,rfl⟩,λh=>by simp at h⟩⟩
  | a::b::l=>exact⟨λh=>by grind,λ_=>⟨λh=>by grind,λ_=>y_ _ _⟩⟩
def QnP:Ok Kw:=okZ [] f103 Qv7 trivial Qwi
theorem oT:∀(l s:List ah),(fA s l).Sublist l
 | [],s=>List.Sublist.refl _
 | k::l,s=>by
  rw[fA];split
  ·exact(oT l _).cons _
  ·exact(oT l _).cons₂ _
theorem KE:∀{l m:List ah},l.Sublist m->∀{n:Nat},NL n (aC m)->NL n (aC l)
 | _,_,.slnil,_,h=>h
 | _,_,.cons a hs,_,h=>by
  have⟨p1,p2,p3⟩:=oO h;have:=KE hs p2;exact this.to ω
 | _,_,.cons₂ a hs,_,h=>by
  have⟨p1,p2,p3⟩:=oO h;have:=KE hs p2;exact(p1.app this).to p3
def KG (h:ed l):ed (fA [] l)/\(fA [] l).length<=l.length:=⟨KE (oT l []) h,(oT l []).length_le⟩
theorem Qwj (y:List ah) (b:Qi.pre y):XP y:=by
 have hl:=b.len;have c:∀i k,Kx y i k=(y.take k).any λx=>wu x (y.getD i bI):=λi k=>by grind [Kx,az]
 unfold XP;have h:∀(l:List ah) n,gt (ah.mk 0 [] 0 0 false 0 0 []) l n=l.getD n bI:=λ_ _=>rfl
 simp only[bN,bj,aw,a_,bq,h,bX,Zad,az,Zan,Zao,c];refine⟨⟨([],0),rfl,rfl,Zaj _,Zah _,rfl⟩,λx a=>⟨λe=>⟨x,⟨0,rfl,rfl,rfl,Zaj _,ω,a⟩,λk hk=>⟨λek=>?_,λek=>?_⟩⟩,λe=>?_⟩⟩
 ·have⟨k1,k2,_⟩:=hk;have j:k<y.length:=ω;have ht:∀f:ah->Bool,(y.take (k+1)).any f=((y.take k).any f||f (y.getD k bI)):=λf=>by grind [cy]
  refine⟨λq=>⟨k+1,by grind,bR ω,⟨ω,k2,a⟩,ω⟩,λq=>⟨ω,ω,ω,e,⟨b.get j,b.get k2⟩,k+1,by grind,bR ω,⟨ω,k2,a⟩,ω⟩⟩
 ·have⟨k1,k2,_⟩:=hk;have:k=x.2:=ω;subst this;have⟨i1,i2,i3⟩:=a;have g:y.drop x.2=y.getD x.2 bI::y.drop (x.2+1):=by simp_all
  rw[g,fA] at i3;have d:y.take x.2++[y.getD x.2 bI]=y.take (x.2+1):=(cy bI k2).symm;rw[d] at i3;refine⟨λq=>?_,λq=>?_⟩
  ·exact⟨ω,e,by grind,(x.1++[y.getD x.2 bI],x.2+1),rfl,bR ω,⟨k2,by grind,by grind⟩,show y.length-(x.2+1)<y.length-x.2 by omega⟩
  ·rw[Zac q] at i3;exact⟨(x.1,x.2+1),rfl,bR ω,⟨k2,by grind,i3⟩,show y.length-(x.2+1)<y.length-x.2 by omega⟩
 ·have⟨i1,i2,i3⟩:=a;grind [fA]
def QnQ:Ok Qi:=okZ [Qg] f140 Qv9 QnL Qwj
theorem Qwk (y:List ah) (p:Qj.pre y):XQ y:=by
 obtain⟨hl,j⟩:y.length<=1000000/\uN y:=p;unfold XQ;have f:∀(l:List ah) n,gt (ah.mk 0 [] 0 0 false 0 0 []) l n=l.getD n bI:=λ_ _=>rfl
 simp only[bN,bj,aw,a_,bq,f,bX,Zad,Zcb];refine⟨⟨([],0),rfl,rfl,rfl,Zaj _,rfl,Zah _,λt ht=>nomatch ht⟩,λx m=>?_⟩;have⟨o,i⟩:=x;obtain⟨c1,c2,c3,c4⟩:i<=y.length/\bQ o (y.drop i)=bQ [] y/\o.length<=i/\uN o:=m;simp only;refine⟨λe=>?_,λe=>?_⟩
 ·have d:y.drop i=y.getD i bI::y.drop (i+1):=by simp_all
  have hk:(y.getD i bI).r.length<=1000000:=j _ (by grind);rw[d,bQ] at c2;have s:=jT o (y.getD i bI);have q:=Gc c4 hk;have step:∀z,z=dT o (y.getD i bI)->tG y (z,i+1)/\y.length-(i+1)<y.length-i:=λz hz=>by
   subst hz;exact⟨⟨show i+1<=y.length by omega,c2,show(dT o (y.getD i bI)).length<=i+1 by omega,q⟩,ω⟩
  generalize y.getD i bI=k at*
  have b:¬(o.length≠0/\k.op=2/\(pe o).op=2)->(0:Int)<=(i:Int)/\(i:Int)<(y.length:Int)/\(((o++[k]).length:Nat):Int)*(96:Nat)<=140737488355328/\∃z:List ah×Nat,(((o++[k]).length:Nat):Int)=((z.1.length:Nat):Int)/\ay .i64 (i:Int) 1=(z.2:Int)/\o++[k]=z.1/\tG y z/\y.length-z.2<y.length-i:=λh=>by
   grind [dT]
  refine⟨λh0=>?_,λh0=>b λh=>h.1 ω⟩;rw[Br ω ω];have c:o.getD (((o.length-1:Nat):Int).toNat) bI=pe o:=rfl;have g:(pe o).r.length<=1000000:=c4 _ (by grind);simp only[c];refine⟨ω,ω,λh1=>⟨ω,e,λa=>⟨ω,ω,ω,ω,e,by grind,by grind,ω,ω,(dT o k,i+1),?_,bR ω,?_,step _ rfl⟩,λa=>b λh=>a h.2.1⟩,λh1=>b λh=>h1 h.2.2⟩
  ·grind [dT]
  ·unfold dT;rw[Zac ⟨ω,a,h1⟩];rfl
 ·grind [bQ]
def QnR:Ok Qj:=okZ [mz] f139 Qwb (I' yk) Qwk
def QnS (h:ed l):ed (w6 l)/\(w6 l).length<=l.length:=by
 have⟨o1,c⟩:=KG h;have⟨a,b⟩:=MO o1;exact⟨a,Zav b c⟩
theorem GV:∀(n m:Nat) (l:List ah),l.length<=n->l.length<=m->ju n l=ju m l
 | 0,0,l,_,_=>rfl
 | 0,m+1,l,h,_=>by grind [ju]
 | n+1,0,l,_,h=>by grind [ju]
 | n+1,m+1,l,h1,a=>by
  rw[ju,ju];split
  ·exact GV n m _ ω ω
  ·rfl
theorem XT (h:(w6 l).length<l.length):ju (w6 l).length (w6 l)=ju l.length l:=by
 obtain⟨k,hk⟩:∃k,l.length=k+1:=⟨l.length-1,ω⟩;grind [ju,GV]
theorem Qb0 (h:¬(w6 l).length<l.length):ju l.length l=w6 l:=by
 cases hl:l.length with
 | zero=>rfl
 | succ k=>rw[ju,Zaa h]
theorem GW (op:Int) {x:Nat} (a:x<l.length):aI op (l.take (x+1))=aI op (l.take x)++(if (l.getD x bI).op=op then(l.getD x bI).af else[l.getD x bI]):=by
 grind [cy,aI]
theorem Qwl (y:ah) (s:Kz.pre y):XR y:=by
 obtain⟨h1,f⟩:y.af.length<=1000000/\ed (aI 4 y.af):=s;unfold XR;have r:∀(l:List ah) n,gt (ah.mk 0 [] 0 0 false 0 0 []) l n=l.getD n bI:=λ_ _=>rfl
 simp only[bN,bj,aw,a_,bq,r,bX,Zad,az];refine⟨⟨0,by rfl,rfl,ω,by simp[aI]⟩,λx v=>⟨λe=>?_,λe=>?_⟩⟩
 ·have q:x<y.af.length:=ω;have A:=GW 4 q;have B:=lK 4 y.af (x+1);have s3:=f.len;grind
 ·have i:x=y.af.length:=ω;subst i;rw[ZaM];have⟨o1,z⟩:=KG f;refine⟨f,⟨o1.len,o1.rt⟩,⟨_,rfl,rfl,f,Zah _,rfl⟩,λl hl=>⟨λc=>?_,λc=>?_⟩⟩
  ·have⟨p,t,g⟩:=hl;have⟨j,w⟩:=QnS p;have⟨o,u⟩:=KG j;have d:(w6 l).length<l.length:=ω;exact⟨j,⟨o.len,o.rt⟩,_,rfl,rfl,⟨j,ω,by rw[XT d,g]⟩,d⟩
  ·have⟨p,t,g⟩:=hl;have d:¬(w6 l).length<l.length:=ω;rw[Qb0 d] at g;unfold Ky;rw[<-g]
   match w6 l with
   | []=>exact⟨λh=>by simp at h,λ_=>y_ _ _⟩
   | [k]=>exact⟨λ_=>⟨by simp,rfl,rfl,rfl,rfl,rfl,rfl,rfl,rfl⟩,λh=>by simp at h⟩
   | a::b::m=>exact⟨λh=>by grind,λ_=>y_ _ _⟩
def QnT:Ok Kz:=okZ [Qi,Qj] f104 Qwd ⟨QnQ,QnR⟩ Qwl
theorem Qwm (y:ah) (t:KC.pre y):XS y:=by
 obtain⟨⟨h1,m,D,q⟩,r⟩:QaV y/\y.op=5:=t;unfold XS;have s:∀(l:List ah) n,gt (ah.mk 0 [] 0 0 false 0 0 []) l n=l.getD n bI:=λ_ _=>rfl
 have hk:y.af.getD 0 bI=bL y:=rfl;have f:(bL y).af.getD 0 bI=bL (bL y):=rfl;simp only[bN,bj,aw,s,hk,f,bX,az,Zan,Zao,ZaY,ZaZ];have R:¬(bL y).op=1->¬(y.mn=1/\y.mx=1)->¬(y.mx=0/\fM (bL y)=false)->dn y=if (y.lz&&decide (y.mn≠y.mx))=false/\y.mx= -1/\y.mn<=1/\(bL y).op=5/\(bL y).lz=false/\(bL y).mx= -1/\(bL y).mn<=1/\(bL (bL y)).op=2 then Ga (bL y) y.mn else wb y:=λa b c=>by
  unfold dn;have c:(fi (MN (wb y))/\fi (MN (bL y))/\(bL (bL y)).op=2)↔((y.lz&&decide (y.mn≠y.mx))=false/\y.mx= -1/\y.mn<=1/\(bL y).op=5/\(bL y).lz=false/\(bL y).mx= -1/\(bL y).mn<=1/\(bL (bL y)).op=2):=by
   have C:fi (MN (wb y))=(!(y.lz&&decide (y.mn≠y.mx))&&y.mx==-1&&decide (y.mn<=1)):=by
    show(y.op==5&&_&&_&&_)=_
    rw[r];rfl
   grind [fi,MN]
  grind
 have o:(bL y).op=1->dn y=bL y:=λh=>by grind [dn]
 have p:¬(bL y).op=1->y.mn=1->y.mx=1->dn y=bL y:=λh a b=>by grind [dn]
 have k:¬(bL y).op=1->¬(y.mn=1/\y.mx=1)->y.mx=0->fM (bL y)=false->dn y=.mk 1 [] 0 0 false 0 0 []:=λh a b c=>by grind [dn]
 have M:(bL y).op=5->y.mn<=1->(bL y).mn<=1->jx .i64 (bL y).mn y.mn=(bL y).mn*y.mn:=λa b c=>by
  grind
 refine⟨ω,⟨λe=>?_,λe=>?_⟩,λo1=>fields (o o1),λo1=>⟨λm1=>⟨λm2=>fields (p o1 m1 m2),λm2=>⟨λx0=>⟨m,λg=>fields (k o1 ω x0 g),λg=>?_⟩,λx0=>?_⟩⟩,λm1=>⟨λx0=>⟨m,λg=>fields (k o1 ω x0 g),λg=>?_⟩,λx0=>?_⟩⟩⟩
 ·grind
 ·simp[e]
 all_goals
  have e:=R o1 ω (by first | (intro h;omega) | (intro h;rw[g] at h;exact absurd h.2 (by simp)));refine⟨λk5=>⟨by have:=(q k5).2;omega,λk2=>⟨λz=>⟨λi=>⟨λmx=>⟨λd=>⟨λa=>⟨λb=>?_,λb=>?_⟩,λa=>?_⟩,λd=>?_⟩,λmx=>?_⟩,λi=>?_⟩,λz=>?_⟩,λk2=>?_⟩,λk5=>?_⟩
  ·rw[Zac ⟨z,mx,a,k5,i,d,b,k2⟩] at e;rw[e,M k5 a b];exact⟨rfl,rfl,rfl,rfl,rfl,rfl,rfl,rfl⟩
  all_goals
   rw[Zaa (by rintro⟨x,E,A,v,j,w,B,u⟩;first | omega | exact absurd (x.symm.trans z) ZaS | exact absurd (j.symm.trans i) ZaS)] at e;rw[e];exact⟨rfl,rfl,rfl,rfl,rfl,rfl,rfl,rfl⟩
def QnU:Ok KC:=okZ [Ku] f105 Qwg QnM Qwm
mutual
def DK:ah->Bool
 | .mk op _ mn mx _ _ _ ks=>if op=1 then true else if op=3 then rN ks else if op=5 then(if mx=0 then true else decide (mn=mx)&&DL ks) else false
def rN:List ah->Bool
 | []=>true
 | t::l=>DK t&&rN l
def DL:List ah->Bool
 | []=>false
 | t::_=>DK t
end
def kz (t:ah):Bool:=lk (DK t)
def HG (y:ah):Prop:=dX y/\kZ y
def GX:bp D:=cq 142 ah (λa _=>wa a) HG (λy=>[.agg (D.bm 15 y)]) λy=>.bool (kz y)
def Qwn (y:GX.Y):dj D:=⟨[],[],[(3442,⟨Nat,[],λx=>[(1,.ptr 0 0),(3,Qyy x)],[],λ_=>[tbx y],1,λx=>x<=y.af.length/\rN (y.af.drop x)=rN y.af,λx=>y.af.length-x⟩)],[],1,[]⟩
def Qwo (y:GX.Y):Prop:=vc [GX.under dI (dI y)] f142 GX Qwn y
structure dJ where
 ag:List a8
 b7:Bool
def bM (y:dJ) (i:a8):dJ×Int:=if 400<=y.ag.length then(⟨y.ag,true⟩,0) else(⟨y.ag++[i],y.b7⟩,y.ag.length)
def lZ (y:dJ) (lz:Bool) (j:Int):dJ:=if y.b7=true then y else⟨fT y.ag.length lz y.ag j,false⟩
def ei (g:List a8->Int->List a8) (y:dJ) (a:List Int):dJ:=if y.b7=true then y else⟨a.foldl g y.ag,false⟩
def oU (f:dJ->dJ) (q:Bool):Nat->dJ->dJ
 | 0,s=>s
 | n+1,s=>if s.b7\/q=true then s else oU f q n (f s)
def kA (f:dJ->dJ):Nat->dJ->List Int->dJ×List Int
 | 0,s,j=>(s,j)
 | n+1,s,j=>if s.b7=true then(s,j) else kA f n (f (bM s ⟨2,0,0,[]⟩).1) (j++[(bM s ⟨2,0,0,[]⟩).2])
def BW (f:dJ->dJ) (lz:Bool) (s:dJ):dJ:=lZ (bM (f (bM s ⟨2,0,0,[]⟩).1) ⟨3,(bM s ⟨2,0,0,[]⟩).2,0,[]⟩).1 lz (bM s ⟨2,0,0,[]⟩).2
def zc (f:dJ->dJ) (q:Bool) (mn mx:Int) (lz:Bool) (s:dJ):dJ:=
 if mx= -1 then BW f lz (oU f q mn.toNat s)
 else ei (fT (kA f (lP mn mx) (oU f q mn.toNat s) []).1.ag.length lz) (kA f (lP mn mx) (oU f q mn.toNat s) []).1 (kA f (lP mn mx) (oU f q mn.toNat s) []).2
def wx (f:dJ->dJ) (s:dJ):dJ×Int:=(lZ (bM (f (bM s ⟨2,0,0,[]⟩).1) ⟨3,0,0,[]⟩).1 false (bM s ⟨2,0,0,[]⟩).2,(bM (f (bM s ⟨2,0,0,[]⟩).1) ⟨3,0,0,[]⟩).2)
mutual
def jD:ah->dJ->dJ
 | .mk op r mn mx lz cap _ ks,s=>if s.b7=true then s
  else if op=2 then(bM s ⟨1,0,0,r⟩).1
  else if op=3 then l0 ks s
  else if op=4 then ei (lQ (gB ks s []).1.ag.length) (gB ks s []).1 (gB ks s []).2
  else if op=5 then zc (λs=>Q0 ks s) (DL ks) mn mx lz s
  else if op=6 then(bM (Q0 ks (bM s ⟨4,2*cap,0,[]⟩).1) ⟨4,2*cap+1,0,[]⟩).1
  else if op=7 then(bM s ⟨5,0,0,[]⟩).1
  else if op=8 then(bM s ⟨6,0,0,[]⟩).1 else s
def l0:List ah->dJ->dJ
 | [],s=>s
 | t::l,s=>if s.b7=true then s else l0 l (jD t s)
def Q0:List ah->dJ->dJ
 | [],s=>s
 | t::_,s=>jD t s
def gB:List ah->dJ->List Int->dJ×List Int
 | [],s,j=>(s,j)
 | t::l,s,j=>if s.b7=true then(s,j) else if l.isEmpty=true then(jD t s,j) else gB l (wx (λs=>jD t s) s).1 (j++[(wx (λs=>jD t s) s).2])
end
def KH (n:Nat) (y:dJ):List (Nat×AO D.E):=[(0,.cells [.own n 4 (ab y.ag),.bool y.b7] 171 false),(n,.arr 8 y.ag 146 false)]
def XU (v:AV D.E) (s:St D.E):C dJ:=match v with
 | .ptr b _=>aB (dg (s.h.get b)) λo=>match o with
  | .cells cs _ _=>match cs with
   | [c,b]=>aB (aW D s 8 c) λc=>aP (xg b) λb _=>.ret ⟨c,b⟩
   | _=>.fail
  | _=>.fail
 | _=>.fail
def Ap:bp D:=⟨69,dJ×a8,λa s=>match a with
 | [p,i]=>aB (XU p s) λy=>aB (QeE i) λi=>.ret (y,i)
 | _=>.fail,λy=>y.1.ag.length<=400,λy=>[.ptr 0 0,.agg (D.bm 8 y.2)],λy=>KH 1 y.1,λy=>Qyy (bM y.1 y.2).2,λy=>KH 2 (bM y.1 y.2).1,2,3⟩
def XV:bp D:=⟨143,dJ×Int×Int×Bool,λa s=>match a with
 | [p,i,o,b]=>aB (XU p s) λy=>aP (cQ i) λ_ i=>aP (cQ o) λ_ o=>aP (xg b) λb _=>.ret (y,i,o,b)
 | _=>.fail,λy=>y.1.ag.length<=1000/\0<=y.2.1/\y.2.1<y.1.ag.length,λy=>[.ptr 0 0,Qyy y.2.1,Qyy y.2.2.1,.bool y.2.2.2],λy=>KH 1 y.1,λ_=>.tuple [],λy=>KH 1 ⟨fT y.2.2.1 y.2.2.2 y.1.ag y.2.1,y.1.b7⟩,2,2⟩
def XW (y:ah):Prop:=let b:=y.af;let u:=ah.mk 0 [] 0 0 false 0 0 [];let q1:=gt u b 0;let d:=ah.mk q1.op q1.r q1.mn q1.mx q1.lz q1.cap q1.nk q1.af;let g:=λp:Prop=>RA0 y (RAO b p);aj (aE y.op 1) (true=kz y/\True) (aj (aE y.op 3) ((∃z:Nat,0=(z:Int)/\g ((Iv (z<=b.length/\rN (List.drop z b)=rN b))))/\(∀x:Nat,let c:=b.length;let f:=aD (x:Int) (ab b);let a:=gt u b (x:Int).toNat;let e:=ah.mk a.op a.r a.mn a.mx a.lz a.cap a.nk a.af;(Iv (x<=c/\rN (List.drop x b)=rN b))->aj f (aM 0 (x:Int)/\f/\Iv (HG e/\dI e<dI y)/\RA0 a (RAO a.af (aj (!(kz e)) (false=kz y/\True) (∃z:Nat,ay .i64 (x:Int) 1=(z:Int)/\g ((Iv ((z<=c/\rN (List.drop z b)=rN b)/\(c-z)<(c-x)))))))) (true=kz y/\True))) (aj (aE y.op 5) (aj (aE y.mx 0) (true=kz y/\True) (aj (aE y.mn y.mx) (Tt 1 (aD 0 (ab b)/\Iv (HG d/\dI d<dI y)/\RA0 q1 (RAO q1.af (kz d=kz y/\True)))) (false=kz y/\True))) (false=kz y/\True)))
def Qb1:∀y,XW y=Qwo y:=λy=>by kernel_rfl
def Qfa (y:dJ×a8):Prop:=let b:=ab y.1.ag;let q1:=ab (bM y.1 y.2).1.ag;let a:=bn y.1.ag [y.2];aj (aM 400 b) (0=(bM y.1 y.2).2/\b=q1/\true=(bM y.1 y.2).1.b7/\y.1.ag=(bM y.1 y.2).1.ag/\True) (ba (ab a) 48/\RAS b y.2.op y.2.x y.2.y y.2.bz (dE .i64 (ab a) 1=(bM y.1 y.2).2/\ab a=q1/\y.1.b7=(bM y.1 y.2).1.b7/\a=(bM y.1 y.2).1.ag/\True))
def Qfb (y:dJ×Int×Int×Bool):Prop:=let a:=ab y.1.ag;let q1:=y.2.1.toNat;let h:=ay .i64 y.2.1 1;let d:=gt (a8.mk 0 0 0 []) y.1.ag q1;let c:=fT y.2.2.1 y.2.2.2 y.1.ag y.2.1;let i:=dh y.1.ag q1 (a8.mk d.op h d.y d.bz);let e:=gt (a8.mk 0 0 0 []) i q1;let f:=dh i q1 (a8.mk e.op e.x y.2.2.1 e.bz);let g:=gt (a8.mk 0 0 0 []) f q1;let j:=dh f q1 (a8.mk g.op y.2.2.1 g.y g.bz);let b:=gt (a8.mk 0 0 0 []) j q1;aM 0 y.2.1/\aD y.2.1 a/\aM 0 y.2.1/\aD y.2.1 a/\RAP a a (aj y.2.2.2 (aM 0 y.2.1/\aD y.2.1 a/\aM 0 y.2.1/\aD y.2.1 a/\aa [a,a] (a=ab c/\aa [y.1.b7] (dh j q1 (a8.mk b.op b.x h b.bz)=c/\True))) (a=ab c/\aa [y.1.b7] (f=c/\True)))
def HG.Wo {y:ah} (h:HG y) {x:Nat} (a:x<y.af.length):HG (y.af.getD x bI):=⟨(y9 h.1 a).1,((jq y).mp h.2).2.2.mem a⟩
def Qh3 (t:ah):DK t=if t.op=1 then true else if t.op=3 then rN t.af else if t.op=5 then(if t.mx=0 then true else decide (t.mn=t.mx)&&DL t.af) else false:=by cases t;rw[DK];rfl
theorem Ni {l:List ah} (h:0<l.length):DL l=DK (l.getD 0 bI):=by
 cases l with
 | nil=>cases h
 | cons t l=>rw[DL];rfl
theorem QnV (y:ah) (b:GX.pre y):XW y:=by
 have b:HG y:=b;have hk:=b.1.few;have h:∀t,kz t=DK t:=λt=>by grind [kz,az]
 unfold XW;have k:∀(l:List ah) n,gt (ah.mk 0 [] 0 0 false 0 0 []) l n=l.getD n bI:=λ_ _=>rfl
 simp only[bN,bj,aw,k,bX,Zad,Zan,Zao,h];have q:=Qh3 y;refine⟨λo1=>by grind,λo1=>⟨λd=>⟨⟨0,rfl,Zaj _,rfl⟩,λx o=>⟨λe=>?_,λe=>?_⟩⟩,λd=>⟨λf=>⟨λm=>?_,λm=>⟨λm2=>?_,λm2=>?_⟩⟩,λf=>?_⟩⟩⟩
 ·rw[Zaa o1,Zac d] at q;have c:x<y.af.length:=ω;have j:y.af.drop x=y.af.getD x bI::y.af.drop (x+1):=by simp_all
  have i:=o.2;rw[j,rN] at i;refine⟨ω,e,⟨b.Wo c,jo c⟩,λg=>?_,λg=>⟨x+1,bR ω,⟨c,?_⟩,ω⟩⟩
  ·grind
  ·grind
 ·grind [rN]
 ·grind
 ·have a:0<y.af.length:=by
   have:=(((jq y).mp b.2).1.rep f).1;grind
  rw[q,Zaa o1,Zaa d,Zac f,Zaa m,Ni a];exact⟨ω,⟨b.Wo a,jo a⟩,by simp[m2]⟩
 ·grind
 ·grind
def QnW:Ok GX:=QY dI Qb1 trivial QnV
theorem Nj:Ok Ap:=okZ (V:=Qfa) [] f69 (λ_=>dk ()) trivial λy a=>by
 grind [Qfa,bM]
def QnX:Ok XV:=okZ (V:=Qfb) [] f143 (λ_=>dk ()) trivial λy f=>by
 obtain⟨m,a,o,lz⟩:=y;obtain⟨h1,b,c⟩:m.ag.length<=1000/\0<=a/\a<m.ag.length:=f;have hi:a.toNat<m.ag.length:=ω;unfold Qfb;simp only[bj,gg,gF,aw,eH,Dr hi,uR];have e:ay .i64 a 1=a+1:=bA ω ω;have d:gt (a8.mk 0 0 0 []) m.ag a.toNat=m.ag.getD a.toNat in0:=rfl;refine⟨b,c,b,c,λh=>⟨b,c,b,c,?_⟩,λh=>?_⟩
 ·simp only[e,d,h,fT,Zbv];rfl
 ·simp only[e,d,h,fT,ZaE,Za0];rfl
structure Gw (s t:dJ):Prop where
 len:s.ag.length<=t.ag.length
 max:s.ag.length<=400->t.ag.length<=400
 b7:s.b7=true->t.b7=true
variable {Z:dJ->dJ} {s Y:dJ}
theorem Gw.refl (s:dJ):Gw s s:=⟨Zah _,id,id⟩
def Gw.trans {u:dJ} (h:Gw s Y) (k:Gw Y u):Gw s u:=⟨Zav h.len k.len,λe=>k.max (h.max e),λe=>k.b7 (h.b7 e)⟩
theorem Gw.low (h:Gw s Y) (e:Y.b7=false):s.b7=false:=by
 cases a:s.b7 with
 | false=>rfl
 | true=>rw[h.b7 a] at e;cases e
theorem fu (s:dJ) (i:a8):Gw s (bM s i).1/\((bM s i).1.b7=false->s.ag.length<400/\(bM s i).2=s.ag.length/\(bM s i).1=⟨s.ag++[i],false⟩):=by
 unfold bM;split
 ·exact⟨⟨Zah _,id,λ_=>rfl⟩,λh=>by cases h⟩
 ·refine⟨⟨by simp,λh=>by grind,id⟩,λh=>⟨ω,rfl,?_⟩⟩;grind
theorem DM (s:dJ) (lz:Bool) (j:Int):Gw s (lZ s lz j)/\(lZ s lz j).ag.length=s.ag.length/\(lZ s lz j).b7=s.b7:=by
 unfold lZ;split
 ·grind [Gw.refl]
 ·rename_i h
  have h:s.b7=false:=by grind
  exact⟨⟨by grind [eH],by grind [eH],λe=>by grind⟩,eH _ _ _ _,h.symm⟩
theorem gj (g:List a8->Int->List a8) (b:∀l j,(g l j).length=l.length) (s:dJ) (a:List Int):Gw s (ei g s a)/\(ei g s a).ag.length=s.ag.length/\(ei g s a).b7=s.b7:=by
 have:∀(a:List Int) (l:List a8),(a.foldl g l).length=l.length:=λa=>by
  induction a with
  | nil=>intro l;rfl
  | cons j a c=>intro l;rw[Zb2,c,b]
 unfold ei;split
 ·grind [Gw.refl]
 ·rename_i h
  have h:s.b7=false:=by grind
  exact⟨⟨by grind,by grind,λe=>by grind⟩,this _ _,h.symm⟩
theorem w7 (q:Bool) (a:∀s,Gw s (Z s)):∀(n:Nat) (s:dJ),Gw s (oU Z q n s)
 | 0,s=>Gw.refl s
 | n+1,s=>by
  rw[oU];split
  ·exact Gw.refl s
  ·exact(a s).trans (w7 q a n _)
def InJ (s:dJ) (j:List Int):Prop:=s.b7=false->∀v∈j,0<=v/\v<s.ag.length
theorem InJ.more {j:List Int} (h:InJ s j) (g:Gw s Y) {v:Int} (b:Y.b7=false->0<=v/\v<Y.ag.length):InJ Y (j++[v]):=λe x a=>by
 rcases List.mem_append.mp a with h1 | h1
 ·have:=h (g.low e) x h1;have:=g.len;omega
 ·grind
theorem uW (a:∀s,Gw s (Z s)):∀(n:Nat) (s:dJ) (j:List Int),InJ s j->Gw s (kA Z n s j).1/\InJ (kA Z n s j).1 (kA Z n s j).2/\(kA Z n s j).2.length<=j.length+n
 | 0,s,j,h=>⟨Gw.refl s,h,Zah _⟩
 | n+1,s,j,h=>by
  rw[kA];split
  ·grind [Gw.refl]
  ·obtain⟨p1,p2⟩:=fu s ⟨2,0,0,[]⟩;have g1:=p1.trans (a (bM s ⟨2,0,0,[]⟩).1);obtain⟨o1,b,g⟩:=uW a n (Z (bM s ⟨2,0,0,[]⟩).1) (j++[(bM s ⟨2,0,0,[]⟩).2]) (h.more g1 λe=>by
    obtain⟨q1,c,i⟩:=p2 ((a _).low e);have:=(a (bM s ⟨2,0,0,[]⟩).1).len;have d:(bM s ⟨2,0,0,[]⟩).1.ag.length=s.ag.length+1:=by grind
    rw[c];omega)
   exact⟨g1.trans o1,b,by grind⟩
def Nk (a:∀s,Gw s (Z s)) (lz:Bool) (s:dJ):Gw s (BW Z lz s):=by
 unfold BW;exact(((fu s _).1.trans (a _)).trans (fu _ _).1).trans (DM _ _ _).1
def Qb4 (a:∀s,Gw s (Z s)) (q:Bool) (mn mx:Int) (lz:Bool) (s:dJ):Gw s (zc Z q mn mx lz s):=by
 unfold zc;have h1:=w7 q a mn.toNat s;split
 ·exact h1.trans (Nk a lz _)
 ·have b:=uW a (lP mn mx) (oU Z q mn.toNat s) [] (λ_ v c=>nomatch c);exact(h1.trans b.1).trans (gj _ (λl j=>eH _ _ _ _) _ _).1
theorem Nl (a:∀s,Gw s (Z s)) (s:dJ):Gw s (wx Z s).1/\((wx Z s).1.b7=false->0<=(wx Z s).2/\(wx Z s).2<(wx Z s).1.ag.length):=by
 unfold wx;obtain⟨p1,p2⟩:=fu s ⟨2,0,0,[]⟩;obtain⟨b,c⟩:=fu (Z (bM s ⟨2,0,0,[]⟩).1) ⟨3,0,0,[]⟩;obtain⟨k1,k2,k3⟩:=DM (bM (Z (bM s ⟨2,0,0,[]⟩).1) ⟨3,0,0,[]⟩).1 false (bM s ⟨2,0,0,[]⟩).2;refine⟨((p1.trans (a _)).trans b).trans k1,λe=>?_⟩;grind
def tS (t:ah) (s:dJ):jD t s=if s.b7=true then s
  else if t.op=2 then(bM s ⟨1,0,0,t.r⟩).1
  else if t.op=3 then l0 t.af s
  else if t.op=4 then ei (lQ (gB t.af s []).1.ag.length) (gB t.af s []).1 (gB t.af s []).2
  else if t.op=5 then zc (λs=>Q0 t.af s) (DL t.af) t.mn t.mx t.lz s
  else if t.op=6 then(bM (Q0 t.af (bM s ⟨4,2*t.cap,0,[]⟩).1) ⟨4,2*t.cap+1,0,[]⟩).1
  else if t.op=7 then(bM s ⟨5,0,0,[]⟩).1
  else if t.op=8 then(bM s ⟨6,0,0,[]⟩).1 else s:=by cases t;rw[jD];rfl
mutual
theorem mE:∀(t:ah) (s:dJ),Gw s (jD t s)
 | .mk op r mn mx lz cap nk ks,s=>by
  have hL:=DN ks
  have hH:=QnY ks
  have hA:=zd ks s [] (λ_ v hv=>nomatch hv)
  rw[jD]
  split
  ·exact Gw.refl s
  ·split
   ·exact(fu _ _).1
   ·split
    ·exact hL s
    ·split
     ·exact hA.1.trans (gj _ (λl j=>js _ _ _) _ _).1
     ·split
      ·exact Qb4 hH _ _ _ _ s
      ·split
       ·exact((fu _ _).1.trans (hH _)).trans (fu _ _).1
       ·split
        ·exact(fu _ _).1
        ·split
         ·exact(fu _ _).1
         ·exact Gw.refl s
theorem DN:∀(l:List ah) (s:dJ),Gw s (l0 l s)
 | [],s=>by rw[l0];exact Gw.refl s
 | t::l,s=>by
  rw[l0]
  split
  ·exact Gw.refl s
  ·exact(mE t s).trans (DN l _)
theorem QnY:∀(l:List ah) (s:dJ),Gw s (Q0 l s)
 | [],s=>by rw[Q0];exact Gw.refl s
 | t::_,s=>by rw[Q0];exact mE t s
theorem zd:∀(l:List ah) (s:dJ) (j:List Int),InJ s j->Gw s (gB l s j).1/\InJ (gB l s j).1 (gB l s j).2/\(gB l s j).2.length<=j.length+l.length
 | [],s,j,h=>by rw[gB];exact⟨Gw.refl s,h,Zah _⟩
 | t::l,s,j,h=>by
  have hf:=mE t
  rw[gB]
  split
  ·exact⟨Gw.refl s,h,by simp only;omega⟩
  ·split
   ·exact⟨hf s,λe v hv=>by have:=h ((hf s).low e) v hv;have:=(hf s).len;simp only;omega,by simp only;omega⟩
   ·obtain⟨u1,u2⟩:=Nl hf s
    obtain⟨a1,a2,a3⟩:=zd l (wx (λs=>jD t s) s).1 (j++[(wx (λs=>jD t s) s).2]) (h.more u1 u2)
    exact⟨u1.trans a1,a2,by simp only[Zab,Zae,Zak] at a3 ⊢;omega⟩
end
def Qh5 (f:FuncId) (Y:Type) (c:Y->dJ) (zL:List (AV D.E)->St D.E->C Y) (pre:Y->Prop) (args:Y->List (AV D.E)) (to:Y->dJ):bp D:=⟨f,Y,zL,pre,λy=>.ptr 0 0::args y,λy=>KH 1 (c y),λ_=>.tuple [],λy=>KH 2 (to y),2,3⟩
def eU (y:dJ×ah):dJ:=lk (jD y.2 y.1)
def DO (y:dJ×ah):Prop:=y.1.ag.length<=400/\HG y.2
def KI:bp D:=Qh5 70 (dJ×ah) (·.1) (λa s=>match a with
 | [p,t]=>aB (XU p s) λc=>aB (JO t) λt=>.ret (c,t)
 | _=>.fail) DO (λy=>[.agg (D.bm 15 y.2)]) eU
def kS (y:dJ×List ah):dJ×List Int:=lk (gB y.2 y.1 [])
def oV (y:dJ×List ah) (j:Nat):dJ:=lk (ei (lQ (kS y).1.ag.length) (kS y).1 ((kS y).2.take j))
def ze (y:dJ×List ah):dJ:=lk (oV y (kS y).2.length)
def QnZ (y:dJ×List ah):Prop:=y.1.ag.length<=400/\y.1.b7=false/\y.2.length<=1000000/\∀t∈y.2,HG t
def Ql:bp D:=Qh5 106 (dJ×List ah) (·.1) (λa s=>match a with
 | [p,l]=>aB (XU p s) λc=>aB (aW D s 15 l) λl=>.ret (c,(l:List ah))
 | _=>.fail) QnZ (λy=>[.list 15 y.2]) ze
structure Nn where
 c:dJ
 n:Nd
 k:ah
def kT (y:Nn):dJ:=lk (oU (jD y.k) (kz y.k) y.n.mn.toNat y.c)
def sy (y:Nn):Nat:=lk (lP y.n.mn y.n.mx)
def i_ (y:Nn):dJ×List Int:=lk (kA (jD y.k) (sy y) (kT y) [])
def pz (y:Nn) (j:Nat):dJ:=lk (ei (fT (i_ y).1.ag.length y.n.lz) (i_ y).1 ((i_ y).2.take j))
def qy (y:Nn):dJ:=lk (zc (jD y.k) (kz y.k) y.n.mn y.n.mx y.n.lz y.c)
def Qn0 (y:Nn):Prop:=y.c.ag.length<=400/\y.c.b7=false/\HG y.k/\0<=y.n.mn/\y.n.mn<=30/\(y.n.mx= -1\/(y.n.mn<=y.n.mx/\y.n.mx<=30))
def Qm:bp D:=Qh5 107 Nn (·.c) (λa s=>match a with
 | [p,n,t]=>aB (XU p s) λc=>aB (QgY n) λn=>aB (JO t) λt=>.ret ⟨c,n,t⟩
 | _=>.fail) Qn0 (λy=>[.agg (D.bm 7 y.n),.agg (D.bm 15 y.k)]) qy
def fnO (n:Nat):vU:=[KI.under (λy=>2*dI y.2) n,Ql.under (λy=>2*vI y.2+1) n,Qm.under (λy=>2*dI y.k+1) n]
def Qn1 (y:KI.Y):dj D:=⟨[],[],[(1978,⟨dJ×Nat,[0],λx=>[(3,.ptr 2 0),(4,Qyy x.2)],[],λx=>KH 3 x.1++[wv 2 y.2],4,λx=>x.2<=y.2.af.length/\Gw y.1 x.1/\l0 (y.2.af.drop x.2) x.1=l0 y.2.af y.1,λx=>y.2.af.length-x.2⟩)],[],1,[]⟩
def Qws (y:KI.Y):Prop:=vc (fnO (2*dI y.2)++[Ap]) f70 KI Qn1 y
structure XX where
 s:dJ
 j:List Int
 i:Nat
variable {s:dJ} {l:List ah} {a:List Int} {Z:dJ->dJ}
def XY (y:dJ×List ah) (x:XX):Prop:=x.i<=y.2.length/\Gw y.1 x.s/\x.j.length<=x.i/\gB (y.2.drop x.i) x.s x.j=gB y.2 y.1 []
def Qn2 (y:Ql.Y):dj D:=⟨[],[],[
 (26,⟨XX,[0,1],λx=>[(4,.grow 5 x.j 3),(5,Qyy x.i)],[],λx=>KH 2 x.s++[wi 3],4,XY y,λx=>y.2.length-x.i⟩),
 (30,⟨Nat,[0],λj=>[(4,.grow 5 (kS y).2 3),(7,Qyy j)],[],λj=>KH 2 (oV y j)++[wi 3],4,λj=>j<=(kS y).2.length,λj=>(kS y).2.length-j⟩)],
 [(3,⟨Unit,[0],λ_=>[(4,.grow 5 (kS y).2 3)],[],λ_=>KH 2 (kS y).1++[wi 3],4,λ_=>True,λ_=>0⟩)],1,[]⟩
def Qwt (y:Ql.Y):Prop:=vc (fnO (2*vI y.2+1)++[Ap]) f106 Ql Qn2 y
def crN (y:Nn):Nat×AO D.E:=(2,.cells (D.bm 7 y.n) 149 false)
def crB (y:Nn):List (Nat×AO D.E):=[crN y,wv 3 y.k]
def crI (y:Nn) (x:dJ×Nat):Prop:=x.2<=y.n.mn.toNat/\Gw y.c x.1/\oU (jD y.k) (kz y.k) (y.n.mn.toNat-x.2) x.1=kT y
def crJ (y:Nn) (x:XX):Prop:=x.i<=sy y/\Gw (kT y) x.s/\x.j.length<=x.i/\kA (jD y.k) (sy y-x.i) x.s x.j=i_ y
def Qn4 (y:Qm.Y):dj D:=⟨[],[],[
  (58,⟨dJ×Nat,[0,6],λx=>[(4,.ptr 2 0),(5,.ptr 3 0),(7,Qyy x.2)],[],λx=>KH 4 x.1++crB y,5,crI y,λx=>y.n.mn.toNat-x.2⟩),
  (506,⟨XX,[0],λx=>[(4,.ptr 2 0),(5,.ptr 3 0),(9,.grow 5 x.j 5),(10,Qyy (y.n.mn+(x.i:Nat)))],[],λx=>KH 4 x.s++crB y++[wi 5],6,crJ y,λx=>sy y-x.i⟩),
  (510,⟨Nat,[0],λj=>[(4,.ptr 2 0),(9,.grow 5 (i_ y).2 5),(11,Qyy j)],[],λj=>KH 4 (pz y j)++[crN y,wi 5],6,λj=>j<=(i_ y).2.length,λj=>(i_ y).2.length-j⟩)],
  [(7,⟨Unit,[0],λ_=>[(4,.ptr 2 0),(5,.ptr 3 0)],[],λ_=>KH 4 (kT y)++crB y,5,λ_=>True,λ_=>0⟩),
   (63,⟨Unit,[0],λ_=>[(4,.ptr 2 0),(9,.grow 5 (i_ y).2 5)],[],λ_=>KH 4 (i_ y).1++[crN y,wi 5],6,λ_=>True,λ_=>0⟩)],1,[]⟩
def Qww (y:Qm.Y):Prop:=vc (fnO (2*dI y.k+1)++[Ap,XV,GX]) f107 Qm Qn4 y
abbrev RAD (v:dJ) (p:Prop):Prop:=aa [v.b7] (aa [v.ag] p)
def XZ (y:dJ×ah):Prop:=let k:=ab (eU y).ag;let q1:=ab y.1.ag;let u:=(bM y.1 (a8.mk 6 0 0 [])).1;let v:=(bM y.1 (a8.mk 5 0 0 [])).1;let g:=y.2.op;let c:=y.2.af;let w:=jx .i64 2 y.2.cap;let B:=ay .i64 w 1;let A:=(bM y.1 (a8.mk 1 0 0 y.2.r)).1;let s:=(bM y.1 (a8.mk 4 w 0 [])).1;let F:=ah.mk 0 [] 0 0 false 0 0 [];let a:=gt F c 0;let d:=ah.mk a.op a.r a.mn a.mx a.lz a.cap a.nk a.af;let e:=eU (s,d);let l:=(bM e (a8.mk 4 B 0 [])).1;let h:=Nn.mk y.1 (Nd.mk g y.2.r y.2.mn y.2.mx y.2.lz y.2.cap y.2.nk) d;let t:=λp:Prop=>RAO g (RAA y.2 (RAP y.2.nk c p));let m:Prop:=(q1=k/\y.1.b7=(eU y).b7/\y.1.ag=(eU y).ag/\True);let G:=λz:dJ×Nat=>Gw y.1 z.1/\l0 (List.drop z.2 c) z.1=l0 c y.1;aj y.1.b7 (m) (aj (aE g 2) (Iv (y.1.ag.length<=400)/\aa ([1,0,0]:List Int) (RAP y.2.r q1 (RAD y.1 (ab A.ag=k/\A.b7=(eU y).b7/\A.ag=(eU y).ag/\True)))) (aj (aE g 3) ((∃z:dJ×Nat,0=(z.2:Int)/\t (q1=ab z.1.ag/\y.1.b7=z.1.b7/\y.1.ag=z.1.ag/\(Iv (z.2<=c.length/\G z))))/\(∀x:dJ×Nat,let n:=ab x.1.ag;let i:=(x.2:Int);let j:=c.length;let o:=aD i (ab c);let b:=gt F c i.toNat;let f:=ah.mk b.op b.r b.mn b.mx b.lz b.cap b.nk b.af;let q:Prop:=(n=k/\x.1.b7=(eU y).b7/\x.1.ag=(eU y).ag/\True);(Iv (x.2<=j/\Gw y.1 x.1/\l0 (List.drop x.2 c) x.1=l0 c y.1))->aj o (aj (!x.1.b7) (aM 0 i=true/\o=true/\Iv (DO (x.1,f)/\(2*dI f)<(2*dI y.2))/\RA0 b (RAP b.af n (RAD x.1 (∃z:dJ×Nat,ay .i64 i 1=(z.2:Int)/\t (ab (eU (x.1,f)).ag=ab z.1.ag/\(eU (x.1,f)).b7=z.1.b7/\(eU (x.1,f)).ag=z.1.ag/\(Iv ((z.2<=j/\G z)/\(j-z.2)<(j-x.2)))))))) (q)) (q))) (aj (aE g 4) (Iv (QnZ (y.1,c)/\((2*vI c)+1)<(2*dI y.2))/\RAP c q1 (RAD y.1 (ab (ze (y.1,c)).ag=k/\(ze (y.1,c)).b7=(eU y).b7/\(ze (y.1,c)).ag=(eU y).ag/\True))) (aj (aE g 5) (Tt 1 (aD 0 (ab c)=true/\Iv (Qn0 h/\((2*dI d)+1)<(2*dI y.2))/\RAO g (RAA y.2 (RAO y.2.nk (RA0 a (RAP a.af q1 (RAD y.1 (RAO g (RAA y.2 (RAP y.2.nk c (RA0 a (RAO a.af (ab (qy h).ag=k/\(qy h).b7=(eU y).b7/\(qy h).ag=(eU y).ag/\True))))))))))))) (aj (aE g 6) (Iv (y.1.ag.length<=400)/\aa ([4,w,0]:List Int) (RAH (RAO q1 (RAD y.1 (Tt 1 (aD 0 (ab c)=true/\Iv (DO (s,d)/\(2*dI d)<(2*dI y.2))/\aa [a.op] (aa [a.r] (aa [a.mn,a.mx] (aa [a.lz] (aa [a.cap,a.nk] (aa [a.af] (aa [ab s.ag] (aa [s.b7] (aa [s.ag] (Iv (e.ag.length<=400)/\aa ([4,B,0]:List Int) (aa ([[]]:List (List (Int×Int))) (aa [ab e.ag] (aa [e.b7] (aa [e.ag] (ab l.ag=k/\l.b7=(eU y).b7/\l.ag=(eU y).ag/\True)))))))))))))))))))) (aj (aE g 7) (Iv (y.1.ag.length<=400)/\aa ([5,0,0]:List Int) (RAH (RAO q1 (RAD y.1 (ab v.ag=k/\v.b7=(eU y).b7/\v.ag=(eU y).ag/\True))))) (aj (aE g 8) (Iv (y.1.ag.length<=400)/\aa ([6,0,0]:List Int) (RAH (RAO q1 (RAD y.1 (ab u.ag=k/\u.b7=(eU y).b7/\u.ag=(eU y).ag/\True))))) (m))))))))
def Qb5:∀y,XZ y=Qws y:=λy=>by kernel_rfl
def X0 (y:dJ×(List ah)):Prop:=let C:=ab (ze y).ag;let q1:=(kS y).2;let w:=ab (kS y).1.ag;((∃z:XX,aa [y.2] ([]=z.j/\0=((z.i:Nat):Int)/\ab y.1.ag=ab z.s.ag/\y.1.b7=z.s.b7/\y.1.ag=z.s.ag/\(Iv (XY y z))))/\(∀x:XX,let A:=ab x.s.ag;let o:=((x.i:Nat):Int);let B:=aD o (ab y.2);let D:=aE o (dE .i64 (ab y.2) 1);let h:=bM x.s (a8.mk 2 0 0 []);let v:=h.2.toNat;let a:=gt (ah.mk 0 [] 0 0 false 0 0 []) y.2 o.toNat;let c:=ah.mk a.op a.r a.mn a.mx a.lz a.cap a.nk a.af;let f:=eU (h.1,c);let b:=bM f (a8.mk 3 0 0 []);let d:=ab b.1.ag;let l:=gt (a8.mk 0 0 0 []) b.1.ag v;let p:=dh b.1.ag v (a8.mk l.op (ay .i64 h.2 1) l.y l.bz);let m:=gt (a8.mk 0 0 0 []) p v;let q:Prop:=(∃z:Unit,x.j=q1/\A=w/\x.s.b7=(kS y).1.b7/\x.s.ag=(kS y).1.ag/\(Iv True));(Iv (XY y x))->aj B (aj (!x.s.b7) (aj D (aM 0 o/\B/\Iv (DO (x.s,c)/\(2*dI c)<((2*vI y.2)+1))/\aa [a.op] (aa [a.r] (aa [a.mn,a.mx] (aa [a.lz] (aa [a.cap,a.nk] (aa [a.af] (aa [A] (aa [x.s.b7] (aa [x.s.ag] (∃z:Unit,x.j=q1/\ab (eU (x.s,c)).ag=w/\(eU (x.s,c)).b7=(kS y).1.b7/\(eU (x.s,c)).ag=(kS y).1.ag/\(Iv True))))))))))) (Iv (x.s.ag.length<=400)/\aa ([2,0,0]:List Int) (aa ([[]]:List (List (Int×Int))) (aa [A] (aa [x.s.b7] (aa [x.s.ag] (aM 0 o/\B/\Iv (DO (h.1,c)/\(2*dI c)<((2*vI y.2)+1))/\aa [a.op] (aa [a.r] (aa [a.mn,a.mx] (aa [a.lz] (aa [a.cap,a.nk] (aa [a.af] (aa [ab h.1.ag] (aa [h.1.b7] (aa [h.1.ag] (Iv (f.ag.length<=400)/\aa ([3,0,0]:List Int) (aa ([[]]:List (List (Int×Int))) (aa [ab f.ag] (aa [f.b7] (aa [f.ag] (ba (ab (bn x.j [b.2])) 8/\aj (!b.1.b7) (aM 0 h.2/\aD h.2 d/\aM 0 h.2/\aD h.2 d/\aa [d,d,d] (∃z:XX,aa [y.2] (bn x.j [b.2]=z.j/\ay .i64 o 1=((z.i:Nat):Int)/\d=ab z.s.ag/\b.1.b7=z.s.b7/\dh p v (a8.mk m.op m.x d m.bz)=z.s.ag/\(Iv (XY y z/\(y.2.length-z.i)<(y.2.length-x.i)))))) (∃z:XX,aa [y.2] (bn x.j [b.2]=z.j/\ay .i64 o 1=((z.i:Nat):Int)/\d=ab z.s.ag/\b.1.b7=z.s.b7/\b.1.ag=z.s.ag/\(Iv (XY y z/\(y.2.length-z.i)<(y.2.length-x.i)))))))))))))))))))))))))) (q)) (q)))/\(∀x:Unit,(Iv True)->(∃z:Nat,aa [q1] (0=(z:Int)/\w=ab (oV y z).ag/\(kS y).1.b7=(oV y z).b7/\(kS y).1.ag=(oV y z).ag/\(Iv (z<=q1.length))))/\(∀x1:Nat,let e:=ab (oV y x1).ag;let k:=q1.length;let t:=aD (x1:Int) (ab q1);let g:=gt 0 q1 (x1:Int).toNat;let n:=gt (a8.mk 0 0 0 []) (oV y x1).ag g.toNat;let u:Prop:=(e=C/\(oV y x1).b7=(ze y).b7/\(oV y x1).ag=(ze y).ag/\True);(Iv (x1<=k))->aj t (aj (!(oV y x1).b7) (aM 0 (x1:Int)/\t/\aM 0 g/\aD g e/\aa [e,g,e] (∃z:Nat,aa [q1] (ay .i64 (x1:Int) 1=(z:Int)/\e=ab (oV y z).ag/\(oV y x1).b7=(oV y z).b7/\dh (oV y x1).ag g.toNat (a8.mk n.op e n.y n.bz)=(oV y z).ag/\(Iv (z<=k/\(k-z)<(k-x1)))))) (u)) (u)))
def Qb6:∀y,X0 y=Qwt y:=λy=>by kernel_rfl
def X1 (y:Nn):Prop:=let H:=ab (kT y).ag;let q1:=ab (qy y).ag;let q:=(i_ y).2;let K:=ab (i_ y).1.ag;let g:=bM (kT y) (a8.mk 2 0 0 []);let b:=ah.mk y.k.op y.k.r y.k.mn y.k.mx y.k.lz y.k.cap y.k.nk y.k.af;let F:=eU (g.1,b);let l:=(bM F (a8.mk 3 g.2 0 [])).1;let G:=ab l.ag;let L:=fT G y.n.lz l.ag g.2;let t:=λp:Prop=>RA5 y.n p;let h:=λp:Prop=>RA0 y.k (RAO y.k.af (RA5 y.n p));Iv (HG b)/\RA0 y.k (RAO y.k.af (((∃z:dJ×Nat,aa [kz b] (0=(z.2:Int)/\h (ab y.c.ag=ab z.1.ag/\y.c.b7=z.1.b7/\y.c.ag=z.1.ag/\(Iv (crI y z)))))/\(∀x:dJ×Nat,let u:=ab x.1.ag;let I:=aD (x.2:Int) y.n.mn;let o:Prop:=(∃z:Unit,h (u=H/\x.1.b7=(kT y).b7/\x.1.ag=(kT y).ag/\(Iv True)));(Iv (crI y x))->aj I (aj (!x.1.b7) (aj (!(kz b)) (Iv (DO (x.1,b)/\(2*dI b)<((2*dI y.k)+1))/\aa [y.k.op] (aa [y.k.r] (aa [y.k.mn,y.k.mx] (aa [y.k.lz] (aa [y.k.cap,y.k.nk] (aa [y.k.af] (aa [u] (aa [x.1.b7] (aa [x.1.ag] (∃z:dJ×Nat,aa [kz b] (ay .i64 (x.2:Int) 1=(z.2:Int)/\h (ab (eU (x.1,b)).ag=ab z.1.ag/\(eU (x.1,b)).b7=z.1.b7/\(eU (x.1,b)).ag=z.1.ag/\(Iv (crI y z/\(y.n.mn.toNat-z.2)<(y.n.mn.toNat-x.2))))))))))))))) (o)) (o)) (o)))/\(∀x:Unit,(Iv True)->aj (aE y.n.mx (-1)) (Iv ((kT y).ag.length<=400)/\aa ([2,0,0]:List Int) (aa ([[]]:List (List (Int×Int))) (aa [H] (aa [(kT y).b7] (aa [(kT y).ag] (Iv (DO (g.1,b)/\(2*dI b)<((2*dI y.k)+1))/\aa [y.k.op] (aa [y.k.r] (aa [y.k.mn,y.k.mx] (aa [y.k.lz] (aa [y.k.cap,y.k.nk] (aa [y.k.af] (aa [ab g.1.ag] (aa [g.1.b7] (aa [g.1.ag] (Iv (F.ag.length<=400)/\aa ([3,g.2,0]:List Int) (aa ([[]]:List (List (Int×Int))) (aa [ab F.ag] (aa [F.b7] (aa [F.ag] (aj (!l.b7) (Iv (l.ag.length<=1000/\0<=g.2/\g.2<(l.ag.length:Int))/\aa [g.2,G] (aa [y.n.lz] (aa [G] (aa [l.b7] (aa [l.ag] (aa [G] (aa [y.n.lz] (ab L=q1/\l.b7=(qy y).b7/\L=(qy y).ag/\True)))))))) (G=q1/\l.b7=(qy y).b7/\l.ag=(qy y).ag/\True))))))))))))))))))))) (((∃z:XX,[]=z.j/\y.n.mn=(y.n.mn+((z.i:Nat):Int))/\h (H=ab z.s.ag/\(kT y).b7=z.s.b7/\(kT y).ag=z.s.ag/\(Iv (crJ y z))))/\(∀x1:XX,let v:=ab x1.s.ag;let J:=aD (y.n.mn+((x1.i:Nat):Int)) y.n.mx;let a:=bM x1.s (a8.mk 2 0 0 []);let w:=bn x1.j [a.2];let A:Prop:=(∃z:Unit,x1.j=q/\t (v=K/\x1.s.b7=(i_ y).1.b7/\x1.s.ag=(i_ y).1.ag/\(Iv True)));(Iv (crJ y x1))->aj J (aj (!x1.s.b7) (Iv (x1.s.ag.length<=400)/\aa ([2,0,0]:List Int) (aa ([[]]:List (List (Int×Int))) (aa [v] (aa [x1.s.b7] (aa [x1.s.ag] (ba (ab w) 8/\Iv (DO (a.1,b)/\(2*dI b)<((2*dI y.k)+1))/\aa [y.k.op] (aa [y.k.r] (aa [y.k.mn,y.k.mx] (aa [y.k.lz] (aa [y.k.cap,y.k.nk] (aa [y.k.af] (aa [ab a.1.ag] (aa [a.1.b7] (aa [a.1.ag] (∃z:XX,w=z.j/\ay .i64 (y.n.mn+((x1.i:Nat):Int)) 1=(y.n.mn+((z.i:Nat):Int))/\h (ab (eU (a.1,b)).ag=ab z.s.ag/\(eU (a.1,b)).b7=z.s.b7/\(eU (a.1,b)).ag=z.s.ag/\(Iv (crJ y z/\(sy y-z.i)<(sy y-x1.i))))))))))))))))))) (A)) (A)))/\(∀x1:Unit,(Iv True)->(∃z:Nat,aa [q] (0=(z:Int)/\t (K=ab (pz y z).ag/\(i_ y).1.b7=(pz y z).b7/\(i_ y).1.ag=(pz y z).ag/\(Iv (z<=q.length)))))/\(∀d:Nat,let e:=ab (pz y d).ag;let B:=(pz y d).ag.length;let m:=q.length;let C:=aD (d:Int) (ab q);let f:=gt 0 q (d:Int).toNat;let D:=fT e y.n.lz (pz y d).ag f;let E:Prop:=(e=q1/\(pz y d).b7=(qy y).b7/\(pz y d).ag=(qy y).ag/\True);(Iv (d<=m))->aj C (aj (!(pz y d).b7) (aM 0 (d:Int)/\C/\Iv (B<=1000/\0<=f/\f<(B:Int))/\aa [f,e] (aa [y.n.lz] (aa [e] (aa [(pz y d).b7] (aa [(pz y d).ag] (aa [f,e] (aa [y.n.lz] (∃z:Nat,aa [q] (ay .i64 (d:Int) 1=(z:Int)/\t (ab D=ab (pz y z).ag/\(pz y d).b7=(pz y z).b7/\D=(pz y z).ag/\(Iv (z<=m/\(m-z)<(m-d))))))))))))) (E)) (E)))))))
def Qb7:∀y,X1 y=Qww y:=λy=>by kernel_rfl
theorem Qb8 (h:s.b7):l0 l s=s:=by
 cases l with
 | nil=>rw[l0]
 | cons t l=>rw[l0,Zac h]
theorem co3 {b:dJ} (h:s=b):(s.ag.length:Int)=(b.ag.length:Int)/\s.b7=b.b7/\s.ag=b.ag:=by grind
theorem No (h:0<l.length) (s:dJ):Q0 l s=jD (l.getD 0 bI) s:=by
 cases l with
 | nil=>cases h
 | cons t l=>rw[Q0];rfl
theorem Qwx (y:dJ×ah) (I:KI.pre y):XZ y:=by
 have⟨s,t⟩:=y;obtain⟨h1,c⟩:s.ag.length<=400/\HG t:=I;have hk:=c.1.few;have wf:=(jq t).mp c.2;have C:∀s t,eU (s,t)=jD t s:=λs t=>by grind [eU,az]
 have A:ze (s,t.af)=ei (lQ (gB t.af s []).1.ag.length) (gB t.af s []).1 (gB t.af s []).2:=by
  grind [ze,oV,az,kS]
 have B:∀n k,qy ⟨s,n,k⟩=zc (jD k) (kz k) n.mn n.mx n.lz s:=λn k=>by grind [qy,az]
 have E:=tS t s;unfold XZ;have G:∀(l:List ah) n,gt (ah.mk 0 [] 0 0 false 0 0 []) l n=l.getD n bI:=λ_ _=>rfl
 simp only[bN,bj,aw,G,bX,Zad,C,Zan,Zao];have Wo:∀x,x<t.af.length->2*dI (t.af.getD x bI)<2*dI t:=λx h=>by have:=jo h;omega
 refine⟨λb=>by grind,λb=>?_⟩;rw[Zaa (by grind)] at E;refine⟨λo=>⟨h1,by grind⟩,λo=>?_⟩;rw[Zaa o] at E;refine⟨λr=>?_,λr=>?_⟩
 ·refine⟨⟨(s,0),rfl,rfl,rfl,rfl,Zaj _,Gw.refl s,rfl⟩,λx h=>?_⟩;have⟨u,i⟩:=x;have⟨i1,i2,i3⟩:=h;have b7:u.b7->(u.ag.length:Int)=((jD t s).ag.length:Int)/\u.b7=(jD t s).b7/\u.ag=(jD t s).ag:=λJ=>by
   grind [Qb8]
  refine⟨λe=>⟨λv=>?_,λv=>b7 v⟩,λe=>?_⟩
  ·have f:i<t.af.length:=ω;have D:t.af.drop i=t.af.getD i bI::t.af.drop (i+1):=by simp_all
   rw[D,l0,Zaa (by grind)] at i3;exact⟨ω,e,⟨⟨i2.max h1,c.Wo f⟩,Wo i f⟩,(jD (t.af.getD i bI) u,i+1),bR ω,rfl,rfl,rfl,⟨f,i2.trans (mE _ _),i3⟩,show t.af.length-(i+1)<t.af.length-i by omega⟩
  ·grind [l0]
 ·rw[Zaa r] at E;refine⟨λj=>?_,λj=>?_⟩
  ·rw[Zac j] at E;rw[A,<-E];refine⟨⟨⟨h1,b,hk,λk g=>?_⟩,by grind [yP]⟩,rfl,rfl,rfl⟩;obtain⟨i,hi,rfl⟩:=Za3 g;have:=c.Wo hi;grind
  ·rw[Zaa j] at E;refine⟨λd=>?_,λd=>?_⟩
   ·rw[Zac d] at E;have⟨w,p,q,w4⟩:=wf.1.rep d;have a:0<t.af.length:=by grind
    have H:kz (t.af.getD 0 bI)=DL t.af:=by grind [kz,az,Ni]
    have F:(λs=>Q0 t.af s)=jD (t.af.getD 0 bI):=funext λs=>No a s
    rw[F] at E;rw[B,H,<-E];exact⟨ω,⟨⟨h1,b,c.Wo a,p,q,w4⟩,by grind⟩,rfl,rfl,rfl⟩
   ·rw[Zaa d] at E;refine⟨λm=>?_,λm=>?_⟩
    ·rw[Zac m] at E;have⟨w,p,q⟩:=wf.1.vZ m;simp only at w p q;have a:0<t.af.length:=ω;rw[No a] at E;have e8:jx .i64 2 t.cap=2*t.cap:=CX ω ω;have z:ay .i64 (2*t.cap) 1=2*t.cap+1:=bA ω ω;rw[e8,z,<-E];have p1:=(fu s ⟨4,2*t.cap,0,[]⟩).1;exact⟨h1,ω,⟨⟨p1.max h1,c.Wo a⟩,Wo 0 a⟩,(mE _ _).max (p1.max h1),rfl,rfl,rfl⟩
    ·grind
theorem zf {g:List a8->Int->List a8} {k:Nat} (hk:k<a.length) (b:(ei g s (a.take k)).b7=false) (c:∀l j,(g l j).length=l.length):g (ei g s (a.take k)).ag (a.getD k 0)=(ei g s (a.take (k+1))).ag/\s.b7=false/\(ei g s (a.take (k+1))).b7=false:=by
 grind [ei,cy]
theorem Qwy (y:dJ×List ah) (I:Ql.pre y):X0 y:=by
 have⟨s,l⟩:=y;obtain⟨h1,L,M,D⟩:s.ag.length<=400/\s.b7=false/\l.length<=1000000/\∀t∈l,HG t:=I;have w:∀s t,eU (s,t)=jD t s:=λs t=>by grind [eU,az]
 have A:kS (s,l)=gB l s []:=by grind [kS,az]
 have z:∀j,oV (s,l) j=ei (lQ (kS (s,l)).1.ag.length) (kS (s,l)).1 ((kS (s,l)).2.take j):=λj=>by grind [oV,az]
 have B:ze (s,l)=oV (s,l) (kS (s,l)).2.length:=by grind [ze,az]
 have⟨K,a2,a3⟩:=zd l s [] (λ_ v c=>nomatch c);simp only[Zak,Za6] at a3;unfold X0;have H:∀(l:List ah) n,gt (ah.mk 0 [] 0 0 false 0 0 []) l n=l.getD n bI:=λ_ _=>rfl
 have g:∀(l:List Int) n,gt 0 l n=l.getD n 0:=λ_ _=>rfl
 simp only[bN,bj,aw,a_,bq,H,g,bX,Zad,w,B,z,A,Zan,Zao,ZaY,ZaZ];have hw:∀x,x<l.length->HG (l.getD x bI):=λx d=>D _ (by grind)
 have dF:∀x,x<l.length->2*dI (l.getD x bI)<2*vI l+1:=λx d=>by have:=Dh d;omega
 refine⟨⟨⟨⟨s,[],0⟩,rfl,rfl,rfl,rfl,rfl,Zaj _,Gw.refl s,Zah _,rfl⟩,λx d=>?_⟩,⟨0,rfl,?_,?_,?_,Zaj _⟩,λj N=>?_⟩
 ·have⟨u,j,i⟩:=x;have⟨i1,i2,i3,i4⟩:=d;simp only at i1 i2 i3 i4 ⊢;have b7:u.b7->j=(gB l s []).2/\(u.ag.length:Int)=((gB l s []).1.ag.length:Int)/\u.b7=(gB l s []).1.b7/\u.ag=(gB l s []).1.ag:=λE=>by
   have:gB (l.drop i) u j=(u,j):=by
    cases l.drop i with
    | nil=>rw[gB]
    | cons t m=>rw[gB,Zac E]
   grind
  refine⟨λe=>⟨λr=>?_,λr=>b7 r⟩,λe=>?_⟩
  ·have a:i<l.length:=ω;have G:l.drop i=l.getD i bI::l.drop (i+1):=by simp_all
   rw[G,gB,Zaa (by grind)] at i4;have k:=i2.max h1;refine⟨λel=>?_,λel=>?_⟩
   ·rw[Br ω ω] at el;rw[Zac (by grind)] at i4;rw[<-i4];exact⟨ω,e,⟨⟨k,hw i a⟩,dF i a⟩,rfl,rfl,rfl,rfl⟩
   ·have ne:¬(l.drop (i+1)).isEmpty:=by
     grind [List.drop_eq_nil_iff]
    rw[Zaa ne] at i4;have⟨p1,p2⟩:=fu u ⟨2,0,0,[]⟩;have p:=mE (l.getD i bI) (bM u ⟨2,0,0,[]⟩).1;have⟨q1,O⟩:=fu (jD (l.getD i bI) (bM u ⟨2,0,0,[]⟩).1) ⟨3,0,0,[]⟩;have m1:=p1.max k;have m2:=p.max m1;have b:=(Nl (mE (l.getD i bI)) u).1;unfold wx at i4 b;refine⟨k,ω,e,⟨⟨m1,hw i a⟩,dF i a⟩,m2,by grind,λq=>?_,λq=>?_⟩
    ·have⟨P,J,Q⟩:=p2 (p.low (q1.low q));have hl:(u.ag.length:Int)<((bM (jD (l.getD i bI) (bM u ⟨2,0,0,[]⟩).1) ⟨3,0,0,[]⟩).1.ag.length:Int):=by
      have:=p.len;grind
     have f:lZ (bM (jD (l.getD i bI) (bM u ⟨2,0,0,[]⟩).1) ⟨3,0,0,[]⟩).1 false (bM u ⟨2,0,0,[]⟩).2=⟨fT (bM (jD (l.getD i bI) (bM u ⟨2,0,0,[]⟩).1) ⟨3,0,0,[]⟩).1.ag.length false (bM (jD (l.getD i bI) (bM u ⟨2,0,0,[]⟩).1) ⟨3,0,0,[]⟩).1.ag (bM u ⟨2,0,0,[]⟩).2,false⟩:=by grind [lZ]
     rw[f] at i4 b;rw[J] at i4 b ⊢;generalize (bM (jD (l.getD i bI) (bM u ⟨2,0,0,[]⟩).1) ⟨3,0,0,[]⟩)=Z at*
     have hi:u.ag.length<Z.1.ag.length:=ω;have C:ay .i64 (u.ag.length:Int) 1=(u.ag.length:Int)+1:=bA ω ω;simp only[Zad,C];refine⟨ω,hl,ω,hl,⟨⟨fT Z.1.ag.length false Z.1.ag u.ag.length,false⟩,j++[Z.2],i+1⟩,rfl,bR ω,by rw[eH],q,?_,⟨a,i2.trans b,by grind,i4⟩,show l.length-(i+1)<l.length-i by omega⟩;rw[Dr hi,uR];rfl
    ·have f:lZ (bM (jD (l.getD i bI) (bM u ⟨2,0,0,[]⟩).1) ⟨3,0,0,[]⟩).1 false (bM u ⟨2,0,0,[]⟩).2=(bM (jD (l.getD i bI) (bM u ⟨2,0,0,[]⟩).1) ⟨3,0,0,[]⟩).1:=by grind [lZ]
     rw[f] at i4 b;exact⟨⟨_,_,i+1⟩,rfl,bR ω,rfl,rfl,rfl,⟨a,i2.trans b,by grind,i4⟩,show l.length-(i+1)<l.length-i by omega⟩
  ·grind [gB]
 ·grind [gj,js]
 ·grind [gj,js]
 ·grind [ei]
 ·generalize gB l s []=R at*
  have F:=gj (lQ (R.1.ag.length:Nat)) (λl j=>js _ _ _) R.1;have done:¬j<R.2.length\/(ei (lQ (R.1.ag.length:Nat)) R.1 (R.2.take j)).b7->ei (lQ (R.1.ag.length:Nat)) R.1 (R.2.take j)=ei (lQ (R.1.ag.length:Nat)) R.1 (R.2.take R.2.length):=λh=>by
   grind [ei]
  refine⟨λe=>⟨λo=>?_,λo=>co3 (done (.inr o))⟩,λe=>co3 (done (.inl ω))⟩;have a:j<R.2.length:=ω;have⟨g1,g2,g3⟩:=zf a o (λl j=>js _ _ _);have c:=a2 g2 (R.2.getD j 0) (by grind);rw[(F _).2.1];exact⟨ω,e,c.1,c.2,j+1,bR ω,by grind,by grind,g1,ω,ω⟩
theorem BX {q:Bool} (h:s.b7\/q):∀n,oU Z q n s=s
 | 0=>rfl
 | n+1=>by grind [oU]
theorem Qn (h:s.b7):∀n,kA Z n s a=(s,a)
 | 0=>rfl
 | n+1=>by grind [kA]
theorem Qwz (y:Nn) (K:Qm.pre y):X1 y:=by
 have⟨c,x,k⟩:=y;obtain⟨h1,P,g,Q,S,T⟩:c.ag.length<=400/\c.b7=false/\HG k/\0<=x.mn/\x.mn<=30/\(x.mx= -1\/(x.mn<=x.mx/\x.mx<=30)):=K;have H:∀s,eU (s,k)=jD k s:=λs=>by grind [eU,az]
 have r:kT ⟨c,x,k⟩=oU (jD k) (kz k) x.mn.toNat c:=by grind [kT,az]
 have N:sy ⟨c,x,k⟩=lP x.mn x.mx:=by grind [sy,az]
 have t:i_ ⟨c,x,k⟩=kA (jD k) (sy ⟨c,x,k⟩) (kT ⟨c,x,k⟩) []:=by grind [i_,az]
 have I:∀j,pz ⟨c,x,k⟩ j=ei (fT (i_ ⟨c,x,k⟩).1.ag.length x.lz) (i_ ⟨c,x,k⟩).1 ((i_ ⟨c,x,k⟩).2.take j):=λj=>by unfold pz;rw[az]
 have O:qy ⟨c,x,k⟩=zc (jD k) (kz k) x.mn x.mx x.lz c:=by grind [qy,az]
 have w:=w7 (kz k) (mE k) x.mn.toNat c;have⟨o1,C,L⟩:=uW (mE k) (sy ⟨c,x,k⟩) (kT ⟨c,x,k⟩) [] (λ_ v B=>nomatch B);rw[<-r] at w;rw[<-t] at o1 C L;have m:=w.max h1;unfold X1;have o:∀(l:List Int) n,gt 0 l n=l.getD n 0:=λ_ _=>rfl
 simp only[bN,bj,aw,a_,bq,o,bX,Zad,H,I,Zan,Zao,ZaY,ZaZ];have dF:2*dI k<2*dI k+1:=ω;refine⟨g,⟨⟨(c,0),rfl,rfl,rfl,rfl,Zaj _,Gw.refl c,r.symm⟩,λz hz=>?_⟩,λem=>?_,λem=>?_⟩
 ·have⟨u,i⟩:=z;have⟨i1,i2,i3⟩:=hz;have stop:u.b7\/kz k->(u.ag.length:Int)=((kT ⟨c,x,k⟩).ag.length:Int)/\u.b7=(kT ⟨c,x,k⟩).b7/\u.ag=(kT ⟨c,x,k⟩).ag:=λh=>by
   grind [BX]
  refine⟨λe=>⟨λf=>⟨λq=>?_,λq=>stop (.inr q)⟩,λf=>stop (.inl f)⟩,λe=>?_⟩
  ·rw[show x.mn.toNat-i=(x.mn.toNat-(i+1))+1 by omega,oU,Zaa (by grind)] at i3;exact⟨⟨⟨i2.max h1,g⟩,dF⟩,(jD k u,i+1),bR ω,rfl,rfl,rfl,⟨show i+1<=x.mn.toNat by omega,i2.trans (mE _ _),i3⟩,show x.mn.toNat-(i+1)<x.mn.toNat-i by omega⟩
  ·rw[show x.mn.toNat-i=0 by omega,oU] at i3;exact co3 i3
 ·have E:qy ⟨c,x,k⟩=BW (jD k) x.lz (kT ⟨c,x,k⟩):=by grind [zc]
  unfold BW at E;generalize kT ⟨c,x,k⟩=A at*
  have⟨p1,p2⟩:=fu A ⟨2,0,0,[]⟩;have d:=mE k (bM A ⟨2,0,0,[]⟩).1;have⟨q1,X⟩:=fu (jD k (bM A ⟨2,0,0,[]⟩).1) ⟨3,(bM A ⟨2,0,0,[]⟩).2,0,[]⟩;have m1:=p1.max m;have m2:=d.max m1;refine⟨m,⟨⟨m1,g⟩,dF⟩,m2,λD=>?_,λD=>?_⟩
  ·have⟨Y,Z,r3⟩:=p2 (d.low (q1.low D));have:=d.len;grind [lZ]
  ·grind [lZ]
 ·have E:qy ⟨c,x,k⟩=ei (fT (i_ ⟨c,x,k⟩).1.ag.length x.lz) (i_ ⟨c,x,k⟩).1 (i_ ⟨c,x,k⟩).2:=by grind [zc]
  have U:sy ⟨c,x,k⟩<=30/\x.mn+(sy ⟨c,x,k⟩:Nat)=x.mx:=by grind [lP]
  have J:∀z,crJ ⟨c,x,k⟩ z↔(z.i<=sy ⟨c,x,k⟩/\Gw (kT ⟨c,x,k⟩) z.s/\z.j.length<=z.i/\kA (jD k) (sy ⟨c,x,k⟩ -z.i) z.s z.j=i_ ⟨c,x,k⟩):=λz=>ZbW
  simp only[J];rw[E];generalize sy ⟨c,x,k⟩=M at*
  generalize kT ⟨c,x,k⟩=A at*
  refine⟨⟨⟨⟨A,[],0⟩,rfl,by simp,rfl,rfl,rfl,Zaj _,Gw.refl A,Zah _,t.symm⟩,λz hz=>?_⟩,⟨0,rfl,?_,?_,?_,Zaj _⟩,λj V=>?_⟩
  ·have⟨u,j,i⟩:=z;have⟨i1,i2,i3,i4⟩:=hz;simp only at i1 i2 i3 i4 ⊢;have stop:∀n,kA (jD k) n u j=(u,j)->kA (jD k) n u j=i_ ⟨c,x,k⟩->j=(i_ ⟨c,x,k⟩).2/\(u.ag.length:Int)=((i_ ⟨c,x,k⟩).1.ag.length:Int)/\u.b7=(i_ ⟨c,x,k⟩).1.b7/\u.ag=(i_ ⟨c,x,k⟩).1.ag:=λn a b=>by
    grind
   refine⟨λe=>⟨λf=>?_,λf=>stop _ (Qn f _) i4⟩,λe=>?_⟩
   ·rw[show M-i=(M-(i+1))+1 by omega,kA,Zaa (by grind)] at i4;have p1:=(fu u ⟨2,0,0,[]⟩).1;have d:=mE k (bM u ⟨2,0,0,[]⟩).1;have mu:=i2.max m;refine⟨mu,by grind,⟨⟨p1.max mu,g⟩,dF⟩,⟨jD k (bM u ⟨2,0,0,[]⟩).1,j++[(bM u ⟨2,0,0,[]⟩).2],i+1⟩,rfl,?_,rfl,rfl,rfl,⟨show i+1<=M by omega,(i2.trans p1).trans d,by grind,i4⟩,show M-(i+1)<M-i by omega⟩;grind
   ·rw[show M-i=0 by omega] at i4;exact stop 0 rfl i4
  ·grind [gj,eH]
  ·grind [gj,eH]
  ·grind [ei]
  ·have W:=o1.max m;generalize i_ ⟨c,x,k⟩=R at*
   have F:=gj (fT (R.1.ag.length:Nat) x.lz) (λl j=>eH _ _ _ _) R.1;have done:¬j<R.2.length\/(ei (fT (R.1.ag.length:Nat) x.lz) R.1 (R.2.take j)).b7->ei (fT (R.1.ag.length:Nat) x.lz) R.1 (R.2.take j)=ei (fT (R.1.ag.length:Nat) x.lz) R.1 R.2:=λh=>by
    grind [ei]
   refine⟨λe=>⟨λp=>?_,λp=>co3 (done (.inr p))⟩,λe=>co3 (done (.inl ω))⟩;have G:j<R.2.length:=ω;have⟨g1,g2,g3⟩:=zf G p (λl j=>eH _ _ _ _);have B:=C g2 (R.2.getD j 0) (by grind);grind [bR]
inductive Fo where
 | n | a | r
noncomputable section
def foC:Fo->bp D
 | .n=>KI | .a=>Ql | .r=>Qm
def QwA:∀i,(foC i).Y->Nat
 | .n=>λy=>2*dI y.2 | .a=>λy=>2*vI y.2+1 | .r=>λy=>2*dI y.k+1
def foF:Fo->Func
 | .n=>f70 | .a=>f106 | .r=>f107
def Qn6:Fo->vU
 | .n=>[Ap] | .a=>[Ap] | .r=>[Ap,XV,GX]
def foO:∀i,(foC i).Y->dj D
 | .n=>Qn1 | .a=>Qn2 | .r=>Qn4
def QwB:∀i,Ok (foC i):=
 yb [.n,.a,.r] foC QwA (fn:=foF) (tab:=Qn6) (jE:=foO)
  (λi=>match i with
   | .n=>Nj | .a=>Nj | .r=>⟨Nj,QnX,QnW⟩)
  (λi=>match i with
   | .n=>by kernel_rfl | .a=>by kernel_rfl | .r=>by kernel_rfl)
  (λi=>match i with
   | .n=>by kernel_rfl | .a=>by kernel_rfl | .r=>by kernel_rfl)
  λi=>match i with
   | .n=>λy b=>Eq.mp (Qb5 y) (Qwx y b) | .a=>λy b=>Eq.mp (Qb6 y) (Qwy y b) | .r=>λy b=>Eq.mp (Qb7 y) (Qwz y b)
end
structure Fit (f:dJ->dJ) (g:Nat->List a8) (sz:Nat):Prop where
 gw:∀s,Gw s (f s)
 len:∀b,(g b).length=sz
 ok:∀c:List a8,c.length+sz<=400->f ⟨c,false⟩=⟨c++g c.length,false⟩
 no:∀c:List a8,c.length<=400->400<c.length+sz->(f ⟨c,false⟩).b7=true
variable {Z:dJ->dJ} {g:Nat->List a8} {a:Nat} {l:List ah}
def Fit.b7 (h:Fit Z g a) {s:dJ} (hs:s.b7):(Z s).b7:=(h.gw s).b7 hs
theorem mF (i:a8):Fit (λs=>(bM s i).1) (λ_=>[i]) 1:=by
 refine⟨λs=>(fu s i).1,λ_=>rfl,λc h=>?_,λc h a=>?_⟩
 all_goals grind [bM]
def Fit.then {d:dJ->dJ} {e:Nat->List a8} {b:Nat} (h:Fit Z g a) (k:Fit d e b):Fit (λs=>d (Z s)) (λn=>g n++e (n+a)) (a+b):=by
 refine⟨λs=>(h.gw s).trans (k.gw _),λn=>by rw[Zab,h.len,k.len],λc i=>?_,λc h1 j=>?_⟩
 ·rw[h.ok c ω,k.ok _ (by rw[Zab,h.len];omega),Zab,h.len,ZaD]
 ·by_cases i:c.length+a<=400
  ·rw[h.ok c i];exact k.no _ (by rw[Zab,h.len];omega) (by rw[Zab,h.len];omega)
  ·exact k.b7 (h.no c h1 ω)
theorem l3 (s:dJ) (i:a8) (c:List a8) (h:s=⟨c,false⟩):(c.length<400->bM s i=(⟨c++[i],false⟩,(c.length:Int)))/\(400<=c.length->bM s i=(⟨c,true⟩,0)):=by
 grind [bM]
theorem zh (h:Fit Z g a) (lz:Bool) (J:Int->a8) (c:List a8) (e:c.length<=400):
  (c.length+(a+2)<=400->(bM (Z (bM ⟨c,false⟩ ⟨2,0,0,[]⟩).1) (J (bM ⟨c,false⟩ ⟨2,0,0,[]⟩).2))=(⟨c++⟨2,0,0,[]⟩::(g (c.length+1)++[J c.length]),false⟩,((c.length+1+a:Nat):Int))/\
   lZ (bM (Z (bM ⟨c,false⟩ ⟨2,0,0,[]⟩).1) (J (bM ⟨c,false⟩ ⟨2,0,0,[]⟩).2)).1 lz (bM ⟨c,false⟩ ⟨2,0,0,[]⟩).2=⟨c++iD lz c.length (c.length+a+2)::(g (c.length+1)++[J c.length]),false⟩)/\
  (400<c.length+(a+2)->(bM (Z (bM ⟨c,false⟩ ⟨2,0,0,[]⟩).1) (J (bM ⟨c,false⟩ ⟨2,0,0,[]⟩).2)).1.b7/\(lZ (bM (Z (bM ⟨c,false⟩ ⟨2,0,0,[]⟩).1) (J (bM ⟨c,false⟩ ⟨2,0,0,[]⟩).2)).1 lz (bM ⟨c,false⟩ ⟨2,0,0,[]⟩).2).b7):=by
 constructor
 ·intro b;have d:=(l3 ⟨c,false⟩ ⟨2,0,0,[]⟩ c rfl).1 ω;have sz:(c++[(⟨2,0,0,[]⟩:a8)]).length=c.length+1:=by simp
  have e2:=h.ok (c++[⟨2,0,0,[]⟩]) ω;have i:(c++[(⟨2,0,0,[]⟩:a8)]++g (c.length+1)).length=c.length+1+a:=by rw[Zab,h.len,sz]
  grind [l3,lZ,tL,iD]
 ·intro b;have b7:(bM (Z (bM ⟨c,false⟩ ⟨2,0,0,[]⟩).1) (J (bM ⟨c,false⟩ ⟨2,0,0,[]⟩).2)).1.b7:=by
   by_cases h0:c.length<400
   ·rw[(l3 ⟨c,false⟩ ⟨2,0,0,[]⟩ c rfl).1 h0];have sz:(c++[(⟨2,0,0,[]⟩:a8)]).length=c.length+1:=by simp
    by_cases h1:c.length+1+a<=400
    ·simp only[h.ok (c++[⟨2,0,0,[]⟩]) ω];rw[(l3 _ _ _ rfl).2 (by rw[Zab,h.len,sz];omega)]
    ·exact(fu _ _).1.b7 (h.no _ ω ω)
   ·rw[(l3 ⟨c,false⟩ ⟨2,0,0,[]⟩ c rfl).2 ω];exact(fu _ _).1.b7 ((h.gw _).b7 rfl)
  grind [DM]
def X2 (h:Fit Z g a) (lz:Bool):Fit (BW Z lz) (λb=>iD lz b (b+a+2)::(g (b+1)++[⟨3,(b:Nat),0,[]⟩])) (a+2):=by
 refine⟨λs=>Nk h.gw lz s,λb=>by simp[h.len],λc d=>?_,λc h1 sz=>?_⟩
 ·exact((zh h lz (λj=>⟨3,j,0,[]⟩) c ω).1 d).2
 ·exact((zh h lz (λj=>⟨3,j,0,[]⟩) c h1).2 sz).2
theorem Np (h:Fit Z g a) {q:Bool} (i:q=decide (a=0)):∀n,Fit (oU Z q n) (iK g a n) (n*a)
 | 0=>⟨λs=>Gw.refl s,λb=>by simp[iK],λc sz=>by simp[oU,iK],λc h1 e=>ω⟩
 | n+1=>by
  have d:=Np h i n;refine⟨λs=>w7 q h.gw _ s,λb=>qq h.len _ b,λc sz=>?_,λc h1 e=>?_⟩
  ·rw[ZaV] at sz;by_cases h0:a=0
   ·rw[BX (.inr (by grind)),show iK g a (n+1) c.length=[] from Zap (by rw[qq h.len,h0];simp),Zaw]
   ·rw[oU,Zaa (by grind),h.ok c ω,d.ok _ (by rw[Zab,h.len];omega),iK,Zab,h.len,ZaD]
  ·rw[ZaV] at e;rw[oU,Zaa (by grind)];by_cases sz:c.length+a<=400
   ·rw[h.ok c sz];exact d.no _ (by rw[Zab,h.len];omega) (by rw[Zab,h.len];omega)
   ·exact d.b7 (h.no c h1 ω)
theorem DP (h:Fit Z g a):∀(n:Nat) (c:List a8) (j:List Int),c.length<=400->
  (c.length+n*(a+1)<=400->kA Z n ⟨c,false⟩ j=(⟨c++fN (λ_=>⟨2,0,0,[]⟩) g a n c.length,false⟩,j++ko a n c.length))/\(400<c.length+n*(a+1)->(kA Z n ⟨c,false⟩ j).1.b7)
 | 0,c,j,b=>⟨λ_=>by simp[kA,fN,ko],λi=>ω⟩
 | n+1,c,j,b=>by
  have sz:(c++[(⟨2,0,0,[]⟩:a8)]).length=c.length+1:=by simp
  rw[kA,Zaa (by simp),ZaV];by_cases h0:c.length<400
  ·rw[(l3 ⟨c,false⟩ ⟨2,0,0,[]⟩ c rfl).1 h0];by_cases h1:c.length+1+a<=400
   ·rw[h.ok _ ω,sz];have k:(c++[(⟨2,0,0,[]⟩:a8)]++g (c.length+1)).length=c.length+1+a:=by rw[Zab,h.len,sz]
    have⟨i1,i2⟩:=DP h n (c++[⟨2,0,0,[]⟩]++g (c.length+1)) (j++[(c.length:Int)]) ω;grind [fN,ko]
   ·refine⟨λd=>ω,λ_=>(uW h.gw n _ _ ?_).1.b7 (h.no _ ω ω)⟩;intro e;rw[h.no _ ω ω] at e;cases e
  ·rw[(l3 ⟨c,false⟩ ⟨2,0,0,[]⟩ c rfl).2 ω];refine⟨λd=>ω,λ_=>(uW h.gw n _ _ ?_).1.b7 ((h.gw _).b7 rfl)⟩;intro e;rw[(h.gw ⟨c,true⟩).b7 rfl] at e;cases e
def X3 (h:Fit Z g a) {q:Bool} (m:q=decide (a=0)) (mn mx:Int) (lz:Bool):
  Fit (zc Z q mn mx lz) (JY g a mn mx lz) (mn.toNat*a+(if mx= -1 then a+2 else lP mn mx*(a+1))):=by
 have d:=Np h m mn.toNat;unfold zc JY;by_cases sz:mx= -1
 ·simp only[sz,Zbv];exact d.then (X2 h lz)
 ·simp only[sz,Za0];generalize lP mn mx=n;have hO:Fit (λs=>ei (fT (kA Z n s []).1.ag.length lz) (kA Z n s []).1 (kA Z n s []).2) (λb=>fN (λi=>iD lz i (b+n*(a+1))) g a n b) (n*(a+1)):=by
   refine⟨λs=>?_,λb=>qt h.len _ b,λc k=>?_,λc h1 e=>?_⟩
   ·exact(uW h.gw n s [] (λ_ v o=>nomatch o)).1.trans (gj _ (λl j=>eH _ _ _ _) _ _).1
   ·simp only[(DP h n c [] ω).1 k];unfold ei;rw[Zaa (by simp)];have p:(c++fN (λ_=>(⟨2,0,0,[]⟩:a8)) g a n c.length).length=c.length+n*(a+1):=by rw[Zab,qt h.len]
    simp only[p,Zcb];rw[Dq h.len n c c.length rfl]
   ·rw[(gj _ (λl j=>eH _ _ _ _) _ _).2.2];exact(DP h n c [] h1).2 e
  exact d.then hO
theorem Qb9 (h:∀t∈l,Fit (jD t) (bY t) (bw t)):∀(c:List a8) (j:List Int),c.length<=400->
  (c.length+(aR l+2*(l.length-1))<=400->gB l ⟨c,false⟩ j=(⟨c++kR l c.length 0,false⟩,j++ku l.dropLast c.length))/\(400<c.length+(aR l+2*(l.length-1))->(gB l ⟨c,false⟩ j).1.b7):=by
 induction l with
 | nil=>exact λc j a=>⟨λ_=>by simp[gB,kR,ku],λd=>by grind [aR]⟩
 | cons t l f=>
  intro c j a;have ht:=h t (by simp);rw[gB,Zaa (by simp)];cases l with
  | nil=>
   rw[kR];simp only[List.isEmpty_nil,Zbv,aR,Zae,Zak,List.dropLast_singleton,ku,Zaw];exact⟨λb=>by rw[ht.ok c ω],λb=>ht.no c a ω⟩
  | cons u l=>
   rw[Zaa (by simp),kR,Zaa (by simp),aR,Zae,List.dropLast_cons₂,ku];have⟨k1,k2⟩:=zh ht false (λ_=>⟨3,0,0,[]⟩) c a;unfold wx;by_cases hs:c.length+(bw t+2)<=400
   ·have⟨k3,k4⟩:=k1 hs;have g:(c++iD false c.length (c.length+bw t+2)::(bY t (c.length+1)++[(⟨3,0,0,[]⟩:a8)])).length=c.length+2+bw t:=by simp[ht.len];omega
    grind [iD]
   ·have⟨k3,k4⟩:=k2 ω;simp only[Zae];refine⟨λb=>ω,λ_=>(zd _ _ _ ?_).1.b7 k4⟩;intro e;grind
theorem Qca (h:∀t∈l,Fit (jD t) (bY t) (bw t)):Fit (l0 l) (bx l) (aR l):=by
 induction l with
 | nil=>exact⟨λs=>DN _ s,λb=>by rfl,λc d=>by simp[l0,bx],λc h1 a=>by grind [aR]⟩
 | cons t l e=>
  have k:=(h t (by simp)).then (e λu hu=>h u (by grind));refine⟨λs=>DN _ s,λb=>by rw[bx,aR];exact k.len b,λc d=>?_,λc h1 a=>?_⟩
  ·rw[l0,Zaa (by simp),bx];rw[aR] at d;exact k.ok c d
  ·rw[l0,Zaa (by simp)];rw[aR] at a;exact k.no c h1 a
theorem Nq (h:l.length=1):l=[l.getD 0 bI]:=by
 match l,h with
 | [k],_=>rfl
mutual
theorem GY:∀t:ah,kZ t->DK t=decide (bw t=0)
 | .mk op r mn mx lz cap nk ks,h=>by
  rw[kZ] at h
  rw[DK,bw]
  unfold qo
  by_cases h1:op=1
  ·have h0:(ks.length:Int)=0:=h.1.none h1
   have:ks=[]:=Zap ω
   subst this
   subst h1
   simp[aR]
  ·rw[Zaa h1]
   by_cases h3:op=3
   ·rw[Zac h3,BY ks h.2.2]
    simp[h3]
   ·rw[Zaa h3]
    by_cases h5:op=5
    ·obtain⟨w1,w2,w3,w4⟩:=h.1.rep h5
     simp only at w1 w2 w3 w4
     rw[Zac h5,BZ ks h.2.2 ω]
     subst h5
     simp only[show ¬((5:Int)=2\/(5:Int)=7\/(5:Int)=8) by decide,show ¬((5:Int)=4) by decide,show ¬((5:Int)=6) by decide,Za0,Zbv]
     by_cases m0:mx=0
     ·have:mn=0:=ω
      subst this;subst m0;simp
     ·rw[Zaa m0]
      by_cases m1:mx= -1
      ·rw[Zac m1]
       have:¬mn=mx:=ω
       simp[this]
      ·rw[Zaa m1]
       by_cases me:mn=mx
       ·obtain⟨k,hk⟩:∃k,mn.toNat=k+1:=⟨mn.toNat-1,ω⟩
        have hd:mx.toNat-mn.toNat=0:=ω
        rw[hd,hk]
        simp[me,Nat.mul_eq_zero]
       ·obtain⟨d,hd⟩:∃d,mx.toNat-mn.toNat=d+1:=⟨mx.toNat-mn.toNat-1,ω⟩
        rw[hd]
        simp[me]
    ·rw[Zaa h5]
     have:=h.1.op h1
     simp only at this
     rcases this with g | g | g | g | g | g | g
     ·simp[g]
     ·simp[g]
     ·simp[g]
     ·exact absurd g h3
     ·have:=h.1.ax g
      simp only at this
      simp[g]
      omega
     ·exact absurd g h5
     ·simp[g]
theorem BY:∀l:List ah,nU l->rN l=decide (aR l=0)
 | [],_=>by simp[rN,aR]
 | t::l,h=>by
  rw[nU] at h
  rw[rN,aR,GY t h.1,BY l h.2,ZaG]
  simp
theorem BZ:∀l:List ah,nU l->l.length=1->DL l=decide (aR l=0)
 | [t],h,_=>by
  rw[nU] at h
  rw[DL,aR,aR,GY t h.1]
  rfl
end
def nU.tail {t:ah} {l:List ah} (h:nU (t::l)):kZ t/\nU l:=by assumption
mutual
theorem X4:∀t:ah,kZ t->Fit (jD t) (bY t) (bw t)
 | .mk op r mn mx lz cap nk ks,h=>by
  have hw:=(jq _).mp h
  have hk:∀t∈ks,Fit (jD t) (bY t) (bw t):=Nr ks hw.2.2
  generalize ht:ah.mk op r mn mx lz cap nk ks=t at*
  have eks:t.af=ks:=by rw[<-ht];rfl
  rw[<-eks] at hk
  clear ht eks
  have key:∀{f:dJ->dJ} {g:Nat->List a8},Fit f g (bw t)->(∀s,s.b7=false->jD t s=f s)->(∀b,bY t b=g b)->Fit (jD t) (bY t) (bw t):=λF e e2=>
   ⟨λs=>mE t s,λb=>by rw[e2,F.len],λc hc=>by rw[e _ rfl,e2,F.ok c hc],λc h1 h2=>by rw[e _ rfl,F.no c h1 h2]⟩
  have dF:=size_eq t
  unfold qo at dF
  have ns:∀{X:dJ->dJ} {s:dJ},s.b7=false->(if s.b7=true then s else X s)=X s:=λhb=>Zaa (by rw[hb];simp)
  by_cases h1:t.op=1
  ·have h0:(t.af.length:Int)=0:=hw.1.none h1
   have hn:t.af=[]:=Zap ω
   have s0:bw t=0:=by rw[dF,hn];simp[h1,aR]
   rw[s0] at key ⊢
   refine key (f:=id) (g:=λ_=>[]) ⟨λs=>Gw.refl s,λ_=>rfl,λc _=>by simp,λc h1 h2=>ω⟩ (λs hb=>?_) λb=>?_
   ·rw[tS,Zaa (by rw[hb];simp),Zaa ω,Zaa ω,Zaa ω,Zaa ω,Zaa ω,Zaa ω,Zaa ω];rfl
   ·rw[lT,Zaa ω,Zaa ω,Zaa ω,Zaa ω,Zaa ω,Zaa ω,Zaa ω]
  ·rcases hw.1.op h1 with h2 | h2 | h2 | h2 | h2 | h2 | h2
   all_goals have h2:t.op=_:=h2
   ·rw[Zac ω] at dF
    rw[dF] at key ⊢
    exact key (mF ⟨1,0,0,t.r⟩) (λs hb=>by rw[tS,Zaa (by rw[hb];simp),Zac h2]) λb=>by rw[lT,Zac h2]
   ·rw[Zac ω] at dF
    rw[dF] at key ⊢
    exact key (mF ⟨5,0,0,[]⟩) (λs hb=>by rw[tS,Zaa (by rw[hb];simp),Zaa ω,Zaa ω,Zaa ω,Zaa ω,Zaa ω,Zac h2]) λb=>by rw[lT,Zaa ω,Zac h2]
   ·rw[Zac ω] at dF
    rw[dF] at key ⊢
    exact key (mF ⟨6,0,0,[]⟩) (λs hb=>by rw[tS,Zaa (by rw[hb];simp),Zaa ω,Zaa ω,Zaa ω,Zaa ω,Zaa ω,Zaa ω,Zac h2]) λb=>by rw[lT,Zaa ω,Zaa ω,Zac h2]
   ·rw[Zaa ω,Zaa ω,Zaa ω,Zaa ω] at dF
    rw[dF] at key ⊢
    exact key (Qca hk) (λs hb=>by rw[tS,Zaa (by rw[hb];simp),Zaa ω,Zac h2]) λb=>by rw[lT,Zaa ω,Zaa ω,Zaa ω,Zac h2]
   ·rw[Zaa ω,Zac h2] at dF
    rw[dF] at key ⊢
    have hA:=Qb9 hk
    have h0:1<=t.af.length:=by have:=hw.1.ax h2;simp only at this;omega
    have hlast:t.af=t.af.dropLast++[t.af.getD (t.af.length-1) bI]:=by
     rw[Zcz]
     conv=>lhs;rw[<-ZaM (l:=t.af),show t.af.length=(t.af.length-1)+1 by omega]
     rw[cy bI ω]
    refine key (f:=λs=>ei (lQ (gB t.af s []).1.ag.length) (gB t.af s []).1 (gB t.af s []).2) (g:=λb=>kR t.af b (b+aR t.af+2*(t.af.length-1))) ?_ (λs hb=>by rw[tS,Zaa (by rw[hb];simp),Zaa ω,Zaa ω,Zac h2]) λb=>by rw[lT,Zaa ω,Zaa ω,Zaa ω,Zaa ω,Zac h2]
    refine⟨λs=>(zd t.af s [] (λ_ v hv=>(nomatch hv))).1.trans (gj _ (λl j=>js _ _ _) _ _).1,λb=>lU _ _ _ hw.2.2,λc hc=>?_,λc h1 h2=>?_⟩
    ·simp only[(hA c [] ω).1 hc]
     unfold ei
     rw[Zaa (by simp)]
     have n1:(c++kR t.af c.length 0).length=c.length+aR t.af+2*(t.af.length-1):=by rw[Zab,lU _ _ _ hw.2.2];omega
     simp only[n1,Zcb]
     congr 1
     conv=>lhs;rw[hlast,rp]
     have:=Dp (e:=c.length+aR t.af+2*(t.af.length-1)) t.af.dropLast c (bY (t.af.getD (t.af.length-1) bI) (c.length+(aR t.af.dropLast+2*t.af.dropLast.length))) c.length (by rw[Zcz];exact hw.2.2.take _) rfl
     rw[<-hlast,this]
     conv=>rhs;arg 2;arg 1;rw[hlast]
     rw[rp]
    ·rw[(gj _ (λl j=>js _ _ _) _ _).2.2]
     exact(hA c [] h1).2 h2
   ·rw[Zaa ω,Zaa ω,Zaa ω,Zac h2] at dF
    obtain⟨w1,_⟩:=hw.1.rep h2
    simp only at w1
    have hks:=Nq (l:=t.af) ω
    have sH:aR t.af=bw (t.af.getD 0 bI):=by conv=>lhs;rw[hks,aR,aR,Zbn]
    have hcl:∀b,bx t.af b=bY (t.af.getD 0 bI) b:=λb=>by conv=>lhs;rw[hks,bx,bx,Zaw]
    have hH:∀s,Q0 t.af s=jD (t.af.getD 0 bI) s:=λs=>No ω s
    have hq:=BZ t.af hw.2.2 ω
    have k0:=hk (t.af.getD 0 bI) (by rw[fh ω];exact Zas _)
    rw[<-sH] at k0
    have e1:(λs=>Q0 t.af s)=jD (t.af.getD 0 bI):=funext hH
    have e2:(λb=>bx t.af b)=bY (t.af.getD 0 bI):=funext hcl
    have F:=X3 k0 hq t.mn t.mx t.lz
    have hs2:bw t=t.mn.toNat*aR t.af+(if t.mx= -1 then aR t.af+2 else lP t.mn t.mx*(aR t.af+1)):=by
     rw[dF]
     split
     ·omega
     ·rfl
    rw[hs2] at key ⊢
    exact key F (λs hb=>by rw[tS,Zaa (by rw[hb];simp),Zaa ω,Zaa ω,Zaa ω,Zac h2,e1]) λb=>by rw[lT,Zaa ω,Zaa ω,Zaa ω,Zaa ω,Zaa ω,Zac h2,e2]
   ·rw[Zaa ω,Zaa ω,Zac h2] at dF
    obtain⟨w1,_⟩:=hw.1.vZ h2
    simp only at w1
    have hks:=Nq (l:=t.af) ω
    have sH:aR t.af=bw (t.af.getD 0 bI):=by conv=>lhs;rw[hks,aR,aR,Zbn]
    have hcl:∀b,bx t.af b=bY (t.af.getD 0 bI) b:=λb=>by conv=>lhs;rw[hks,bx,bx,Zaw]
    have k0:=hk (t.af.getD 0 bI) (by rw[fh ω];exact Zas _)
    rw[<-sH] at k0
    have F:=((mF ⟨4,2*t.cap,0,[]⟩).then k0).then (mF ⟨4,2*t.cap+1,0,[]⟩)
    rw[show 1+aR t.af+1=bw t by rw[dF];omega] at F
    exact key F (λs hb=>by rw[tS,Zaa (by rw[hb];simp),Zaa ω,Zaa ω,Zaa ω,Zaa ω,Zac h2,No ω]) λb=>by rw[lT,Zaa ω,Zaa ω,Zaa ω,Zaa ω,Zaa ω,Zaa ω,Zac h2,hcl];simp
theorem Nr:∀l:List ah,nU l->∀t∈l,Fit (jD t) (bY t) (bw t)
 | [],_=>λt ht=>nomatch ht
 | t::l,h=>λu hu=>by
  rw[nU] at h
  rcases List.mem_cons.mp hu with e | e
  ·rw[e];exact X4 t h.1
  ·exact Nr l h.2 u e
end
def RdP (y:List Nd×Int):Prop:=0<=y.2/\y.1.length<=480/\∃t r,kZ t/\y.1.drop y.2.toNat=aH t++r
def l4 (y:List Nd×Int):ah:=lk (cw (y.1.drop y.2.toNat)).1
def X5 (y:List Nd×Int):Int:=lk (y.2+(aH (l4 y)).length)
def KJ:bp D:=cq 66 (List Nd×Int) (λa s=>match a with
 | [l,i]=>aB (aW D s 7 l) λl=>aP (cQ i) λ_ i=>.ret ((l:List Nd),i)
 | _=>.fail) RdP (λy=>[.list 7 y.1,Qyy y.2]) λy=>.tuple [.agg (D.bm 15 (l4 y)),Qyy (X5 y)]
def Qo (y:List Nd×Int) (k:Nat):Int:=lk (y.2+1+(aC ((l4 y).af.take k)).length)
def QwD (y:KJ.Y):dj D:=⟨[],[],[(122,⟨Nat,[0],λk=>[(1,Qyy (Qo y k)),(4,.ptr 0 0),(6,.ptr 1 0),(7,Qyy k)],[],λk=>[wv 0 bI,(1,.cells [Qyy (l4 y).op,.list 6 (l4 y).r,Qyy (l4 y).mn,Qyy (l4 y).mx,.bool (l4 y).lz,Qyy (l4 y).cap,Qyy (l4 y).nk,.grow 15 ((l4 y).af.take k) 2] 164 false),tkO 2],3,λk=>k<=(l4 y).af.length,λk=>(l4 y).af.length-k⟩)],[],1,[]⟩
def QwE (y:KJ.Y):Prop:=vc [KJ.under (λy=>dI (l4 y)) (dI (l4 y))] f66 KJ QwD y
def KK:bp D:=cq 29 (List (List Nd)) Qmu qu (λy=>[.list 9 y]) λy=>.tuple [.agg [.list 8 (bZ y).1.1,.list 5 (bZ y).1.2],Qyy (bZ y).2.1,Qyy (bZ y).2.2]
structure DcX where
 c:List a8
 s:List Int
 r:Nat
def Qcb (y:List (List Nd)) (x:DcX):Prop:=x.r<=y.length/\y.length<=8/\x.c.length<=400/\x.s.length=x.r/\lV (y.drop x.r) x.r x.c x.s=bZ y
def QwF (y:KK.Y):dj D:=⟨[],[],[(250,⟨DcX,[0],λx=>[(2,.ptr 0 0),(3,.num .i64 0),(4,.num .i64 0),(5,.ptr 1 0),(6,.ptr 2 0),(7,Qyy x.r)],[],λx=>[(0,.cells [.dc,.dc] 69 false),(1,.cells [.own 3 4 (ab x.c),.bool false] 171 false),(2,.cells [.dc,.grow 5 x.s 4] 69 false),(3,.arr 8 x.c 146 false),wi 4],5,Qcb y,λx=>y.length-x.r⟩)],[],1,[]⟩
def X6 (y:(List Nd)×Int):Prop:=let a:=l4 y;let q1:=a.af;let c:=gt (Nd.mk 0 [] 0 0 false 0 0) y.1 y.2.toNat;let g:=λp:Prop=>aa ([0]:List Int) (aa ([[]]:List (List (Int×Int))) (aa ([0,0]:List Int) p));let h:=λp:Prop=>aa ([0,0]:List Int) (aa ([[]]:List (List ah)) p);let i:=λp:Prop=>aa [a.op] (aa [a.r] (aa [a.mn,a.mx] (aa [a.lz] (aa [a.cap,a.nk] p))));aM 0 y.2/\aD y.2 (ab y.1)/\(∃z:Nat,aa [y.1] (ay .i64 y.2 1=Qo y z/\0=(z:Int)/\c.op=a.op/\c.r=a.r/\c.mn=a.mn/\c.mx=a.mx/\c.lz=a.lz/\c.cap=a.cap/\c.af=a.nk/\[]=List.take z q1/\g (false=false/\h ((Iv (z<=q1.length))))))/\(∀x:Nat,let e:=Qo y x;let b:=l4 (y.1,e);let f:=q1.length;let j:=aD (x:Int) a.nk;let d:=bn (List.take x q1) [ah.mk b.op b.r b.mn b.mx b.lz b.cap b.nk b.af];(Iv (x<=f))->aj j (Iv (RdP (y.1,e)/\dI b<dI a)/\aa [y.1] (aa [e] (ba (ab d) 96/\∃z:Nat,aa [y.1] (X5 (y.1,e)=Qo y z/\ay .i64 (x:Int) 1=(z:Int)/\i (d=List.take z q1/\g (false=false/\h ((Iv (z<=f/\(f-z)<(f-x)))))))))) (i (List.take x q1=q1/\e=X5 y/\True)))
def Qcc:∀y,X6 y=QwE y:=λy=>by kernel_rfl
def X7 (y:List (List Nd)):Prop:=let h:=(bZ y).2.2;let q1:=(bZ y).2.1;aj (aD 8 (ab y)) ([]=(bZ y).1.1/\[]=(bZ y).1.2/\13=q1/\8=h/\True) ((∃z:DcX,aa [y] (0=((z.r:Nat):Int)/\[]=z.s/\0=ab z.c/\false=false/\[]=z.c/\(Iv (Qcb y z))))/\(∀x:DcX,let b:=((x.r:Nat):Int);let j:=bn x.s [ab x.c];let e:=gt [] y b.toNat;let a:=l4 (e,0);let i:=(bM (dJ.mk x.c false) (a8.mk 4 0 0 [])).1;let f:=(i,ah.mk a.op a.r a.mn a.mx a.lz a.cap a.nk a.af);let k:=ab (eU f).ag;let g:=(bM (eU f) (a8.mk 4 1 0 [])).1;let d:=(bM g (a8.mk 7 b 0 [])).1;(Iv (Qcb y x))->aj (aD b (ab y)) (aM 0 b/\aD b (ab y)/\Iv (cR e)/\aa [e] (aj (!(dG e)) ([]=(bZ y).1.1/\[]=(bZ y).1.2/\1=q1/\b=h/\True) (ba (ab j) 8/\aa [x.s] (aa [ab x.c] (aM 0 b/\aD b (ab y)/\Iv (RdP (e,0))/\aa [e] (aa ([0]:List Int) (Iv (x.c.length<=400)/\aa ([4,0,0]:List Int) (aa ([[]]:List (List (Int×Int))) (aa [ab x.c] (false=false/\aa [x.c] (Iv (DO f)/\aa [a.op] (aa [a.r] (aa [a.mn,a.mx] (aa [a.lz] (aa [a.cap,a.nk] (aa [a.af] (aa [ab i.ag] (aa [i.b7] (aa [i.ag] (Iv ((eU f).ag.length<=400)/\aa ([4,1,0]:List Int) (aa ([[]]:List (List (Int×Int))) (aa [k] (aa [(eU f).b7] (aa [(eU f).ag] (Iv (g.ag.length<=400)/\aa ([7,b,0]:List Int) (aa ([[]]:List (List (Int×Int))) (aa [ab g.ag] (aa [g.b7] (aa [g.ag] (aj d.b7 ([]=(bZ y).1.1/\[]=(bZ y).1.2/\12=q1/\b=h/\True) (∃z:DcX,aa [y] (ay .i64 b 1=((z.r:Nat):Int)/\j=z.s/\ab d.ag=ab z.c/\d.b7=false/\d.ag=z.c/\(Iv (Qcb y z/\(y.length-z.r)<(y.length-x.r))))))))))))))))))))))))))))))))))) (x.c=(bZ y).1.1/\x.s=(bZ y).1.2/\0=q1/\0=h/\True)))
theorem DQ {l r:List Nd} {a:Nat} {t:ah} (h:kZ t) (e:l.drop a=aH t++r):l4 (l,(a:Int))=t:=by
 grind [l4,kQ]
theorem QwH (y:List Nd×Int) (s:KJ.pre y):X6 y:=by
 obtain⟨l,i⟩:=y;obtain⟨h0,h1,t,r,m,d⟩:=s;obtain⟨a,rfl⟩:=Zau h0;simp only[Zad] at h1 d;have j:=DQ m d;have f:∀i t,l4 (l,i)=t->X5 (l,i)=i+(aH t).length:=λi t h=>by grind [X5,az]
 have n:∀k,Qo (l,(a:Int)) k=((gi t a k:Nat):Int):=λk=>by grind [Qo,gi,az]
 obtain⟨w,u,z⟩:=rk d;have wf:=(jq t).mp m;have q:=GU t.af;have o:(aH t).length=(aC t.af).length+1:=by rw[b6];simp
 unfold X6;have p:gt (Nd.mk 0 [] 0 0 false 0 0) l a=⟨t.op,t.r,t.mn,t.mx,t.lz,t.cap,t.af.length⟩:=u;simp only[j,f _ _ j,n,Zad,p];simp only[bj,gg,gF,iz,aw,a_,bq,bX];refine⟨ω,ω,⟨0,by grind [la],rfl,wf.2.1.symm,rfl,Zaj _⟩,λx v=>⟨λe=>?_,λe=>?_⟩⟩
 ·rw[wf.2.1] at e;have c:x<t.af.length:=ω;have hk:=wW d c;have b:=wf.2.2.mem c;have g:=DQ (a:=gi t a x) b hk;rw[f _ _ g,g];refine⟨⟨⟨ω,h1,_,_,b,by assumption⟩,jo c⟩,?_,x+1,by grind [BQ],bR ω,(cy bI c).symm,ω,ω⟩;grind
 ·grind [gi]
def Qn8:Ok KJ:=QY (λy=>dI (l4 y)) Qcc trivial QwH
theorem Qce {t:ah} (h:kZ t) (r:Nat):Fit (λs=>(bM (bM (jD t (bM s ⟨4,0,0,[]⟩).1) ⟨4,1,0,[]⟩).1 ⟨7,r,0,[]⟩).1) (rK t r) (bw t+3):=by
 have F:=(((mF ⟨4,0,0,[]⟩).then (X4 t h)).then (mF ⟨4,1,0,[]⟩)).then (mF ⟨7,r,0,[]⟩);rw[show 1+bw t+1+1=bw t+3 by omega] at F;have:(λn=>[(⟨4,0,0,[]⟩:a8)]++bY t (n+1)++[⟨4,1,0,[]⟩]++[⟨7,(r:Int),0,[]⟩])=rK t r:=funext λn=>by grind [rK]
 grind
theorem QwI (y:List (List Nd)) (o:KK.pre y):X7 y:=by
 obtain⟨h1,k⟩:y.length<=1000000/\∀l∈y,∀x∈l,jl x:=o;have f:bZ y=Dt y:=by grind [bZ,az]
 have j:∀s t,eU (s,t)=jD t s:=λs t=>by grind [eU,az]
 unfold X7;simp only[bN,bj,aw,dL,bq,Zad,a_,Zan,Zao,bX,j];unfold Dt at f;refine⟨λe=>?_,λe=>?_⟩
 ·grind
 ·rw[Zaa ω] at f;refine⟨⟨⟨[],[],0⟩,rfl,rfl,rfl,rfl,Zaj _,ω,Zaj _,rfl,f.symm⟩,λx i=>?_⟩;obtain⟨c,s,r⟩:=x;obtain⟨i1,i2,i3,i4,i5⟩:=i;simp only at i1 i3 i4 i5 ⊢;refine⟨λe2=>?_,λe2=>?_⟩
  ·have v:r<y.length:=ω;have n:y.drop r=y.getD r []::y.drop (r+1):=by simp_all
   have b:cR (y.getD r []):=k _ (by grind);rw[n,lV] at i5;generalize y.getD r []=l at*
   refine⟨ω,e2,b,λh=>?_,λh=>?_⟩
   ·grind
   ·rw[Zaa (by grind)] at i5;obtain⟨t,d,w,u⟩:=jU h;have h0:l.drop 0=aH t++[]:=by grind
    have ht:oQ l=t:=by
     grind [kQ,oQ]
    have m:l4 (l,0)=t:=DQ (a:=0) d h0;rw[ht] at i5;rw[m];have hl:(aH t).length<=480:=by grind
    have hw:HG t:=⟨⟨ω,λx i=>b x (by grind)⟩,d⟩;have F:=Qce d r;have p1:=(fu ⟨c,false⟩ ⟨4,0,0,[]⟩).1;have p:=mE t (bM ⟨c,false⟩ ⟨4,0,0,[]⟩).1;have q1:=(fu (jD t (bM ⟨c,false⟩ ⟨4,0,0,[]⟩).1) ⟨4,1,0,[]⟩).1;have m1:=p1.max i3;have m2:=p.max m1;refine⟨by grind,ω,e2,⟨ZaQ _,u,t,[],d,h0⟩,i3,⟨m1,hw⟩,m2,q1.max m2,λq=>?_,λq=>?_⟩
    ·by_cases g:c.length+(bw t+3)<=400
     ·have:=F.ok c g;grind
     ·grind
    ·by_cases g:c.length+(bw t+3)<=400
     ·have hk:=F.ok c g;rw[Zaa ω] at i5;rw[hk];refine⟨⟨c++rK t r c.length,s++[(c.length:Int)],r+1⟩,bR ω,rfl,rfl,rfl,rfl,⟨by assumption,i2,by simp only[Zab,F.len];omega,by simp[i4],i5⟩,by grind⟩
     ·have:=F.no c i3 ω;grind
  ·grind [lV]
def Qn9:Ok KK:=okZ [Po,KJ,Ap,KI] f29 QwF ⟨Qey yk,Qn8,Nj,QwB .n⟩ QwI
def Qcf:bp D:=cq 28 (List Nd) Qaa pf (λy=>[.list 7 y]) λy=>.list 7 (lk (cO y))
def ruO (n:Nat) (y:cx) (l:LdR):Nat×AO D.E:=(n,.cells [.list 3 y.r,.str y.c,.list 8 l.ag,.list 5 l.st,.list 8 l.cc,.list 5 l.cs,.bool (!seq y.c [])] 97 false)
def Aq:bp D:=⟨14,cx×Bool,Dx mQ,py,λy=>[Dv y.1],λ_=>[],
 λy=>match y.2 with
  | true=>.tuple [.ptr 0 0,Qyy 0,Qyy 0]
  | false=>.tuple [.fY,Qyy (b_ y.1).au,Qyy (b_ y.1).at_],
 λy=>match y.2 with
  | true=>[ruO 0 y.1 (b_ y.1)]
  | false=>[],0,1⟩
def dsO (y:cx):Nat×AO D.E:=(0,.cells [.list 3 y.r,.str y.c] 24 false)
def oW (y:cx) (x:List (List Nd)×Nat):Prop:=y.r.length<=8/\∃t,(∀k,kq t k=(y.r.take x.2).any λp=>decide (p.name=k))/\yX y ⟨t,x.1,x.2⟩
def uX (y:cx):List Nd:=lk (if y.c≠[] then cO (cr y.c).1 else[])
def Qoa (y:Aq.Y):dj D:=⟨[],[],[(250,⟨List (List Nd)×Nat,[5],λx=>[(1,.ptr 0 0),(6,.grow 9 x.1 1),(7,Qyy x.2)],[],λ_=>[dsO y.1,(1,.tok 9 87)],2,oW y.1,λx=>y.1.r.length-x.2⟩)],
 [(1023,⟨Unit,[5],λ_=>[(1,.ptr 0 0),(6,.list 9 (br y.1).out),(13,.ptr 1 0),(14,.list 7 (uX y.1))],[],λ_=>[dsO y.1,ruO 1 y.1 (M6 0 0)],2,λ_=>(br y.1).au=0/\y.1.r.length<=8/\(y.1.c≠[]->(cr y.1.c).2.1=0),λ_=>0⟩)],1,
 [(128154,⟨List (List Nd)×Nat,λx=>{ X:=Nat,aS:=[5,7],sl:=λk=>[(1,.ptr 0 0),(6,.grow 9 x.1 1),(8,.ptr 2 0),(9,Qyy k)],kp:=[],pc:=λ_=>[dsO y.1,(1,.tok 9 87),(2,.cells [.str (y.1.r.getD x.2 ⟨[],[]⟩).name,.str (y.1.r.getD x.2 ⟨[],[]⟩).text] 63 false)],nx:=3,inv:=λk=>k<=x.2/\x.2<y.1.r.length/\oW y.1 x/\∀j,j<k->(y.1.r.getD j ⟨[],[]⟩).name≠(y.1.r.getD x.2 ⟨[],[]⟩).name,me:=λk=>x.2-k },none⟩)]⟩
structure WtY where
 n:Int
 lo:Int
 hi:Int
def mU (y:WtY):Int:=y.lo+(if Int.tmod y.n (y.hi-y.lo+1)<0 then Int.tmod y.n (y.hi-y.lo+1)+(y.hi-y.lo+1) else Int.tmod y.n (y.hi-y.lo+1))
def Qp (y:WtY):Prop:=0<=y.lo/\y.lo<=y.hi/\y.hi<=1000000000000
def X8:bp D:=cq 8 WtY (λa _=>match a with
 | [n,l,h]=>aP (cQ n) λ_ n=>aP (cQ l) λ_ l=>aP (cQ h) λ_ h=>.ret ⟨n,l,h⟩
 | _=>.fail) Qp (λy=>[Qyy y.n,Qyy y.lo,Qyy y.hi]) λy=>Qyy (mU y)
structure zP where
 l:List mN
 eo:Int
def rO:mN:=⟨[],0,false⟩
def zj (eo:Int) (p:By):Nat->By->By
 | 0,b=>b
 | k+1,b=>if (b.length:Int)<eo then zj eo p k (b++p) else b
def Qq (r:mN):Int:=mU ⟨r.times,0,60⟩
def txB (eo:Int) (r:mN) (b:By):By:=zj eo r.piece (Qq r).toNat b
def txR (eo:Int) (r:mN) (b:By):By:=if r.nE=true then txB eo r b else txB eo r b++[10]
def jJ (eo:Int) (l:List mN):Nat->By
 | 0=>[]
 | k+1=>txR eo (l.getD k rO) (jJ eo l k)
def As (y:zP):By:=(jJ y.eo y.l y.l.length).take y.eo.toNat
def Qr (y:zP):Prop:=0<=y.eo/\y.eo<=100000/\y.l.length<=1000000000000/\∀r∈y.l,r.piece.length<=1000000000000
def X9:bp D:=cq 5 zP (λa s=>match a with
 | [l,m]=>aB (aW D s 19 l) λl=>aP (cQ m) λ_ m=>.ret ⟨l,m⟩
 | _=>.fail) Qr (λy=>[.list 19 y.l,Qyy y.eo]) λy=>.list 0 (As y)
def QwM (y:X9.Y):dj D:=⟨[],[],[(58,⟨Nat,[0,1],λk=>[(5,.grow 0 (jJ (zP.eo y) (zP.l y) k) 0),(6,Qyy k)],[],λ_=>[(0,.tok 0 5)],1,λk=>k<=(zP.l y).length,λk=>(zP.l y).length-k⟩)],[],1,
 [(14922,⟨Nat,λi=>⟨Nat×By,[0,1,6,7],λx=>[(5,.grow 0 x.2 0),(8,Qyy x.1)],[],λ_=>[(0,.tok 0 5)],1,λx=>x.1<=(Qq ((zP.l y).getD i rO)).toNat/\x.2.length<=i+1000000100000/\zj (zP.eo y) ((zP.l y).getD i rO).piece ((Qq ((zP.l y).getD i rO)).toNat-x.1) x.2=txB (zP.eo y) ((zP.l y).getD i rO) (jJ (zP.eo y) (zP.l y) i),λx=>(Qq ((zP.l y).getD i rO)).toNat-x.1⟩,none⟩)]⟩
def oX (y:cx):cx:=⟨if 3<y.r.length then y.r.take 3 else y.r,y.c⟩
def X' (y:cx):Bool:=mQ (oX y)
def DR (y:cx×Bool):Prop:=y.2=X' y.1
def iU (y:cx):mD:=lk ⟨oX y,⟨(b_ (oX y)).ag,(b_ (oX y)).st⟩,⟨(b_ (oX y)).cc,(b_ (oX y)).cs⟩,(br (oX y)).tab⟩
def Qt:bp D:=⟨4,cx×Bool,Dx X',DR,λy=>[Dv y.1],λ_=>[],
 λy=>match y.2 with
  | true=>.tuple [.ptr 0 0,.ptr 3 0,.lit true]
  | false=>.tuple [.fY,.fY,.lit true],
 λy=>match y.2 with
  | true=>BR (iU y.1)++[ruO 3 (oX y.1) (b_ (oX y.1))]
  | false=>[],0,4⟩
def Qoe (y:Qt.Y):dj D:=⟨[],[],[],[(3,⟨Unit,[],λ_=>[(1,.ptr 0 0)],[],λ_=>[(0,.cells [.list 3 (oX y.1).r,.str y.1.c] 24 false)],1,λ_=>True,λ_=>0⟩)],1,[]⟩
def X_:bp D:=cq 6 Unit (λ_ _=>.ret ()) (λ_=>True) (λ_=>[]) λ_=>.lit true
def Qfd (y:WtY):Prop:=let a:=ay .i64 (dE .i64 y.hi y.lo) 1;let q1:=QfE y.n a;(!(aE a 0))/\aj (aD q1 0) (ay .i64 y.lo (ay .i64 (dE .i64 (ay .i64 q1 y.hi) y.lo) 1)=mU y/\True) (ay .i64 y.lo q1=mU y/\True)
def Ya (y:zP):Prop:=let b:=y.l.length;let q1:=ab y.l;let o:=λp:Prop=>RAP y.l y.eo p;(∃z:Nat,o ([]=jJ y.eo y.l z/\0=(z:Int)/\(Iv (z<=b))))/\(∀x:Nat,let i:=jJ y.eo y.l x;let r:=aD y.eo (ab i);let j:=gt (mN.mk [] 0 false) y.l (x:Int).toNat;let n:=WtY.mk j.times 0 60;let q:=λp:Prop=>RAR y.l y.eo (x:Int) (mU n) p;(Iv (x<=b))->aj (aD (x:Int) q1) (aM 0 (x:Int)/\aD (x:Int) q1/\Iv (Qp n)/\aa ([j.times,0,60]:List Int) (∃z:Nat,let d:=List.getD y.l z rO;let c:=(Qq d).toNat;(∃a:Nat×(List UInt8),q (i=a.2/\0=(a.1:Int)/\(Iv (a.1<=c/\a.2.length<=(z+1000000100000)/\zj y.eo d.piece (c-a.1) a.2=txB y.eo d (jJ y.eo y.l z)))))/\(∀x1:Nat×(List UInt8),let k:=aD (ab x1.2) y.eo;let e:=txB y.eo d (jJ y.eo y.l z);let f:=bn x1.2 [b8 10];let g:=bn x1.2 j.piece;let m:=aD (x1.1:Int) (mU n);let h:Prop:=(aM 0 (x:Int)/\aD (x:Int) q1/\aj (!j.nE) (ba (ab f) 1/\∃a:Nat,o (f=jJ y.eo y.l a/\ay .i64 (x:Int) 1=(a:Int)/\(Iv (a<=b/\(b-a)<(b-x))))) (∃a:Nat,o (x1.2=jJ y.eo y.l a/\ay .i64 (x:Int) 1=(a:Int)/\(Iv (a<=b/\(b-a)<(b-x))))));(Iv (x1.1<=c/\x1.2.length<=(z+1000000100000)/\zj y.eo d.piece (c-x1.1) x1.2=e))->aj m (aj k (aM 0 (x:Int)/\aD (x:Int) q1/\ba (ab g) 1/\∃a:Nat×(List UInt8),q (g=a.2/\ay .i64 (x1.1:Int) 1=(a.1:Int)/\(Iv ((a.1<=c/\a.2.length<=(z+1000000100000)/\zj y.eo d.piece (c-a.1) a.2=e)/\(c-a.1)<(c-x1.1))))) (h)) (h)))) (aj r (aM 0 y.eo/\aM y.eo (ab i)/\c_ i y.eo=As y/\True) (i=As y/\True)))
def KL (y:cx):Prop:=let e:=b_ (oX y);let q1:=ite (3<y.r.length) (List.take 3 y.r) y.r;let a:=cx.mk q1 y.c;let b:=b_ a;let f:=aE b.au b.au;let d:=λp:Prop=>RAP q1 y.c p;(aj (aD 3 (ab y.r)) (Tt 1 (aM 3 (ab y.r)/\∃z:Unit,c_ y.r 3=q1/\RAO y.c ((Iv True)))) (∃z:Unit,y.r=q1/\RAO y.c ((Iv True))))/\(∀x:Unit,(Iv True)->aj (mQ a) (Iv (py (a,true))/\d (aj (mQ a) (Iv (py (a,true))/\d (aj (aE 0 0) (d (b.ag=e.ag/\b.st=e.st/\b.cc=e.cc/\b.cs=e.cs/\aa [!(seq y.c [])] (q1=(iU y).s.r/\y.c=(iU y).s.c/\b.ag=(iU y).p.ag/\b.st=(iU y).p.ai/\b.cc=(iU y).q.ag/\b.cs=(iU y).q.ai/\ab (br a).tab=ab (iU y).t/\(br a).tab=(iU y).t/\True))) (False))) (Iv (py (a,false))/\d (aj (aE 0 b.au) (False) (False))))) (Iv (py (a,false))/\d (aj (mQ a) (Iv (py (a,true))/\d (aj (aE b.au 0) (False) (False))) (Iv (py (a,false))/\d (aj f (False) (False))))))
def KM (y:cx):Prop:=let b:=ite (3<y.r.length) (List.take 3 y.r) y.r;let q1:=cx.mk b y.c;let d:=aE 0 (b_ q1).au;let e:=aE (b_ q1).au 0;let f:=aE (b_ q1).au (b_ q1).au;let a:=λp:Prop=>RAP b y.c p;(aj (aD 3 (ab y.r)) (Tt 1 (aM 3 (ab y.r)/\∃z:Unit,c_ y.r 3=b/\RAO y.c ((Iv True)))) (∃z:Unit,y.r=b/\RAO y.c ((Iv True))))/\(∀x:Unit,(Iv True)->aj (mQ q1) (Iv (py (q1,true))/\a (aj (mQ q1) (Iv (py (q1,true))/\a (aj (aE 0 0) (False) (False))) (Iv (py (q1,false))/\a (aj d (False) (False))))) (Iv (py (q1,false))/\a (aj (mQ q1) (Iv (py (q1,true))/\a (aj e (False) (False))) (Iv (py (q1,false))/\a (aj f (True) (False))))))
end
end sx
end Go.Proofs.YtfkmlhnhkdbjeaaGreat
