/- StreamRises: a part of the proof. -/
import Derived.Test.YtadfknojfbmjgaaGreatC25
import Derived.Test.YtadfknojfbmjgaaGreatC24
set_option linter.all false
namespace Go.Proofs.YtadfknojfbmjgaaGreat
set_option maxRecDepth 100000
set_option maxHeartbeats 4000000
namespace sx
noncomputable section
open Go Go.RowKit cls syn
variable {Z g:aJ} {y Y:aA} {s:gO} {N:Int} {b:By} {o:List Found} {x:Nat}
theorem A2:∀(k lo hi:Nat) (t:By),jJ k lo hi t->t.length<k
 | 0,_,_,_,h=>nomatch h
 | _+1,_,_,[],_=>Nat.succ_pos _
 | k+1,lo,hi,b::t,h=>by
  rw[jJ] at h;split at h
  ·cases h
  ·exact Nat.succ_lt_succ (A2 k 128 191 t h)
theorem Vb (h:gz b):b.length<=3:=by
 unfold gz at h;simp only[ZaW,ZaP] at h;have:=A2 _ _ _ _ h.2;have a:=(ji (b.getD 0 0).toNat).1;rw[Zbg] at this;change (mo b).1= -1\/(mo b).1=0\/(mo b).1=1\/(mo b).1=2\/(mo b).1=3 at a;omega
theorem Fy:∀(k:Nat) (y:iT) (l:List Gt),0<=y.n->y.n<=4->y.n.toNat<=k->0<=(nK k y l).1.n/\(nK k y l).1.n<=3/\(ec (nK k y l).1=[]\/gz (ec (nK k y l).1))
 | 0,y,l,h0,a,h=>by
  have e:y.n=0:=ω;exact⟨h0,by show y.n<=3;omega,.inl (by show ec y=[];unfold ec;rw[e];rfl)⟩
 | k+1,y,l,h0,a,h=>by
  rw[nK];split
  ·rename_i b
   have ht:=B9 b.1 a;have c:(y7 y (iU y).2.toNat).n=y.n-(iU y).2:=by show y.n-((iU y).2.toNat:Int)=_;omega
   exact Fy k _ _ ω ω ω
  ·grind [ec,List.length_take,Vb]
theorem Vc (c:Int) (h:vP s N):vP (iL s c) (N+16):=by
 obtain⟨h1,g,_,f⟩:=h;have e:iL s c=_:=aq _;rw[e];obtain⟨b,a2,a3⟩:=Fy 4 (sr s.d c) [] (by show 0<=s.d.n+1;omega) (by show s.d.n+1<=4;omega) (by show(s.d.n+1).toNat<=4;omega);refine⟨b,a2,a3,?_⟩;have hl:(rG s.d c).2.length<=0+4:=xU 4 _ [];have a:=nL f (l:=(rG s.d c).2) _ (Zah _);rw[ZaM] at a;obtain⟨g1,g2,g3,g4⟩:=a;exact⟨g1,g2,g3,by grind⟩
def Lm {p:jW} (h1:Yn p.code) (b:p.ah.length<=1000):RX (Fj p) 0:=by
 have hl:(Fj p).L.length=p.ah.length:=by show(rE++(p.ah.take p.ah.length).map iS).length=_;simp[rE]
 refine⟨⟨⟨?_,λx a=>?_,h1⟩,ω,λl hl=>?_⟩,hl.symm,ZaQ _,ZaQ _⟩
 ·show(uP p.code.length).length=_
  unfold uP;simp;rfl
 ·have:x=0:=Zdw (show x∈List.replicate (p.code.length:Int).toNat (0:Int) from a);omega
 ·have hl:l∈(p.ah.take p.ah.length).map iS:=hl;obtain⟨s,_,rfl⟩:=ZcL.1 hl;show 1<=1000000
  omega
theorem Ln (h:vP s N):vP (bA s) 0/\(bA s).v.L.length=s.v.L.length:=by
 have e:bA s=⟨L2,Fj s.v.p⟩:=aq _;obtain⟨_,_,_,a⟩:=h;rw[e];refine⟨⟨ZaQ _,by show(0:Int)<=3;omega,.inl rfl,Lm a.1.1.2.2 (by have:=a.1.2.1;have:=a.2.1;omega)⟩,?_⟩;rw[<-a.2.1];show(rE++(s.v.p.ah.take s.v.p.ah.length).map iS).length=_
 simp[rE]
def vP.le {M:Int} (h:vP s N) (a:N<=M):vP s M:=⟨h.1,h.2.1,h.2.2.1,h.2.2.2.1,h.2.2.2.2.1,h.2.2.2.2.2.1,Int.le_trans h.2.2.2.2.2.2 a⟩
def vP.P (h:vP s N) (a:N<=900000000000):qu s:=⟨⟨h.1,h.2.1,⟨h.2.2.2.1,h.2.2.2.2.1,h.2.2.2.2.2.1,by have:=h.2.2.2.2.2.2;omega⟩⟩,h.2.2.1⟩
theorem pz.Q (h:pz Z y) (c:y.pos<=100000000):u_ Z y:=by
 obtain⟨a,a2,a3,a4,a5,b⟩:=h;refine⟨⟨a.P ω,λk=>?_,λk=>?_⟩,a4,a5,c,b⟩
 ·have d:=(a2 k).1.P ω;grind [Fv]
 ·exact⟨(a3 k).1.P ω,(a3 k).2⟩
theorem Lo (y:aA) (c:Int):(jQ y c=1/\y.aE=false/\y.pos-y.line<200)\/(jQ y c=2/\y.aE=false)\/(jQ y c=3/\y.aE=false)\/(jQ y c=4/\y.aE)\/(jQ y c=5/\y.aE):=by
 grind [jQ,G_,rH]
theorem mc (a:Lh Z):oC Z y N=(bif fp Z y N then .o else .c):=by
 cases Z<;>first | rfl | cases a
theorem N5 (c:Int) (l:Z=.n\/Z=.c\/Z=.o) (h:pz Z y) (m:y.pos<=100000000):pz (oC Z y c) (jq Z y c)/\(eQ Z y c).length<=1001:=by
 have j:=h.Q m;obtain⟨p,s,t,u,w⟩:=A1 j;obtain⟨i,a2,a3,a4,a5,r⟩:=h;have hz:(0:Int)<=16*(y.pos+1):=ω;have e:16*y.pos+16=16*(y.pos+1):=ω;have A:vP (bA y.alt) (16*(y.pos+1)):=(Ln i).1.le hz;have B:∀d,vP (iL y.alt d) (16*(y.pos+1)):=λd=>e▸Vc d i
 have q:vP (bA (iL y.alt 10)) (16*(y.pos+1)):=(Ln (B 10)).1.le hz;have K:vP y.alt (16*(y.pos+1)):=i.le ω;have sl:=Cw j.1.1;have halt:vP (ir Z y c) (16*(y.pos+1)):=by
  grind [ir,aq,Fw]
 have b:Lh Z->vP (gV y c) (16*(y.pos+1))/\0<(gV y c).v.L.length:=λk=>by
  obtain⟨k1,k2⟩:=a2 k;have kp:=(k1.P ω).1;unfold gV;rw[aq];split
  ·grind [Vc,QcY]
  ·split
   ·exact⟨(Ln k1).1.le hz,by grind [Ln]⟩
   ·exact⟨k1.le ω,k2⟩
 have a:0<=bg y c/\bg y c<=y.pos+1/\(cS y c=false->y.pos+1-bg y c<=200):=by
  grind [Lo,bg,cS]
 have g:(eQ Z y c).length<=1001:=by
  grind [tN,eQ,aq,qH]
 refine⟨?_,g⟩;rcases l with rfl | rfl | rfl
 ·exact⟨halt,nofun,nofun,a⟩
 ·refine⟨halt,λ_=>b rfl,λk=>?_,a⟩;exact⟨by show vP (km .c y c) _;unfold km;rw[aq];exact B 10,sl,p,by show rH y<=500;omega⟩
 ·obtain⟨k1,k2,k3,k4⟩:=a3 rfl;have cl:=Cw (j.1.2.2 rfl).1;refine⟨halt,λ_=>b rfl,λk=>?_,a⟩;have C:∀d,vP (iL y.cur d) (16*(y.pos+1)):=λd=>e▸Vc d k1
  refine⟨?_,?_,?_⟩
  ·show vP (km .o y c) (16*(y.pos+1))
   unfold km;rw[aq];simp only;split
   ·exact C c
   ·split
    ·grind
    ·exact k1.le ω
  ·show(mb .o y c).length<=1000
   grind [mb]
  ·show 0<=lH .o y c/\lH .o y c<=500
   grind [lH,Gf,II]
theorem rk {f:aJ} {y:aA} {b:By} (a:f=.n\/f=.c\/f=.o) (h:pz f y) (e:y.pos+b.length<=100000000):∀k,k<=b.length->pz (bb f y b k).1 (bb f y b k).2.1/\(bb f y b k).2.1.pos=y.pos+k/\(bb f y b k).2.2.length<=1001*k/\(f=.n->(bb f y b k).1=.n)/\(Lh f->(bb f y b k).1=.c\/(bb f y b k).1=.o)
 | 0,_=>⟨h,by show y.pos=y.pos+0;omega,Zaj _,id,λk=>by rcases a with rfl | rfl | rfl;cases k;exact .inl rfl;exact .inr rfl⟩
 | k+1,hk=>by
  obtain⟨i1,i2,i3,i4,i5⟩:=rk (b:=b) a h e k ω;have d:(bb f y b k).1=.n\/(bb f y b k).1=.c\/(bb f y b k).1=.o:=by
   rcases a with rfl | rfl | rfl
   ·grind
   ·exact .inr (i5 rfl)
   ·exact .inr (i5 rfl)
  obtain⟨g,j⟩:=N5 ((b.getD k 0).toNat:Int) d i1 ω;refine⟨g,by show(bb f y b k).2.1.pos+1=_;omega,?_,λk=>?_,λi=>?_⟩
  ·grind [bb]
  ·show oC _ _ _=_
   rw[i4 k];rfl
  ·grind [Lh,bb,mc]
theorem br {t:gO} {p:Prop} (h:s=t) (a:p):dE s t p:=(U1 h).mpr a
def bc (b:By) (k:Nat):Int:=((b.getD k 0).toNat:Int)
def uC (h:bb Z y b x=(g,Y,o)):bb Z y b (x+1)=(oC g Y (bc b x),jq g Y (bc b x),o++eQ g Y (bc b x)):=by
 rw[bb,h];rfl
theorem yc (e:Z=.n\/Z=.c\/Z=.o) (i:vb Z (y,b)) (h:bb Z y b x=(g,Y,o)) (j:x<b.length):u_ g Y/\(∀l:List Found,l=eQ g Y (bc b x)->fits (ab (aZ o l)) 104)/\an .i64 (x:Int) 1=((x+1:Nat):Int):=by
 obtain⟨h1,d,a⟩:=i;have d:b.length<=1000000:=d;have a:y.pos+b.length<=100000000:=a;obtain⟨i1,i2,i3,_⟩:=rk e h1 a x ω;have hs:=(rk e h1 a (x+1) ω).2.2.1;rw[uC h] at hs;rw[h] at i1 i2 i3;refine⟨i1.Q (by grind),λl hl=>?_,aV ω ω⟩;grind
theorem Qk8:Ok Κ:=okZ (V:=QcZ) [Lj] Tryz.f9 (λy=>⟨[],[],[(58,fdL .n .n y)],[],1,[]⟩) QfI λ(y:aA×By) c=>by
 obtain⟨y,b⟩:=y;have c:vb .n (y,b):=c;unfold QcZ;simp only[Qbt,gZ,cD,cm,cb,db,dP,gf,gG,aj,Zad];refine⟨⟨0,rfl,rfl,rfl,rfl,rfl,br rfl ⟨Zaj _,rfl⟩⟩,λx j=>?_⟩;obtain⟨l,a⟩:=j;generalize e:bb .n y b x=R at a ⊢;obtain⟨g,r,o⟩:=R;obtain rfl:g=.n:=a;refine⟨λk=>?_,λk=>?_⟩
 ·obtain⟨d,f,h⟩:=yc (.inl rfl) c e ω;have i:=uC e;refine⟨ω,k,⟨⟨d.1.1,nofun,nofun⟩,d.2⟩,f _ rfl,x+1,?_⟩;rw[i];exact⟨rfl,h,rfl,rfl,rfl,br rfl ⟨⟨ω,rfl⟩,ω⟩⟩
 ·grind [br]
def isO (g:aJ):Bool:=match g with
 | .o=>true
 | _=>false
def IS {t:Bool} (e:x=b.length) (h:bb Z y b x=(g,Y,o)) (ht:t=oD Z y b):t=isO g:=by
 rw[ht];show isO (bb Z y b b.length).1=_
 rw[<-e,h]
theorem Qk9 (y:aA×By) (f:nZ .c (y,true)):IP y:=by
 obtain⟨y,b⟩:=y;obtain⟨f,ht⟩:=f;have f:vb .c (y,b):=f;have ht:true=oD .c y b:=ht;unfold IP;simp only[Qbt,gZ,cD,cm,cb,db,dP,gf,gG,aj,Zad,Zd2,Zd3,Zdv,Zdt];refine⟨(),⟨0,rfl,rfl,rfl,rfl,rfl,br rfl (br rfl ⟨Zaj _,rfl⟩)⟩,λx n=>?_,λx n=>?_⟩
 ·obtain⟨p,a⟩:=n;generalize e:bb .c y b x=R at a ⊢;obtain⟨g,r,o⟩:=R;obtain rfl:g=.c:=a;have l:=uC e;refine⟨λk=>?_,λk=>?_⟩
  ·obtain⟨h,i,j⟩:=yc (.inr (.inl rfl)) f e ω;have m:u_ .c ⟨y.ru,r.pos,r.line,0,0,r.aE,[],r.alt,r.ba,gM⟩:=⟨⟨h.1.1,h.1.2.1,nofun⟩,h.2⟩;refine⟨ω,k,λq=>⟨⟨m,q.symm⟩,i _ rfl,x+1,?_⟩,λq=>⟨⟨m,q.symm⟩,i _ rfl,x+1,?_⟩⟩
   ·have d:oC .c r (bc b x)=.o:=by rw[mc rfl,show fp .c r (bc b x)=true from q];rfl
    rw[l,d];exact⟨rfl,j,rfl,rfl,rfl,rfl,rfl,rfl,br rfl (br rfl (br rfl ⟨⟨ω,rfl⟩,ω⟩))⟩
   ·have d:oC .c r (bc b x)=.c:=by rw[mc rfl,show fp .c r (bc b x)=false from q];rfl
    rw[l,d];exact⟨rfl,j,rfl,rfl,rfl,br rfl (br rfl ⟨⟨ω,rfl⟩,ω⟩)⟩
  ·exact absurd (IS ω e ht) nofun
 ·obtain⟨p,a⟩:=n;generalize e:bb .c y b x=R at a ⊢;obtain⟨g,r,o⟩:=R;obtain rfl:g=.o:=a;have l:=uC e;refine⟨λk=>?_,λk=>?_⟩
  ·obtain⟨h,i,j⟩:=yc (.inr (.inl rfl)) f e ω;have m:u_ .o ⟨y.ru,r.pos,r.line,r.event,r.size,r.aE,r.ends,r.alt,r.ba,r.cur⟩:=h;refine⟨ω,k,λq=>⟨⟨m,q.symm⟩,i _ rfl,x+1,?_⟩,λq=>⟨⟨m,q.symm⟩,i _ rfl,x+1,?_⟩⟩
   ·have d:oC .o r (bc b x)=.o:=by rw[mc rfl,show fp .o r (bc b x)=true from q];rfl
    rw[l,d];exact⟨rfl,j,rfl,rfl,rfl,rfl,rfl,rfl,br rfl (br rfl (br rfl ⟨⟨ω,rfl⟩,ω⟩))⟩
   ·have d:oC .o r (bc b x)=.c:=by rw[mc rfl,show fp .o r (bc b x)=false from q];rfl
    rw[l,d];exact⟨rfl,j,rfl,rfl,rfl,br rfl (br rfl ⟨⟨ω,rfl⟩,ω⟩)⟩
  ·grind [br]
theorem Qla (y:aA×By) (f:nZ .c (y,false)):IQ y:=by
 obtain⟨y,b⟩:=y;obtain⟨f,ht⟩:=f;have f:vb .c (y,b):=f;have ht:false=oD .c y b:=ht;unfold IQ;simp only[Qbt,gZ,cD,cm,cb,db,dP,gf,gG,aj,Zad,Zd2,Zd3,Zdv,Zdt];refine⟨(),⟨0,rfl,rfl,rfl,rfl,rfl,br rfl (br rfl ⟨Zaj _,rfl⟩)⟩,λx n=>?_,λx n=>?_⟩
 ·obtain⟨p,a⟩:=n;generalize e:bb .c y b x=R at a ⊢;obtain⟨g,r,o⟩:=R;obtain rfl:g=.c:=a;have l:=uC e;refine⟨λk=>?_,λk=>?_⟩
  ·obtain⟨h,i,j⟩:=yc (.inr (.inl rfl)) f e ω;have m:u_ .c ⟨y.ru,r.pos,r.line,0,0,r.aE,[],r.alt,r.ba,gM⟩:=⟨⟨h.1.1,h.1.2.1,nofun⟩,h.2⟩;refine⟨ω,k,λq=>⟨⟨m,q.symm⟩,i _ rfl,x+1,?_⟩,λq=>⟨⟨m,q.symm⟩,i _ rfl,x+1,?_⟩⟩
   ·have d:oC .c r (bc b x)=.o:=by rw[mc rfl,show fp .c r (bc b x)=true from q];rfl
    rw[l,d];exact⟨rfl,j,rfl,rfl,rfl,rfl,rfl,rfl,br rfl (br rfl (br rfl ⟨⟨ω,rfl⟩,ω⟩))⟩
   ·have d:oC .c r (bc b x)=.c:=by rw[mc rfl,show fp .c r (bc b x)=false from q];rfl
    rw[l,d];exact⟨rfl,j,rfl,rfl,rfl,br rfl (br rfl ⟨⟨ω,rfl⟩,ω⟩)⟩
  ·grind [br]
 ·obtain⟨p,a⟩:=n;generalize e:bb .c y b x=R at a ⊢;obtain⟨g,r,o⟩:=R;obtain rfl:g=.o:=a;have l:=uC e;refine⟨λk=>?_,λk=>?_⟩
  ·obtain⟨h,i,j⟩:=yc (.inr (.inl rfl)) f e ω;have m:u_ .o ⟨y.ru,r.pos,r.line,r.event,r.size,r.aE,r.ends,r.alt,r.ba,r.cur⟩:=h;refine⟨ω,k,λq=>⟨⟨m,q.symm⟩,i _ rfl,x+1,?_⟩,λq=>⟨⟨m,q.symm⟩,i _ rfl,x+1,?_⟩⟩
   ·have d:oC .o r (bc b x)=.o:=by rw[mc rfl,show fp .o r (bc b x)=true from q];rfl
    rw[l,d];exact⟨rfl,j,rfl,rfl,rfl,rfl,rfl,rfl,br rfl (br rfl (br rfl ⟨⟨ω,rfl⟩,ω⟩))⟩
   ·have d:oC .o r (bc b x)=.c:=by rw[mc rfl,show fp .o r (bc b x)=false from q];rfl
    rw[l,d];exact⟨rfl,j,rfl,rfl,rfl,br rfl (br rfl ⟨⟨ω,rfl⟩,ω⟩)⟩
  ·exact absurd (IS ω e ht) nofun
def Qc0:Ok fdC:=uR (k:=fdC) id id (λ_=>rfl) U' U_ ⟨U7,U8⟩ Qk9 Qla
theorem QsJ (y:aA×By) (f:Μ y):Va y:=by
 obtain⟨y,b⟩:=y;obtain⟨f,ht⟩:=f;have f:vb .o (y,b):=f;have ht:true=oD .o y b:=ht.symm;unfold Va;simp only[Qbt,gZ,cD,cm,cb,db,dP,gf,gG,aj,Zad,Zd2,Zd3,Zdv,Zdt];refine⟨(),⟨0,rfl,rfl,rfl,rfl,rfl,rfl,rfl,rfl,br rfl (br rfl (br rfl ⟨Zaj _,rfl⟩))⟩,λx n=>?_,λx n=>?_⟩
 ·obtain⟨p,a⟩:=n;generalize e:bb .o y b x=R at a ⊢;obtain⟨g,r,o⟩:=R;obtain rfl:g=.o:=a;have l:=uC e;refine⟨λk=>?_,λk=>?_⟩
  ·obtain⟨h,i,j⟩:=yc (.inr (.inr rfl)) f e ω;have m:u_ .o ⟨y.ru,r.pos,r.line,r.event,r.size,r.aE,r.ends,r.alt,r.ba,r.cur⟩:=h;refine⟨ω,k,λq=>⟨⟨m,q.symm⟩,i _ rfl,x+1,?_⟩,λq=>⟨⟨m,q.symm⟩,i _ rfl,x+1,?_⟩⟩
   ·have d:oC .o r (bc b x)=.o:=by rw[mc rfl,show fp .o r (bc b x)=true from q];rfl
    rw[l,d];exact⟨rfl,j,rfl,rfl,rfl,rfl,rfl,rfl,br rfl (br rfl (br rfl ⟨⟨ω,rfl⟩,ω⟩))⟩
   ·have d:oC .o r (bc b x)=.c:=by rw[mc rfl,show fp .o r (bc b x)=false from q];rfl
    rw[l,d];exact⟨rfl,j,rfl,rfl,rfl,br rfl (br rfl ⟨⟨ω,rfl⟩,ω⟩)⟩
  ·grind [br]
 ·obtain⟨p,a⟩:=n;generalize e:bb .o y b x=R at a ⊢;obtain⟨g,r,o⟩:=R;obtain rfl:g=.c:=a;have l:=uC e;refine⟨λk=>?_,λk=>?_⟩
  ·obtain⟨h,i,j⟩:=yc (.inr (.inr rfl)) f e ω;have m:u_ .c ⟨y.ru,r.pos,r.line,0,0,r.aE,[],r.alt,r.ba,gM⟩:=⟨⟨h.1.1,h.1.2.1,nofun⟩,h.2⟩;refine⟨ω,k,λq=>⟨⟨m,q.symm⟩,i _ rfl,x+1,?_⟩,λq=>⟨⟨m,q.symm⟩,i _ rfl,x+1,?_⟩⟩
   ·have d:oC .c r (bc b x)=.o:=by rw[mc rfl,show fp .c r (bc b x)=true from q];rfl
    rw[l,d];exact⟨rfl,j,rfl,rfl,rfl,rfl,rfl,rfl,br rfl (br rfl (br rfl ⟨⟨ω,rfl⟩,ω⟩))⟩
   ·have d:oC .c r (bc b x)=.c:=by rw[mc rfl,show fp .c r (bc b x)=false from q];rfl
    rw[l,d];exact⟨rfl,j,rfl,rfl,rfl,br rfl (br rfl ⟨⟨ω,rfl⟩,ω⟩)⟩
  ·exact absurd (IS ω e ht) nofun
def Qc1:Ok U9:=okZ [qz .c,qz .o] Tryz.f9 (λy=>⟨[],[],[],[],1,[(58,⟨Unit,λ_=>fdL .o .o y,some (fdL .o .c y)⟩)]⟩) ⟨U7,U8⟩ QsJ
def rp (y:nW):Bool:=!seq y.s.c []
def sM (y:nW):aA:=⟨y,0,0,0,0,false,[],bM y.p,bM y.q,gM⟩
def hU (y:nW×Bool):Prop:=qV y.1.p/\OK y.1.q/\(rp y.1->qV y.1.q)/\y.2=rp y.1
def Qc2 (a:List (AV D.E)) (s:St D.E):C (nW×Bool):=av (Qfj a s) λy=>.split (rp y) (.ret (y,true)) (.ret (y,false))
def Qlb (y:nW×Bool):List (Nat×AO D.E):=match y.2 with
 | true=>fc .c 4 (sM y.1)
 | false=>fc .n 4 (sM y.1)
def N6:bf D:=⟨15,nW×Bool,Qc2,hU,λ_=>[.ptr 0 0],λy=>Un y.1,λ_=>.ptr 3 0,Qlb,3,18⟩
def Qlc (y:nW):Prop:=vc [Uo,Up,Uq] Tryz.f15 N6 (λ_=>cX ()) (y,true)
def Qld (y:nW):Prop:=vc [Uo,Up,Uq] Tryz.f15 N6 (λ_=>cX ()) (y,false)
def yd:bf D:=⟨7,nW×Bool,Qc2,hU,λ_=>[.ptr 0 0],λy=>Un y.1,λ_=>.tuple [.ptr 3 0,.num .i64 0],Qlb,3,18⟩
def Qle (y:nW):Prop:=vc [N6] Tryz.f7 yd (λ_=>cX ()) (y,true)
def Qlf (y:nW):Prop:=vc [N6] Tryz.f7 yd (λ_=>cX ()) (y,false)
def Ρ:bf D:=bZ 7 Unit (λa _=>match a with
 | [p]=>match p with
  | .fD=>.ret ()
  | _=>.fail
 | _=>.fail) (λ_=>True) (λ_=>[.fD]) λ_=>.tuple [.fD,.num .i64 1]
def tO (x:fP):fP:={ x with threads:=[] }
def N7:bf D:=bZ 26 (List fP) (λa s=>match a with
 | [l]=>av (rowsOf D s 2 l) λl=>.ret (l:List fP)
 | _=>.fail) (λy=>y.length<=1000) (λy=>[.list 2 y]) λy=>.list 2 (List.map tO y)
def QsL (y:N7.Y):cH D:=⟨[],[],[(58,⟨Nat,[6,7],λk=>[(3,.grow 2 (List.map tO (List.take k (y:List fP))) 0),(8,Qu9 k)],[],λ_=>[(0,.tok 2 158)],1,λk=>k<=List.length (y:List fP),λk=>List.length (y:List fP) -k⟩)],[],1,[]⟩
def Vd:bf D:=⟨27,gO,λa s=>match a with
 | [p]=>ED p s
 | _=>.fail,λy=>uv y.d/\Et y.v.L,λ_=>[.ptr 0 0],Gc 0 5 6,λy=>.agg (sK y),Gc 0 5 6,7,7⟩
def QfP:List (AV D.E):=[.cF,.num .i64 0,.cF]
def Ve:bf D:=bZ 27 Unit (λa _=>match a with
 | [p]=>match p with
  | .fD=>.ret ()
  | _=>.fail
 | _=>.fail) (λ_=>True) (λ_=>[.fD]) λ_=>.agg QfP
structure Τ where
 pos:Int
 line:Int
 aE:Bool
 XH:Bool
 event:Int
 size:Int
 ends:List fP
def Υ (y:Τ) (cur alt ba:List (AV D.E)):AV D.E:=.agg ([.int .i64 y.pos,.int .i64 y.line,.bool y.aE,.bool y.XH,.int .i64 y.event,.int .i64 y.size,.list 2 y.ends]++cur++alt++ba)
def scQ (s:gO):Prop:=uv s.d/\Et s.v.L
def Χ (f:aJ) (y:aA):Prop:=scQ y.alt/\scQ y.ba/\(sfO f->scQ y.cur/\y.ends.length<=1000)
def Lp:bf D:=⟨13,aA,AZ .c,Χ .c,λ_=>[.ptr 3 0],fc .c 4,λy=>Υ ⟨y.pos,y.line,y.aE,false,0,0,[]⟩ QfP (sK y.alt) (sK y.ba),fc .c 4,25,25⟩
def Lq:bf D:=⟨13,aA,AZ .o,Χ .o,λ_=>[.ptr 3 0],fc .o 4,λy=>Υ ⟨y.pos,y.line,y.aE,true,y.event,y.size,y.ends.map tO⟩ (sK y.cur) (sK y.alt) (sK y.ba),fc .o 4,25,25⟩
structure N8 where
 ru:nW
 st:Τ
 cur:gO
 alt:gO
 ba:gO
def IT (h p l:AV D.E) (s:St D.E):C gO:=av (rowsOf D s 0 h) λ_=>aI (cT p) λ_ p=>av (rowsOf D s 2 l) λl=>.ret ⟨L2,⟨⟨[],[]⟩,p,l,⟨[],i_⟩⟩⟩
def ye (y:N8):Int:=if y.st.XH=true then y.st.event else y.st.line
def QfQ (h:By) (s:gO):List (AV D.E):=[.list 0 h,.int .i64 s.v.place,.list 2 s.v.L]
def Qaa:bf D:=⟨14,(N8×By×By×By),λa s=>match a with
 | [r,x]=>av (Qfi r s) λr=>av (asAgg x) λcs=>match cs with
  | [p,l,g,o,e,z,n,h1,p1,h,b,p2,i,f,p3,j]=>aI (cT p) λ_ p=>aI (cT l) λ_ l=>aI (yR g) λg _=>aI (yR o) λo _=>aI (cT e) λ_ e=>aI (cT z) λ_ z=>av (rowsOf D s 2 n) λn=>av (IT h1 p1 h s) λc=>av (IT b p2 i s) λa=>av (IT f p3 j s) λd=>av (rowsOf D s 0 h1) λh1=>av (rowsOf D s 0 b) λb=>av (rowsOf D s 0 f) λf=>.ret (⟨r,⟨p,l,g,o,e,z,n⟩,c,a,d⟩,(h1:By),(b:By),(f:By))
  | _=>.fail
 | _=>.fail,λy=>hU (y.1.ru,true),λy=>[.ptr 0 0,Υ y.1.st (QfQ y.2.1 y.1.cur) (QfQ y.2.2.1 y.1.alt) (QfQ y.2.2.2 y.1.ba)],λy=>Un y.1.ru,λy=>.tuple [Υ ⟨ye y.1,ye y.1,false,false,0,0,[]⟩ QfP (sK (bM y.1.ru.p)) (sK (bM y.1.ru.q)),.num .i64 0],λy=>Un y.1.ru,3,3⟩
def IU (y:nW):Prop:=let a:=!(seq y.s.c []);Iv (Qfk y)/\cM y (Iv (Qfl y)/\cM y (Iv (qV y.p)/\aa [y.p.code] (aa [y.p.ah] (ag a (Iv (qV y.q)/\aa [y.q.code] (aa [y.q.ah] (c_ y (a=Lh aJ.c/\aa ([0,0]:List Int) (false=false/\aT (bM y.q) (aT (bM y.p) (cM y (True)))))))) (c_ y (a=Lh aJ.c/\aa ([0,0]:List Int) (false=false/\False)))))))
def Vf:∀y,IU y=Qlc y:=λy=>by kernel_rfl
def IV (y:nW):Prop:=let a:=!(seq y.s.c []);Iv (Qfk y)/\cM y (Iv (Qfl y)/\cM y (Iv (qV y.p)/\aa [y.p.code] (aa [y.p.ah] (ag a (Iv (qV y.q)/\aa [y.q.code] (aa [y.q.ah] (c_ y (a=Lh aJ.n/\aa ([0,0]:List Int) (false=false/\False))))) (c_ y (a=Lh aJ.n/\aa ([0,0]:List Int) (false=false/\aT (bM y.p) (cM y (True)))))))))
def Vg:∀y,IV y=Qld y:=λy=>by kernel_rfl
def IW (y:nW):Prop:=ag (rp y) (Iv (hU (y,true))/\dD y (aa ([0,0]:List Int) (false=false/\aT (bM y.q) (aT (bM y.p) (cM y (True)))))) (Iv (hU (y,false))/\dD y (False))
def Vh:∀y,IW y=Qle y:=λy=>by kernel_rfl
def IX (y:nW):Prop:=ag (rp y) (Iv (hU (y,true))/\dD y (False)) (Iv (hU (y,false))/\dD y (aa ([0,0]:List Int) (false=false/\aT (bM y.p) (cM y (True)))))
def Vi:∀y,IX y=Qlf y:=λy=>by kernel_rfl
def Qc3 (y:Unit):Prop:=
 True
def Qc4 (y:List fP):Prop:=(∃z:Nat,aa [y] (aa [ab y] ([]=List.map tO (List.take z y)/\0=(z:Int)/\(Iv (z<=y.length)))))/\(∀x:Nat,let b:=y.length;let c:=List.map tO (List.take x y);let d:=ax (x:Int) (ab y);let a:=gt (fP.mk false 0 0 0 0 0 0 0 0 0 0 []) y (x:Int).toNat;let e:=aZ c [fP.mk a.done a.c0 a.c1 a.c2 a.c3 a.c4 a.c5 a.c6 a.c7 a.c8 a.c9 []];(Iv (x<=b))->ag d (aC 0 (x:Int)/\d/\fits (ab e) 112/\∃z:Nat,aa [y] (aa [ab y] (e=List.map tO (List.take z y)/\an .i64 (x:Int) 1=(z:Int)/\(Iv (z<=b/\(b-z)<(b-x)))))) (c=List.map tO y/\True))
def Qc5 (y:gO):Prop:=Iv (uv y.d/\Et y.v.L)/\aT y (aa [ec y.d] (aa [y.v.place] (aa [y.v.L] (ik y (True)))))
def Qc6 (y:Unit):Prop:=
 True
def Vj (y:aA):Prop:=Iv (0<=1000)/\aa ([[]]:List (List fP)) (Iv True/\Iv (uv y.alt.d/\Et y.alt.v.L)/\aT y.alt (Iv (uv y.ba.d/\Et y.ba.v.L)/\aT y.ba (aa [y.pos,y.pos,y.pos,y.pos,y.pos,y.line,y.line,y.line,y.line,y.line] (aa [y.aE,y.aE,y.aE,y.aE,y.aE] (l9 y (false=false/\aa ([0,0]:List Int) (List.map tO []=[]/\aa [ec y.alt.d] (aa [y.alt.v.place] (aa [y.alt.v.L] (aa [ec y.ba.d] (aa [y.ba.v.place] (aa [y.ba.v.L] (dD y.ru (l9 y (ik y.alt (ik y.ba (True)))))))))))))))))
def Vl (y:aA):Prop:=let a:=List.map tO y.ends;Iv (y.ends.length<=1000)/\aa [y.ends] (Iv (uv y.cur.d/\Et y.cur.v.L)/\aT y.cur (Iv (uv y.alt.d/\Et y.alt.v.L)/\aT y.alt (Iv (uv y.ba.d/\Et y.ba.v.L)/\aT y.ba (aa [y.pos,y.pos,y.pos,y.pos,y.pos,y.line,y.line,y.line,y.line,y.line] (aa [y.aE,y.aE,y.aE,y.aE,y.aE] (aa [y.event,y.event,y.event,y.event,y.event,y.size,y.size,y.size,y.size,y.size] (aa [y.ends] (l9 y (Tt 1 (aa [y.event,y.size] (aa [a] (aa [ec y.cur.d] (aa [y.cur.v.place] (aa [y.cur.v.L] (aa [ec y.alt.d] (aa [y.alt.v.place] (aa [y.alt.v.L] (aa [ec y.ba.d] (aa [y.ba.v.place] (aa [y.ba.v.L] (dD y.ru (oH y (ik y.alt (ik y.ba (ik y.cur (True))))))))))))))))))))))))))
def Qc7 (y:N8×(List UInt8)×(List UInt8)×(List UInt8)):Prop:=let a:=bM y.1.ru.p;let b:=bM y.1.ru.q;let e:Prop:=(false=false/\false=false/\aa ([0,0]:List Int) (aa ([[]]:List (List fP)) (aa [ec a.d] (aa [a.v.place] (aa [a.v.L] (aa [ec b.d] (aa [b.v.place] (aa [b.v.L] (cM y.1.ru (True))))))))));ag (rp y.1.ru) (Iv (hU (y.1.ru,true))/\cM y.1.ru (Iv (Χ aJ.c (aA.mk y.1.ru 0 0 0 0 false [] a b gM))/\c_ y.1.ru (aa ([0,0]:List Int) (false=false/\aT b (aT a (cM y.1.ru (ag y.1.st.XH (y.1.st.event=ye y.1/\y.1.st.event=ye y.1/\e) (y.1.st.line=ye y.1/\y.1.st.line=ye y.1/\e)))))))) (Iv (hU (y.1.ru,false))/\cM y.1.ru (False))
def Qlj (y:nW) (e:hU (y,true)):IU y:=by
 obtain⟨h1,b,d,a⟩:=e;have a:true=!(seq y.s.c []):=a;unfold IU;simp only[dq,cD,<-a,ZaX];exact⟨h1.pg,b,h1,⟨d a.symm,rfl⟩,nofun⟩
def Qlk (y:nW) (d:hU (y,false)):IV y:=by
 obtain⟨h1,b,e,a⟩:=d;have a:false=!(seq y.s.c []):=a;unfold IV;simp only[dq,cD,<-a,ZaX];exact⟨h1.pg,b,h1,nofun,rfl⟩
def Qll (a:Ok dc):Ok N6:=uR (k:=N6) id id (λ_=>rfl) Vf Vg ⟨Qky,Qkz,QkD a⟩ Qlj Qlk
theorem Qlm (y:nW) (b:hU (y,true)):IW y:=by
 have a:true=rp y:=b.2.2.2;unfold IW;simp only[dq,cD,<-a,ZaX];grind
theorem Qln (y:nW) (b:hU (y,false)):IX y:=by
 have a:false=rp y:=b.2.2.2;unfold IX;simp only[dq,cD,<-a,ZaX];grind
def IY (a:Ok dc):Ok yd:=uR (k:=yd) id id (λ_=>rfl) Vh Vi (Qll a) Qlm Qln
def Qlo:Ok Ρ:=okZ (V:=Qc3) [] Tryz.f7 (λ_=>cX ()) trivial λy _=>by assumption
theorem Qc8:Ok N7:=okZ (V:=Qc4) [] Tryz.f26 QsL trivial λ(y:List fP) a=>by
 have a:y.length<=1000:=a;unfold Qc4;simp only[Qbt,db,dP,gf,gG,aj,Zad,aU,aO];refine⟨⟨0,rfl,rfl,Zaj _⟩,λx b=>⟨λk=>?_,λk=>?_⟩⟩
 ·grind [tO,List.take_append_getElem]
 ·grind
def Qc9:Ok Vd:=okZ (V:=Qc5) [ψ] Tryz.f27 (λ_=>cX ()) QkE λ(y:gO) a=>by
 unfold Qc5;simp only[cG,cD,Zai,db];exact a
def Qda:Ok Ve:=okZ (V:=Qc6) [] Tryz.f27 (λ_=>cX ()) trivial λy _=>by assumption
def QfR:Ok Lp:=okZ (V:=Vj) [N7,Vd,Ve] Tryz.f13 (λ_=>cX ()) ⟨Qc8,Qc9,Qda⟩ λ(y:aA) a=>by
 unfold Vj;simp only[cG,cD,cb,Zai,Zal,db];exact⟨Zaj _,a.1,a.2.1,rfl⟩
def QfS:Ok Lq:=okZ (V:=Vl) [N7,Vd,Ve] Tryz.f13 (λ_=>cX ()) ⟨Qc8,Qc9,Qda⟩ λ(y:aA) d=>by
 obtain⟨h1,b,a⟩:=d;obtain⟨a,c⟩:=a rfl;unfold Vl;simp only[Qbt,cD,cb,cm,db];exact⟨c,a,h1,b⟩
def Vn {p:jW} (h:qV p):scQ (bM p):=by
 rw[show bM p=_ from aq _];refine⟨⟨ZaQ _,by show(0:Int)<=4;omega⟩,?_,λx a=>?_⟩
 ·show(rE++(p.ah.take p.ah.length).map iS).length<=1000
  have:=h.2.1;simp[rE];omega
 ·have hl:x∈(p.ah.take p.ah.length).map iS:=a;obtain⟨s,_,rfl⟩:=ZcL.1 hl;show 1<=1000000
  omega
theorem Qlp (c:Ok dc):Ok Qaa:=okZ (V:=Qc7) [yd,Lp] Tryz.f14 (λ_=>cX ()) ⟨IY c,QfR⟩ λ(y:N8×By×By×By) a=>by
 have a:hU (y.1.ru,true):=a;have b:true=rp y.1.ru:=a.2.2.2;unfold Qc7;simp only[dq,cD,<-b,ZaX];refine⟨⟨a,⟨Vn a.1,Vn (a.2.2.1 b.symm),nofun⟩,λk=>?_,λk=>?_⟩,nofun⟩
 ·grind [ye]
 ·grind [ye]
def IZ (y:b7):Prop:=let c:=ab y.r;Iv True/\(∃z:Cs,aa [y.r] (aa [c] ([]=z.o/\0=((z.i:Nat):Int)/\0=ab z.t/\[]=z.t/\(Iv (ya y z)))))/\(∀x:Cs,let b:=((x.i:Nat):Int);let a:=gt (lC.mk [] []) y.r b.toNat;let g:=!(!(jP x.t a.name));let d:=(bT a.text).1;let e:=rj x.t a.name b;let h:=!(az (bT a.text).2.1 0);let f:=aZ x.o [lk (aN d)];(Iv (ya y x))->ag (ax b c) (aC 0 b/\ax b c/\Iv True/\aa [a.name] (ag (!(iV a.name)) ([]=(aW y).out/\False) (Iv (TbP (W3.mk x.t a.name b))/\aa [a.name] (aa [b,ab x.t] (aa [x.t] (ag g ([]=(aW y).out/\False) (Iv True/\aa [a.text] (ag h ([]=(aW y).out/\False) (Iv (ov d)/\aa [d] (fits (ab f) 24/\∃z:Cs,aa [y.r] (aa [c] (f=z.o/\an .i64 b 1=((z.i:Nat):Int)/\ab e=ab z.t/\e=z.t/\(Iv (ya y z/\(y.r.length-z.i)<(y.r.length-x.i))))))))))))))) (x.o=(aW y).out/\aa ([0,0]:List Int) (ab x.t=ab (aW y).tab/\x.t=(aW y).tab/\True)))
def Vo:∀y,IZ y=Qkr y:=λy=>by kernel_rfl
def I0 (y:b7):Prop:=let c:=ab y.r;Iv True/\(∃z:Cs,aa [y.r] (aa [c] ([]=z.o/\0=((z.i:Nat):Int)/\0=ab z.t/\[]=z.t/\(Iv (ya y z)))))/\(∀x:Cs,let a:=((x.i:Nat):Int);let b:=gt (lC.mk [] []) y.r a.toNat;let h:=!(!(jP x.t b.name));let d:=(bT b.text).1;let e:=rj x.t b.name a;let f:=(bT b.text).2.1;let g:=aZ x.o [lk (aN d)];(Iv (ya y x))->ag (ax a c) (aC 0 a/\ax a c/\Iv True/\aa [b.name] (ag (!(iV b.name)) (14=(aW y).err/\a=(aW y).at_/\True) (Iv (TbP (W3.mk x.t b.name a))/\aa [b.name] (aa [a,ab x.t] (aa [x.t] (ag h (8=(aW y).err/\a=(aW y).at_/\True) (Iv True/\aa [b.text] (ag (!(az f 0)) (f=(aW y).err/\a=(aW y).at_/\True) (Iv (ov d)/\aa [d] (fits (ab g) 24/\∃z:Cs,aa [y.r] (aa [c] (g=z.o/\an .i64 a 1=((z.i:Nat):Int)/\ab e=ab z.t/\e=z.t/\(Iv (ya y z/\(y.r.length-z.i)<(y.r.length-x.i))))))))))))))) (False))
def Vp:∀y,I0 y=Qks y:=λy=>by kernel_rfl
def I9 (y:b7):Prop:=let a:=Ct y;let d:=bI (aW y).out;let l:=ab (aW y).tab;let q:=!(az (aW y).err 0);let b:=([lk (aN a)]:List (List Nd));let m:=!(az (bT y.c).2.1 0);let n:=!(az (bI b).2.1 0);let j:=λp:Prop=>aa ([0,0]:List Int) (aa [y.r] (aa [y.c] p));let k:=λp:Prop=>aa [y.r] (aa [y.c] p);let o:=λp:Prop=>aa [(aW y).out] (aa ([0]:List Int) p);let e:Prop:=(aa [l] (aa [(aW y).tab] (True)));let f:Prop:=([]=(bL y).cc/\[]=(bL y).cs/\e);let g:Prop:=(aa [y.r] (aa [y.c] (aa ([[]]:List (List Ins)) (aa ([[]]:List (List Int)) (aa ([[]]:List (List Ins)) (aa ([[]]:List (List Int)) (False)))))));let h:Prop:=((bI b).1.1=(bL y).cc/\(bI b).1.2=(bL y).cs/\e);let i:Prop:=(aa [y.r] (aa [y.c] (aa ([[]]:List (List Ins)) (aa ([[]]:List (List Int)) (aa ([[]]:List (List Ins)) (aa ([[]]:List (List Int)) (aa [l] (aa [(aW y).tab] (aa [y.r] (aa [y.c] ((Iv ((Ne (y,true).1.c [])->(bT y.c).2.1=0)))))))))))));ag (ax 8 (ab y.r)) (False) (ag (x_ y) (Iv (Um (y,true))/\k (ag (!(az 0 0)) (False) (Iv (y.r.length<=1000)/\k ((ag (!(seq y.c [])) (Iv True/\aa [y.c] (ag m (aa [y.r] (False)) (∃z:Unit,o ((bT y.c).1=a/\i)))) (∃z:Unit,o ([]=a/\i)))/\(∀x:Unit,(Iv ((Ne (y,true).1.c [])->(bT y.c).2.1=0))->Iv (px (aW y).out)/\aa [(aW y).out] (ag (!(az d.2.1 0)) (False) (ag (!(seq y.c [])) (Iv (ov a)/\aa [a] (Iv (px b)/\aa [b] (ag n (aa [y.r] (False)) (j (d.1.1=(bL y).code/\d.1.2=(bL y).st/\h))))) (j (d.1.1=(bL y).code/\d.1.2=(bL y).st/\f))))))))) (Iv (Um (y,false))/\k (ag q (False) (Iv (y.r.length<=1000)/\k ((ag (!(seq y.c [])) (Iv True/\aa [y.c] (ag m (aa [y.r] (False)) (∃z:Unit,aa [(aW y).at_] ((bT y.c).1=a/\g)))) (∃z:Unit,aa [(aW y).at_] ([]=a/\g)))/\(∀x:Unit,(Iv ((Ne (y,true).1.c [])->(bT y.c).2.1=0))->Iv (px [])/\aa ([[]]:List (List (List Nd))) (ag (!(az (bI []).2.1 0)) (False) (ag (!(seq y.c [])) (Iv (ov a)/\aa [a] (Iv (px b)/\aa [b] (ag n (aa [y.r] (False)) (j ((bI []).1.1=(bL y).code/\(bI []).1.2=(bL y).st/\h))))) (j ((bI []).1.1=(bL y).code/\(bI []).1.2=(bL y).st/\f))))))))))
def Vq:∀y,I9 y=Qkv y:=λy=>by kernel_rfl
def I' (y:b7):Prop:=let a:=Ct y;let l:=ab (aW y).tab;let m:=!(az (aW y).err 0);let b:=(bT y.c).2.1;let g:=([lk (aN a)]:List (List Nd));let i:=(bI (aW y).out).2;let n:=!(az (bI g).2.1 0);let h:=λp:Prop=>aa [y.r] (aa [y.c] p);let k:=λp:Prop=>aa [(aW y).out] (aa ([0]:List Int) p);let j:Prop:=(ab y.r=(bL y).at_/\True);let d:Prop:=(aa [y.r] (aa [y.c] (aa ([[]]:List (List Ins)) (aa ([[]]:List (List Int)) (aa ([[]]:List (List Ins)) (aa ([[]]:List (List Int)) (False)))))));let e:Prop:=(aa [y.r] (aa [y.c] (aa ([[]]:List (List Ins)) (aa ([[]]:List (List Int)) (aa ([[]]:List (List Ins)) (aa ([[]]:List (List Int)) (aa [l] (aa [(aW y).tab] (aa [y.r] (aa [y.c] ((Iv ((Ne (y,false).1.c [])->b=0)))))))))))));let f:Prop:=(ag (!(seq y.c [])) (Iv (ov a)/\aa [a] (Iv (px g)/\aa [g] (ag n (aa [y.r] ((bI g).2.1=(bL y).err/\j)) (False)))) (False));ag (ax 8 (ab y.r)) (13=(bL y).err/\8=(bL y).at_/\True) (ag (x_ y) (Iv (Um (y,true))/\h (ag (!(az 0 0)) (0=(bL y).err/\0=(bL y).at_/\True) (Iv (y.r.length<=1000)/\h ((ag (!(seq y.c [])) (Iv True/\aa [y.c] (ag (!(az b 0)) (aa [y.r] (b=(bL y).err/\j)) (∃z:Unit,k ((bT y.c).1=a/\e)))) (∃z:Unit,k ([]=a/\e)))/\(∀x:Unit,(Iv ((Ne (y,false).1.c [])->b=0))->Iv (px (aW y).out)/\aa [(aW y).out] (ag (!(az i.1 0)) (i.1=(bL y).err/\i.2=(bL y).at_/\True) (f))))))) (Iv (Um (y,false))/\h (ag m ((aW y).err=(bL y).err/\(aW y).at_=(bL y).at_/\True) (Iv (y.r.length<=1000)/\h ((ag (!(seq y.c [])) (Iv True/\aa [y.c] (ag (!(az b 0)) (aa [y.r] (b=(bL y).err/\j)) (∃z:Unit,aa [(aW y).at_] ((bT y.c).1=a/\d)))) (∃z:Unit,aa [(aW y).at_] ([]=a/\d)))/\(∀x:Unit,(Iv ((Ne (y,false).1.c [])->b=0))->Iv (px [])/\aa ([[]]:List (List (List Nd))) (ag (!(az (bI []).2.1 0)) ((bI []).2.1=(bL y).err/\(bI []).2.2=(bL y).at_/\True) (f))))))))
def Vr:∀y,I' y=Qkw y:=λy=>by kernel_rfl
end
end sx
namespace sx
open Go Go.RowKit cls syn
set_option maxRecDepth 100000
set_option maxHeartbeats 4000000
section
variable {G:List Gt} {alt:Ps->Ps×List Nd}
variable {l:List Nd} {c:List (List Nd)}
theorem eU:cn []:=λx a=>nomatch a
theorem Lr {x:Nd} (h:iK x) (hl:cn l):cn (x::l):=λy a=>by
 rcases List.mem_cons.mp a with h1 | h1
 ·grind
 ·exact hl y h1
def yf {op:Int} (hl:cn l) (mn mx:Int) (lz:Bool) (cap kids:Int):cn (⟨op,[],mn,mx,lz,cap,kids⟩::l):=Lr (Zaj _) hl
def sN (l:List Rg) (h:l.length<=1000000):cn [xb l]:=Lr h eU
theorem Qag (s:Ps):(dZ G s).2.1.length<=1000000:=by
 grind [dZ,Ab]
def QfT (s:Ps):cn (r8 G s).2:=by
 unfold r8;simp only;split
 ·exact eU
 ·split
  ·exact eU
  ·split
   ·exact eU
   ·refine sN _ ?_;split<;>exact kV _
def Vs (A:∀s,cn (alt s).2) (s:Ps):cn (iC G alt s).2:=by
  unfold iC;simp only;generalize aQ G s.next 63=free;cases free<;>simp only[Zbv,Za0,ZaE]
  all_goals
    split
    · exact eU
    · split
      · exact eU
      · first
          | (split
             · exact eU
             · split
               · exact eU
               · first | exact A _ | exact yf (A _) _ _ _ _ _)
          | (split
             · exact eU
             · first | exact A _ | exact yf (A _) _ _ _ _ _)
theorem Qah (A:∀s,cn (alt s).2) (s:Ps):cn (iZ G alt s).2:=by
 unfold iZ;simp only;split
 ·exact eU
 ·split
  ·exact Vs A s
  ·split
   ·exact QfT s
   ·split
    ·exact sN _ (Qag s)
    ·split
     ·exact sN _ (kV _)
     ·split
      ·exact yf eU _ _ _ _ _
      ·split
       ·exact yf eU _ _ _ _ _
       ·split
        ·exact eU
        ·exact sN _ (kV _)
theorem Qai (s:Ps) (mn mx:Int) (h:cn l):cn (nG G s mn mx l).2:=by
 unfold nG;split
 ·exact eU
 ·exact yf h _ _ _ _ _
theorem QfU (A:∀s,cn (alt s).2) (s:Ps):cn (ft G alt s).2:=by
 grind [Qah,ft,eU,Qai]
theorem Ls (op:Int) (h:∀l∈c,cn l):cn (bK op c):=by
 match c,h with
 | [],_=>exact yf eU _ _ _ _ _
 | [x],h=>exact h x (by simp)
 | a::b::c,h=>
  refine yf (λx d=>?_) _ _ _ _ _;obtain⟨l,hl,d⟩:=List.mem_flatten.mp d;exact h l hl x d
theorem CB (h:∀x∈c,cn x) (b:cn l):∀x∈c++[l],cn x:=λx hl=>by
 grind
theorem Fz (A:∀s,cn (alt s).2):∀(n:Nat) (s:Ps) (a:List (List Nd)),(∀l∈a,cn l)->∀l∈(eI G alt n s a).2,cn l
 | 0,s,a,h=>h
 | n+1,s,a,h=>by
  rw[eI];split
  ·exact Fz A n _ _ (CB h (QfU A s))
  ·exact h
def Vt (A:∀s,cn (alt s).2) (s:Ps):cn (mJ G alt s).2:=Ls 3 (Fz A _ _ _ λl hl=>nomatch hl)
theorem FA (A:∀s,cn (alt s).2):∀(n:Nat) (s:Ps) (a:List (List Nd)),(∀l∈a,cn l)->∀l∈(ga G alt n s a).2,cn l
 | 0,s,a,h=>h
 | n+1,s,a,h=>by
  rw[ga];split
  ·exact FA A n _ _ (CB h (Vt A s.next))
  ·exact h
theorem I_:∀(n:Nat) (s:Ps),cn (qP G n s).2
 | 0,s=>eU
 | n+1,s=>Ls 4 (FA (I_ n) _ _ _ λl hl=>by rw[List.mem_singleton.mp hl];exact Vt (I_ n) s)
end
variable {l:List Row} {k:By}
theorem ln (y:By):cn (bT y).1:=by
 grind [bT,eU,xc,I_]
theorem Lt (v:Int) (h:jP l k=false):rj l k v=l.take (lF l k)++⟨k,v⟩::l.drop (lF l k):=by
 grind [rj]
theorem QfV {j:Nat} (h:j<lF l k) (a:j<l.length):(l[j]).k<k:=by
 have:=ZdK h;grind
theorem Vu (d:Cp l) (f:jP l k=false) {j:Nat} (h:lF l k<=j) (c:j<l.length):k<(l[j]).k:=by
 have b:∀i (hi:i<l.length),(l[i]).k≠k:=λi hi e=>by
  grind [jP]
 have a:lF l k<l.length:=Nat.lt_of_le_of_lt h c;have h0:¬(l[lF l k]).k<k:=by
  have:=ZcC (w:=a);simp only[Zan,Zbi] at this;exact this
 have h1:k<(l[lF l k]).k:=Std.lt_of_le_of_ne (List.not_lt.mp h0) λe=>b _ a e.symm
 rcases Zbm (lF l k) j with e | e
 ·exact Zdk h1 (List.pairwise_iff_getElem.mp d _ _ a c e)
 ·grind
theorem Vv {v:Int} (c:Cp l) (g:jP l k=false):Cp (rj l k v)/\(rj l k v).length=l.length+1:=by
 rw[Lt v g];constructor
 ·unfold Cp;rw[ZbC];refine⟨ZdS (List.take_sublist _ _) c,List.pairwise_cons.mpr ⟨λb f=>?_,ZdS (List.drop_sublist _ _) c⟩,λa d b f=>?_⟩
  ·grind [List.getElem_of_mem,Vu]
  ·obtain⟨i,hi,e⟩:=Za3 d;rw[Zar] at hi;rw[ZcP] at e;have h1:a.k<k:=by grind [QfV]
   grind [List.getElem_of_mem,List.lt_trans,Vu]
 ·grind
theorem Lu:∀(l:List lC) (i:Nat) (t:List Row) (o:List (List Nd)),(lg l i t o).err=0->(lg l i t o).at_=0
 | [],i,t,o,_=>rfl
 | x::l,i,t,o,h=>by
  rw[lg] at h ⊢;split
  ·grind
  ·rename_i h1
   rw[Zaa h1] at h;split
   ·grind
   ·rename_i a
    rw[Zaa a] at h;split
    ·grind
    ·rename_i b
     rw[Zaa b] at h;exact Lu l _ _ _ h
theorem yg {y:b7} {x:Cs} (h:ya y x) (b:x.i<y.r.length):
  (iV (y.r.getD x.i ⟨[],[]⟩).name=false->(aW y).err=14/\(aW y).at_=x.i)/\
  (iV (y.r.getD x.i ⟨[],[]⟩).name->jP x.t (y.r.getD x.i ⟨[],[]⟩).name->(aW y).err=8/\(aW y).at_=x.i)/\
  (iV (y.r.getD x.i ⟨[],[]⟩).name->jP x.t (y.r.getD x.i ⟨[],[]⟩).name=false->((bT (y.r.getD x.i ⟨[],[]⟩).text).2.1≠0->(aW y).err=(bT (y.r.getD x.i ⟨[],[]⟩).text).2.1/\(aW y).at_=x.i)/\
   ((bT (y.r.getD x.i ⟨[],[]⟩).text).2.1=0->ya y ⟨rj x.t (y.r.getD x.i ⟨[],[]⟩).name x.i,x.o++[aN (bT (y.r.getD x.i ⟨[],[]⟩).text).1],x.i+1⟩)):=by
 obtain⟨h1,d,j,f,a⟩:=h;rw[Zaq b,lg] at a;rw[bk b];generalize y.r[x.i]=p at*
 refine⟨λe=>?_,λc e=>?_,λc e2=>⟨λe=>?_,λe=>?_⟩⟩
 ·grind
 ·grind
 ·grind
 ·rw[Zaa (by grind),Zaa (by grind),Zaa ω] at a;obtain⟨g,k⟩:=Vv (v:=(x.i:Int)) d e2;exact⟨b,g,by grind,by simp[f],a⟩
theorem Qlq (y:b7) (b:Bool) (t:Fi.pre (y,b)):(b->IZ y)/\(b=false->I0 y):=by
 obtain⟨hl,g⟩:y.r.length<=8/\b=x_ y:=t;have m:(x_ y↔(aW y).err=0):=by grind [x_]
 have hz:ya y ⟨[],[],0⟩:=⟨Zaj _,List.Pairwise.nil,Zah _,rfl,by grind [aW,aq]⟩;have s:(aW y).err=0->(aW y).at_=0:=by grind [aW,aq,Lu]
 have l:∀n,gt (lC.mk [] []) y.r n=y.r.getD n ⟨[],[]⟩:=λ_=>rfl
 constructor
 ·intro p;rw[p] at g;have h0:=m.mp g.symm;unfold IZ;simp only[QaU,dq,aj,l,aU,Zad,aO,Zan,Zao,aq];refine⟨⟨⟨[],[],0⟩,rfl,rfl,rfl,rfl,hz⟩,λx c=>⟨λe=>?_,λe=>?_⟩⟩
  ·have f:x.i<y.r.length:=ω;obtain⟨j,k,s3⟩:=yg c f;obtain⟨i1,i2,i3,i4,i5⟩:=c;refine⟨ω,e,λq=>?_,λq=>⟨⟨i2,by grind⟩,λa=>?_,λa=>⟨λd=>?_,λd=>⟨ln _,?_,_,rfl,bz ω,rfl,rfl,(s3 q a).2 d,by grind⟩⟩⟩⟩
   ·grind
   ·grind
   ·grind
   ·grind
  ·obtain⟨i1,i2,i3,i4,i5⟩:=c;grind [lg]
 ·intro o;rw[o] at g;have h0:(aW y).err≠0:=λh=>by grind
  unfold I0;simp only[QaU,dq,aj,l,aU,Zad,aO,Zan,Zao,aq];refine⟨⟨⟨[],[],0⟩,rfl,rfl,rfl,rfl,hz⟩,λx c=>⟨λe=>?_,λe=>?_⟩⟩
  ·have f:x.i<y.r.length:=ω;obtain⟨j,k,s3⟩:=yg c f;obtain⟨i1,i2,i3,i4,i5⟩:=c;refine⟨ω,e,λq=>⟨(j q).1.symm,(j q).2.symm⟩,λq=>⟨⟨i2,by grind⟩,λa=>⟨(k q a).1.symm,(k q a).2.symm⟩,λa=>⟨λd=>⟨((s3 q a).1 d).1.symm,((s3 q a).1 d).2.symm⟩,λd=>⟨ln _,?_,_,rfl,bz ω,rfl,rfl,(s3 q a).2 d,by grind⟩⟩⟩⟩;simp only[Zab,Zae,Zak];omega
  ·obtain⟨i1,i2,i3,i4,i5⟩:=c;have:x.i=y.r.length:=ω;rw[this,ZbH,lg] at i5;rw[<-i5] at h0;exact h0 rfl
def Qlr (hs:Ok IH) (b:Ok dc) (c:Ok xH):Ok Fi:=uR (k:=Fi) id id (λ_=>rfl) Vo Vp ⟨Qkn,Qkk,hs,Qcl b c,QcD b⟩ (λy a=>(Qlq y true a).1 rfl) λy a=>(Qlq y false a).2 rfl
theorem vQ {l:List Nd} (h:cn l):cn (aN l):=by
 unfold aN;split
 ·rename_i b
  obtain⟨t,h1,a,c⟩:=jl b;have e:bS l=(t,[]):=by grind [po]
  rw[e];exact(qe t (E4 t h1) (by rw[<-a];exact⟨Zah _,h⟩)).2.2
 ·exact eU
theorem vR:∀(l:List lC) (i:Nat) (t:List Row) (o:List (List Nd)),(∀x∈o,cn x)->(∀x∈(lg l i t o).out,cn x)/\(lg l i t o).out.length<=o.length+l.length
 | [],i,t,o,h=>⟨h,Zah _⟩
 | x::l,i,t,o,h=>by
  rw[lg];split
  ·grind
  ·split
   ·grind
   ·split
    ·grind
    ·obtain⟨h1,a⟩:=vR l (i+1) (rj t x.name i) (o++[aN (bT x.text).1]) (CB h (vQ (ln _)));grind
section
variable {y:b7} (h1:¬8<y.r.length)
include h1
theorem Vw (a:(aW y).err≠0):iP y=Lg (aW y).err (aW y).at_:=by grind [iP]
theorem Vx (a:(aW y).err=0) (b:y.c≠[]) (d:(bT y.c).2.1≠0):iP y=Lg (bT y.c).2.1 y.r.length:=by grind [iP]
variable (h2:(aW y).err=0) (h3:y.c≠[]->(bT y.c).2.1=0)
include h2 h3
theorem Vy (a:(bI (aW y).out).2.1≠0):iP y=Lg (bI (aW y).out).2.1 (bI (aW y).out).2.2:=by grind [iP]
variable (h4:(bI (aW y).out).2.1=0)
include h4
theorem Vz (a:y.c≠[]) (b:(bI [aN (bT y.c).1]).2.1≠0):iP y=Lg (bI [aN (bT y.c).1]).2.1 y.r.length:=by grind [iP]
theorem N9 (a:y.c≠[]) (b:(bI [aN (bT y.c).1]).2.1=0):iP y=⟨(bI (aW y).out).1.1,(bI (aW y).out).1.2,(bI [aN (bT y.c).1]).1.1,(bI [aN (bT y.c).1]).1.2,0,0⟩:=by grind [iP]
theorem VA (a:y.c=[]):iP y=⟨(bI (aW y).out).1.1,(bI (aW y).out).1.2,[],[],0,0⟩:=by grind [iP]
end
theorem Qls (y:b7) (b:Bool) (A:tL.pre (y,b)):(b->I9 y)/\(b=false->I' y):=by
 obtain⟨hl,C⟩:y.r.length<=1000/\b=l8 y:=A;have eS:bL y=iP y:=by grind [bL,aq]
 have n:y.c≠[]->Ct y=(bT y.c).1:=λh=>by grind [Ct,aq]
 have j:y.c=[]->Ct y=[]:=λh=>by grind [Ct,aq]
 have p:b↔(iP y).err=0:=by grind [l8]
 have m:(x_ y↔(aW y).err=0):=by grind [x_]
 have i:(x_ y=false↔(aW y).err≠0):=by grind
 have v:∀{s:By},seq s []=false↔s≠[]:=λ{s}=>by grind
 obtain⟨o1,D⟩:(∀x∈(aW y).out,cn x)/\(aW y).out.length<=y.r.length:=by
  grind [vR,aW,aq]
 have w:px (aW y).out:=⟨ω,o1⟩;have q:cn (Ct y):=by
  by_cases h:y.c=[]
  ·grind [eU]
  ·grind [ln]
 have u:px [aN (Ct y)]:=⟨by simp,λl hl=>by rw[List.mem_singleton.mp hl];exact vQ q⟩;have t:8<y.r.length->iP y=Lg 13 8:=λh=>by grind [iP]
 constructor
 ·intro z;have h0:=p.mp z;unfold I9;rw[eS];simp only[QaU,dq,aj,xn,v,Zan,Zao,aq,ZaY,ZaZ,m,i];refine⟨λo=>?_,λo=>⟨λd=>⟨⟨by grind,(m.mpr d).symm⟩,λh=>absurd rfl h,⟨hl,⟨λa=>⟨λf=>?_,λf=>⟨(n a).symm,λ_=>f⟩⟩,λa=>⟨(j a).symm,λh=>absurd a h⟩⟩,λk=>⟨w,λg=>?_,λg=>⟨λa=>⟨q,u,λe=>?_,λe=>?_⟩,λa=>?_⟩⟩⟩⟩,λd=>absurd ?_ d⟩⟩
  ·rw[t ω] at h0;cases h0
  ·rw[Vx ω d a f] at h0;exact f h0
  ·rw[Vy ω d k g] at h0;exact g h0
  ·rw[n a] at e;rw[Vz ω d k g a e] at h0;exact e h0
  ·grind [N9]
  ·grind [VA]
  ·refine Zch λh=>?_
   rw[Vw ω h] at h0;exact h h0
 ·intro B;have h0:(iP y).err≠0:=λh=>by grind
  unfold I';rw[eS];simp only[QaU,dq,aj,xn,v,Zan,Zao,aq,ZaY,ZaZ,m,i];refine⟨λo=>?_,λo=>⟨λd=>⟨⟨by grind,(m.mpr d).symm⟩,λh=>absurd rfl h,⟨hl,⟨λa=>⟨λf=>?_,λf=>⟨(n a).symm,λ_=>f⟩⟩,λa=>⟨(j a).symm,λh=>absurd a h⟩⟩,λk=>⟨w,λg=>?_,λg=>⟨λa=>⟨q,u,λe=>?_,λe=>?_⟩,λa=>?_⟩⟩⟩⟩,λd=>⟨⟨by grind,(i.mpr d).symm⟩,λ_=>?_,λh=>absurd h d⟩⟩⟩
  ·rw[t ω];exact⟨rfl,rfl⟩
  ·rw[Vx ω d a f];exact⟨rfl,rfl⟩
  ·rw[Vy ω d k g];exact⟨rfl,rfl⟩
  ·rw[n a] at e ⊢;rw[Vz ω d k g a e];exact⟨rfl,rfl⟩
  ·grind [N9]
  ·grind [VA]
  ·rw[Vw ω d];exact⟨rfl,rfl⟩
def Qlt (hs:Ok IH) (a:Ok dc) (c:Ok xH):Ok tL:=uR (k:=tL) id id (λ_=>rfl) Vq Vr ⟨Qlr hs a c,Qko,Qcl a c,Qkh a,QcD a⟩ (λy b=>(Qls y true b).1 rfl) λy b=>(Qls y false b).2 rfl
end sx
set_option maxRecDepth 100000
set_option maxHeartbeats 4000000
namespace sx
noncomputable section
open Go Go.RowKit cls syn
def Ja:bf D:=bZ 58 Tree (λa _=>uU a) dG (λy=>[.agg (D.aX 15 y)]) λy=>.list 7 (cW y)
def QsQ (t:Tree):Tree:=.mk t.op t.r t.mn t.mx t.lz t.cap t.kids.length t.kids
abbrev tbx (t:Tree):Nat×AO D.E:=(0,.cells (D.aX 15 t) 147 false)
def QsS (y:Ja.Y):cH D:=⟨[],[],[(122,⟨Nat,[],λx=>[(1,.ptr 0 0),(3,.grow 7 (ph y x) 1),(4,Qu9 x)],[],λ_=>[tbx (QsQ y),(1,.tok 7 131)],2,λx=>x<=y.kids.length,λx=>y.kids.length-x⟩)],[],1,[]⟩
def QsT (y:Ja.Y):Prop:=vc [Ja.under cZ (cZ y)] Tryz.f58 Ja QsS y
def vd (a b:Tree):Bool:=lk (decide (ay a=ay b))
def N':bf D:=bZ 152 (Tree×Tree) (λa _=>QjP a) (λy=>dG y.1/\dG y.2) (λy=>[.agg (D.aX 15 y.1),.agg (D.aX 15 y.2)]) λy=>.bool (vd y.1 y.2)
def FB (y:Tree×Tree) (i:Nat):Prop:=i<=(cW y.1).length/\(cW y.1).length=(cW y.2).length/\∀j,j<i->(cW y.1).getD j (nd 0)=(cW y.2).getD j (nd 0)
def N_ (y:Tree×Tree) (i k:Nat):Prop:=FB y i/\i<(cW y.1).length/\({ (cW y.1).getD i (nd 0) with r:=[] }={ (cW y.2).getD i (nd 0) with r:=[] }/\((cW y.1).getD i (nd 0)).r.length=((cW y.2).getD i (nd 0)).r.length)/\k<=((cW y.1).getD i (nd 0)).r.length/\∀j,j<k->((cW y.1).getD i (nd 0)).r.getD j (0,0)=((cW y.2).getD i (nd 0)).r.getD j (0,0)
def QsU (y:N'.Y):cH D:=⟨[],[],[(122,⟨Nat,[5,6],λi=>[(7,Qu9 i)],[],λ_=>[],0,FB y,λi=>(cW y.1).length-i⟩)],[],1,
 [(15654,⟨Nat,λi=>⟨Nat,[5,6,7],λx=>[(8,Qu9 x)],[],λ_=>[],0,N_ y i,λx=>((cW y.1).getD i (nd 0)).r.length-x⟩,none⟩)]⟩
def Jb:bf D:=bZ 125 Tree (λa _=>uU a) dG (λy=>[.agg (D.aX 15 y)]) λy=>.bool (fm y)
def QsW (y:Jb.Y):cH D:=⟨[],[],[(58,{ X:=Nat,aH:=[],sl:=λx=>[(1,.ptr 0 0),(3,Qu9 x)],kp:=[],pc:=λ_=>[tbx y],nx:=1,inv:=λx=>x<=y.kids.length/\∀j,j<x->fm (y.kids.getD j bn)=false,me:=λx=>y.kids.length-x })],[],1,[]⟩
def QsX (y:Jb.Y):Prop:=vc [Jb.under cZ (cZ y)] Tryz.f125 Jb QsW y
def VB (y:Tree):Prop:=let b:=y.kids;let c:=b.length;let e:=(c:Int);(∃z:Nat,([Nd.mk y.op y.r y.mn y.mx y.lz y.cap (ab b)]:List Nd)=ph y z/\0=(z:Int)/\aa [y.op] (aa [y.r] (aa [y.mn,y.mx] (aa [y.lz] (aa [y.cap] (ab b=e/\aa [b] ((Iv (z<=c)))))))))/\(∀x:Nat,let f:=ax (x:Int) (ab b);let a:=gt (Tree.mk 0 [] 0 0 false 0 0 []) b (x:Int).toNat;let d:=Tree.mk a.op a.r a.mn a.mx a.lz a.cap a.nk a.kids;let g:=aZ (ph y x) (cW d);(Iv (x<=c))->ag f (aC 0 (x:Int)/\f/\Iv (dG d/\cZ d<cZ y)/\aa [a.op] (aa [a.r] (aa [a.mn,a.mx] (aa [a.lz] (aa [a.cap,a.nk] (aa [a.kids] (fits (ab g) 72/\∃z:Nat,g=ph y z/\an .i64 (x:Int) 1=(z:Int)/\aa [y.op] (aa [y.r] (aa [y.mn,y.mx] (aa [y.lz] (aa [y.cap,e] (aa [b] ((Iv (z<=c/\(c-z)<(c-x)))))))))))))))) (ph y x=cW y/\True))
def Qaj:∀y,VB y=QsT y:=λy=>by kernel_rfl
def VC (y:Tree×Tree):Prop:=let t:=(cW y.1).length;let u:=Tree.mk y.2.op y.2.r y.2.mn y.2.mx y.2.lz y.2.cap y.2.nk y.2.kids;let v:=Tree.mk y.1.op y.1.r y.1.mn y.1.mx y.1.lz y.1.cap y.1.nk y.1.kids;let h:=cW v;let i:=cW u;let c:=ab h;let g:=ab i;Iv (dG v)/\aa [y.1.op] (aa [y.1.r] (aa [y.1.mn,y.1.mx] (aa [y.1.lz] (aa [y.1.cap,y.1.nk] (aa [y.1.kids] (Iv (dG u)/\aa [y.2.op] (aa [y.2.r] (aa [y.2.mn,y.2.mx] (aa [y.2.lz] (aa [y.2.cap,y.2.nk] (aa [y.2.kids] (aa [y.1.op] (aa [y.1.r] (aa [y.1.mn,y.1.mx] (aa [y.1.lz] (aa [y.1.cap,y.1.nk] (aa [y.1.kids] (aa [y.2.op] (aa [y.2.r] (aa [y.2.mn,y.2.mx] (aa [y.2.lz] (aa [y.2.cap,y.2.nk] (aa [y.2.kids] (aa [y.2.op] (aa [y.2.r] (aa [y.2.mn,y.2.mx] (aa [y.2.lz] (aa [y.2.cap,y.2.nk] (aa [y.2.kids] (ag (!(az c g)) (false=vd y.1 y.2/\True) ((∃z:Nat,aa [h,i] (0=(z:Int)/\(Iv (FB y z))))/\(∀x:Nat,let a:=gt (Nd.mk 0 [] 0 0 false 0 0) h (x:Int).toNat;let b:=gt (Nd.mk 0 [] 0 0 false 0 0) i (x:Int).toNat;let w:=!(az a.op b.op);let l:=!(sX a.lz b.lz);let m:=!(az a.kids b.kids);let n:=!(az a.cap b.cap);let o:=!(az a.mx b.mx);let p:=!(az a.mn b.mn);let q:=!(az (ab a.r) (ab b.r));(Iv (FB y x))->ag (ax (x:Int) c) (aC 0 (x:Int)/\ax (x:Int) c/\aC 0 (x:Int)/\ax (x:Int) g/\ag w (aa [a.op,b.op] (false=vd y.1 y.2/\True)) (aC 0 (x:Int)/\ax (x:Int) c/\aC 0 (x:Int)/\ax (x:Int) g/\ag p (aa [a.op,b.op,a.mn,b.mn] (false=vd y.1 y.2/\True)) (aC 0 (x:Int)/\ax (x:Int) c/\aC 0 (x:Int)/\ax (x:Int) g/\ag o (aa [a.op,b.op,a.mn,b.mn,a.mx,b.mx] (false=vd y.1 y.2/\True)) (aC 0 (x:Int)/\ax (x:Int) c/\aC 0 (x:Int)/\ax (x:Int) g/\ag l (aa [a.op,b.op,a.mn,b.mn,a.mx,b.mx] (aa [a.lz,b.lz] (false=vd y.1 y.2/\True))) (aC 0 (x:Int)/\ax (x:Int) c/\aC 0 (x:Int)/\ax (x:Int) g/\ag n (aa [a.op,b.op,a.mn,b.mn,a.mx,b.mx] (aa [a.lz,b.lz] (aa [a.cap,b.cap] (false=vd y.1 y.2/\True)))) (aC 0 (x:Int)/\ax (x:Int) c/\aC 0 (x:Int)/\ax (x:Int) g/\ag m (aa [a.op,b.op,a.mn,b.mn,a.mx,b.mx] (aa [a.lz,b.lz] (aa [a.cap,b.cap,a.kids,b.kids] (false=vd y.1 y.2/\True)))) (aC 0 (x:Int)/\ax (x:Int) c/\aC 0 (x:Int)/\ax (x:Int) g/\aa [a.op,b.op,a.mn,b.mn,a.mx,b.mx] (aa [a.lz,b.lz] (aa [a.cap,b.cap,a.kids,b.kids] (aa [a.r,b.r] (ag q (false=vd y.1 y.2/\True) (∃z:Nat,let j:=(List.getD (cW y.1) z (nd 0)).r.length;(∃d:Nat,aa [h,i] (aa [(x:Int)] (0=(d:Int)/\(Iv (N_ y z d)))))/\(∀x1:Nat,let k:=ax (x1:Int) (ab a.r);let e:=gt (0,0) a.r (x1:Int).toNat;let f:=gt (0,0) b.r (x1:Int).toNat;let s:=!((az e.1 f.1)&&(az e.2 f.2));(Iv (N_ y z x1))->aC 0 (x:Int)/\ax (x:Int) c/\ag k (aC 0 (x:Int)/\ax (x:Int) c/\aC 0 (x1:Int)/\k/\aC 0 (x:Int)/\ax (x:Int) g/\aC 0 (x1:Int)/\ax (x1:Int) (ab b.r)/\aa [a.r] (aa [e.1,e.2] (aa [b.r] (aa [f.1,f.2] (ag s (false=vd y.1 y.2/\True) (∃d:Nat,aa [h,i] (aa [(x:Int)] (an .i64 (x1:Int) 1=(d:Int)/\(Iv (N_ y z d/\(j-d)<(j-x1))))))))))) (∃d:Nat,aa [h,i] (an .i64 (x:Int) 1=(d:Int)/\(Iv (FB y d/\(t-d)<(t-x)))))))))))))))))) (true=vd y.1 y.2/\True)))))))))))))))))))))))))))))))))
def VD (y:Tree):Prop:=let b:=y.kids;let f:=λp:Prop=>aa [y.op] (aa [y.r] (aa [y.mn,y.mx] (aa [y.lz] (aa [y.cap,y.nk] (aa [b] p)))));ag (az y.op 6) (true=fm y/\True) ((∃z:Nat,0=(z:Int)/\f ((Iv (z<=b.length/\(∀j:Nat,(Nat.le (Nat.succ j) z)->fm (List.getD b j bn)=false)))))/\(∀x:Nat,let c:=b.length;let e:=ax (x:Int) (ab b);let a:=gt (Tree.mk 0 [] 0 0 false 0 0 []) b (x:Int).toNat;let d:=Tree.mk a.op a.r a.mn a.mx a.lz a.cap a.nk a.kids;(Iv (x<=c/\(∀j:Nat,(Nat.le (Nat.succ j) x)->fm (List.getD b j bn)=false)))->ag e (aC 0 (x:Int)/\e/\Iv (dG d/\cZ d<cZ y)/\aa [a.op] (aa [a.r] (aa [a.mn,a.mx] (aa [a.lz] (aa [a.cap,a.nk] (aa [a.kids] (ag (fm d) (true=fm y/\True) (∃z:Nat,an .i64 (x:Int) 1=(z:Int)/\f ((Iv ((z<=c/\(∀j:Nat,(Nat.le (Nat.succ j) z)->fm (List.getD b j bn)=false))/\(c-z)<(c-x)))))))))))) (false=fm y/\True)))
def Qal:∀y,VD y=QsX y:=λy=>by kernel_rfl
end
end sx
end Go.Proofs.YtadfknojfbmjgaaGreat
