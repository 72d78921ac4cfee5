/- PointAny: a part of the proof. -/
import Derived.Test.YtiiiphndmbabcaaGreatC11
import Derived.Test.YtiiiphndmbabcaaGreatC4
import Derived.Test.YtiiiphndmbabcaaGreatC3
import Derived.Shelf.SlGeneric
import Derived.Shelf.SlSortCmp.WholeK
import Derived.Ground.SlsfProg
import Derived.Ground.NamesProg
import Derived.Shelf.Strings.Builder1
import Derived.Shelf.LaysM
import Derived.Test.YtiiiphndmbabcaaGreatProg
import Derived.Test.YtiiiphndmbabcaaGreatC9
import Derived.Lib.MinMax
import Derived.Deep.DeepMust
import Derived.RegionTactic
import Derived.Shelf.SlSortCmp.NoneTotal
import Derived.Test.YtiiiphndmbabcaaGreatC5
import Derived.Shelf.Spec.SlicesInsert
import Derived.Lib.AppendZerosOnto
import Derived.Laws.NewBlocks
import Derived.Test.YtiiiphndmbabcaaGreatC8
import Derived.Test.YtiiiphndmbabcaaGreatC10
import Derived.Deep.RegionHeld3
import Derived.Test.YtiiiphndmbabcaaGreatC6
import Derived.WalkKit
import Derived.ProofKit
set_option linter.all false
namespace Go.Proofs.YtiiiphndmbabcaaGreat
open Go.Proofs.Tryz
set_option maxRecDepth 100000
set_option maxHeartbeats 4000000
namespace sx
noncomputable section
open Go Go.RowKit cls syn
variable {y:lN} {s:cj} {Z:j8×lN}
def Qdg (y:List (List UInt8)):Prop:=let a:=y.length;(∃z:Nat,aa [y] (aa [ag y] (0=vJ y z/\0=(z:Int)/\(Iv (z<=a)))))/\(∀x:Nat,let q1:=vJ y x;let c:=aw (x:Int) (ag y);let b:=gt [] y (x:Int).toNat;(Iv (x<=a))->aj c (aG 0 (x:Int)/\c/\Iv (b.length<=1000000000000)/\aa [q1] (aa [b] (∃z:Nat,aa [y] (aa [ag y] (lk (vH (q1,b))=vJ y z/\ay .i64 (x:Int) 1=(z:Int)/\(Iv (z<=a/\(a-z)<(a-x)))))))) (q1=vJ y a/\True))
def Qdh (y:j8):Prop:=let a:=nr [] y.s;let q1:=([a]:List (List UInt8));Iv (psW ([],y.s))/\RAH ([]:List UInt8) (RA4 y.s (Iv (QlW q1)/\aa [q1] (Tt 1 (Iv (a.length<=1000000000000)/\aa ([1]:List Int) (aa [a] (FZ .i64 (oO .i64 (jP .i64 (vJ q1 q1.length)) 16) (jP .i64 (lF .u32 (lk (vH (1,a))) 65535))=qJ y.s/\sQ y (True)))))))
def Qdi (y:cj):Prop:=let a:=nr [] y;Iv (psW ([],y))/\RAH ([]:List UInt8) (RA4 y (Iv (a.length<=1000000000000)/\aa ([0]:List Int) (aa [a] (Tt 1 (Iv (a.length<=1000000000000)/\aa ([1]:List Int) (aa [a] (FZ .i64 (oO .i64 (jP .i64 (lk (vH (0,a)))) 16) (jP .i64 (lF .u32 (lk (vH (1,a))) 65535))=qJ y/\True)))))))
def Qdj (y:Dh):Prop:=aj (aB (ag y.h) 0) (aj (aB y.m 0) (aB (ag y.L) 0=fb y/\True) (false=fb y/\True)) (false=fb y/\True)
def Qdk (y:FN):Prop:=let a:=y9 y;let q1:=([Q6.mk y.a8.h y.a8.m y.a8.L,Q6.mk y.aH.h y.aH.m y.aH.L,Q6.mk y.aZ.h y.aZ.m y.aZ.L]:List Q6);let d:=λp:Prop=>RA5 y.st (RA2 y.a8 (RA2 y.aH (RA2 y.aZ p)));(∃z:Nat,true=ud y z/\q1=a/\ag q1=3/\0=(z:Int)/\d ((Iv (z<=3))))/\(∀x:Nat,let b:=gt (Q6.mk [] 0 []) a (x:Int).toNat;let e:=aB (ag b.h) 0;let c:Prop:=(∃z:Nat,false=ud y z/\RAH a (ay .i64 (x:Int) 1=(z:Int)/\d ((Iv (z<=3/\(3-z)<(3-x))))));(Iv (x<=3))->aj (aw (x:Int) 3) (aG 0 (x:Int)/\aw (x:Int) (ag a)/\aj (ud y x) (aj e (aj (aB b.m 0) (∃z:Nat,aB (ag b.L) 0=ud y z/\RAH a (ay .i64 (x:Int) 1=(z:Int)/\d ((Iv (z<=3/\(3-z)<(3-x)))))) (c)) (c)) (c)) (aj (ud y x) (aj (aB y.st.pos 0) (aj (aB y.st.bN 0) (aj (!y.st.ch) (aj (!y.st.jH) (aj (aB y.st.bj 0) (aj (aB y.st.size 0) (aB (ag y.st.aS) 0=rG y/\True) (false=rG y/\True)) (false=rG y/\True)) (false=rG y/\True)) (false=rG y/\True)) (false=rG y/\True)) (false=rG y/\True)) (false=rG y/\True)))
theorem Xk (y:List By) {k:Nat} (h:k<y.length):lk (vH (vJ y k,y.getD k []))=vJ y (k+1):=by
 unfold vJ;rw[show y.getD k []=y[k] by grind,<-Zb4 h,Zcd];rfl
def Ql2:Ok W7:=okZ (V:=Qdg) [Jw] f84 QtV Qc5 λy b=>by
 have b:y.length<=1000/\∀k,k<y.length->(y.getD k []).length<=1000000000000:=b;have a:ag y=(List.length (α:=By) y:Int):=rfl;unfold Qdg;simp only[bC,bL,a,dq,Zad];refine⟨⟨0,rfl,rfl,Zaj _⟩,λx c=>⟨λk=>?_,λk=>?_⟩⟩
 ·exact⟨ω,k,b.2 x ω,x+1,Xk y ω,ba ω ω,ω,ω⟩
 ·rw[show x=y.length by omega]
def FT (h:y8 s):(nr [] s).length<=536870912:=by
 have h:30+eO s.r+s.c.length<=536870912:=h;have h1:=qA [] s.r _ (Zah _);rw[ZaM] at h1;have a:=pO (iB [] s.r s.r.length) s.c;unfold nr;simp only[Zak] at h1;omega
def Ql3:Ok QaN:=okZ (V:=Qdh) [WU,W7,Jw] f35 (λ_=>dY ()) ⟨QlQ,Ql2,Qc5⟩ λy a=>by
 have a:y8 y.s:=a;have hl:=FT a;have hw:30+eO y.s.r+y.s.c.length<=536870912:=a;unfold Qdh;simp only[bC,j9];refine⟨by show _+_+_+_<=_;simp only[Zak];omega,⟨by simp,λk hk=>?_⟩,ω,?_⟩
 ·have:k=0:=by simpa using hk
  subst this;show(nr [] y.s).length<=_
  omega
 ·refine⟨?_,(j9.2.2.2.2.2.2.1 y True).symm▸trivial⟩;have e:vJ [nr [] y.s] 1=lk (vH (0,nr [] y.s)):=rfl;show FZ _ (oO _ (jP _ (vJ [nr [] y.s] 1)) 16) _=_
  rw[e,aC,aC];rfl
def Ql4:Ok QaO:=okZ (V:=Qdi) [WV,WS] f39 (λ_=>dY ()) ⟨QlR,QlN⟩ λy a=>by
 have a:y8 y:=a;have hl:=FT a;have hw:30+eO y.r+y.c.length<=536870912:=a;unfold Qdi;simp only[bC];exact⟨by show _+_+_+_<=_;simp only[Zak];omega,ω,ω,by rw[aC,aC];rfl⟩
theorem Qdl:Ok W8:=okZ (V:=Qdj) [] f32 (λ_=>dY ()) trivial λy _=>by
 unfold Qdj;simp only[bC];grind [fb]
theorem Xl (y:FN) {k:Nat} (h:k<3):ud y (k+1)=(ud y k&&fb ⟨((y9 y).getD k ⟨[],0,[]⟩).h,((y9 y).getD k ⟨[],0,[]⟩).m,((y9 y).getD k ⟨[],0,[]⟩).L⟩):=by
 match k,h with
 | 0,_=>simp[ud,y9]
 | 1,_=>simp[ud,y9,Bool.and_assoc]
 | 2,_=>simp[ud,y9,Bool.and_assoc]
def Qbe (y:FN):ud y 3=(fb y.a8&&fb y.aH&&fb y.aZ):=by
 simp[ud,y9,scE,Bool.and_assoc]
theorem Qdm:Ok O0:=okZ (V:=Qdk) [] f31 Qt0 trivial λy _=>by
 unfold Qdk;simp only[bC,bL,au,dq,Zad];have hl:(y9 y).length=3:=rfl;refine⟨⟨0,rfl,rfl,rfl,rfl,ω⟩,λx b=>⟨λk=>?_,λk=>?_⟩⟩
 ·have a:x<3:=ω;have e:=Xl y a;have hi:ay .i64 (x:Int) 1=((x+1:Nat):Int):=ba ω ω;refine⟨ω,ω,?_⟩;grind [fb]
 ·have e:x=3:=ω;subst e;have e:=Qbe y;grind [rG,aC]
def Qdn (r:j8) (st:VE) (a b c:Dh):ny ⟨⟨r.s,r.p,r.q,[]⟩,st,a,b,c⟩=ny ⟨r,st,a,b,c⟩:=by
 rw[show ny ⟨⟨r.s,r.p,r.q,[]⟩,st,a,b,c⟩=_ from aC _,show ny ⟨r,st,a,b,c⟩=_ from aC _];rfl
def wz (y:j8×lN):gE y=(ptN y.2&&(if y.2.live=true then aG 0 y.2.c&&aG y.2.c 16&&ny (C9 y.1 y.2) else ptB y.2)):=aC _
def Db (y:lN):gP y=(ptN y&&!y.live&&ptB y):=aC _
theorem Qdo (b:Ok dB):Ok W9:=okZ (V:=Qc9) [O0,Qas] Tryz.f9 (λ_=>dY ()) ⟨Qdm,Qlz b⟩ λy a=>by
 have a:WK (C9 y.1 y.2):=a;have e:=wz y;unfold Qc9;simp only[bC,j9];unfold C9 at a e;grind [ptN,ptB]
theorem Qdp:Ok W':=okZ (V:=Qda) [O0] Tryz.f9 (λ_=>dY ()) Qdm λy _=>by
 have e:=Db y;unfold Qda;simp only[bC,j9];grind [ptN,ptB]
theorem Qdq (b:Ok gA):Ok W_:=okZ (V:=Qdb) [W8,WQ] f10 (λ_=>dY ()) ⟨Qdl,QlL b⟩ λy a=>by
 have a:y7 ⟨⟨y.1.s,y.1.p,y.1.q,[]⟩,y.2.x.st,y.2.x.a8,y.2.x.aH,y.2.x.aZ⟩:=a;have e:=wz y;have e2:=Qdn y.1 y.2.x.st y.2.x.a8 y.2.x.aH y.2.x.aZ;have c:rG y.2.x=_:=aC _;unfold Qdb;simp only[bC,j9,e2];unfold C9 at e
 with_reducible repeat' first | exact a | apply And.intro | intro _
 all_goals (rw[e];simp_all [ptN,ptB])
theorem Qdr:Ok Xa:=okZ (V:=Qdc) [W8] f10 (λ_=>dY ()) Qdl λy _=>by
 have e:=Db y;have a:rG y.x=_:=aC _;unfold Qdc;simp only[bC,j9]
 with_reducible repeat' first | apply And.intro | intro _
 all_goals (rw[e];simp_all [ptN,ptB])
def s5 (y:lN):(cJ [] y.live).length<=9/\(a7 (cJ [] y.live) y.a).length<=18/\(a7 (a7 (cJ [] y.live) y.a) y.b).length<=27/\Po y=a7 (a7 (cJ [] y.live) y.a) y.b:=by
 have h1:=gM [] y.live;have c:=bX (cJ [] y.live) y.a;have d:=bX (a7 (cJ [] y.live) y.a) y.b;rw[Zak] at h1;exact⟨ω,ω,ω,aC _⟩
def Ml (y:j8×lN):(a7 (Po y.2) (qJ y.1.s)).length<=36/\(a7 (a7 (Po y.2) (qJ y.1.s)) y.2.c).length<=45/\(a7 (a7 (a7 (Po y.2) (qJ y.1.s)) y.2.c) (jP .i64 y.2.d)).length<=54/\ptT y=qP (a7 (a7 (a7 (Po y.2) (qJ y.1.s)) y.2.c) (jP .i64 y.2.d)) (Mh y.2.x):=by
 obtain⟨_,_,h0,e⟩:=s5 y.2;rw[e];have h1:=bX (a7 (a7 (cJ [] y.2.live) y.2.a) y.2.b) (qJ y.1.s);have f:=bX (a7 (a7 (a7 (cJ [] y.2.live) y.2.a) y.2.b) (qJ y.1.s)) y.2.c;have g:=bX (a7 (a7 (a7 (a7 (cJ [] y.2.live) y.2.a) y.2.b) (qJ y.1.s)) y.2.c) (jP .i64 y.2.d);exact⟨ω,ω,ω,by rw[<-e];exact aC _⟩
def Mm (h:gE Z=false):[]=nu Z:=by rw[show nu Z=_ from aC _,Zaa (by simp[h])]
def zc (h:gE Z) (hl:Z.2.live=false):Po Z.2=nu Z:=by rw[show nu Z=_ from aC _,Zac h,Zaa (by simp[hl])]
def BC (h:gE Z) (hl:Z.2.live):ptT Z=nu Z:=by rw[show nu Z=_ from aC _,Zac h,Zac hl]
def Mn (h:gP y=false):[]=zT y:=by rw[show zT y=_ from aC _,Zaa (by simp[h])]
def FU (h:gP y):Po y=zT y:=by rw[show zT y=_ from aC _,Zac h]
theorem BD (h:gP y):y.live=false:=by
 rw[Db] at h;grind
def Ql5 (f:Ok dB):Ok QaR:=okZ (V:=Qdd) [W9,ou,gb,QaN,xS] f12 (λ_=>dY ()) ⟨Qdo f,Cm,kQ,Ql3,Qet⟩ λy g=>by
 obtain⟨hw,e,hz⟩:WK (C9 y.1 y.2)/\y8 y.1.s/\_:=g;obtain⟨h1,h,i,b⟩:=s5 y.2;obtain⟨k1,k2,k3,k4⟩:=Ml y;unfold Qdd;simp only[bC,j9,<-b,Zan,Zao];refine⟨hw,λk=>Mm k,λk=>⟨Zaj _,ω,ω,λa=>⟨e,by rw[b];omega,ω,ω,?_,?_⟩,λa=>zc k a⟩⟩
 ·have:=hz k;show(a7 (a7 (a7 (Po y.2) (qJ y.1.s)) y.2.c) (jP .i64 y.2.d)).length+63+dc y.2.x.st.aS+eB (Mh y.2.x).a8+eB (Mh y.2.x).aH+eB (Mh y.2.x).aZ<=_
  omega
 ·exact k4.symm.trans (BC k a)
def QfU:Ok Mi:=okZ (V:=Xi) [W',ou,gb] f12 (λ_=>dY ()) ⟨Qdp,Cm,kQ⟩ λy _=>by
 obtain⟨h1,c,d,a⟩:=s5 y;unfold Xi;simp only[bC,j9,<-a,Zan,Zao];exact⟨λk=>Mn k,λk=>⟨Zaj _,ω,ω,λb=>(by simp[BD k] at b),λ_=>FU k⟩⟩
def Xm (r:j8) (p:lN):gE (⟨r.s,r.p,r.q,[]⟩,p)=gE (r,p):=by
 rw[wz,wz];unfold C9;rw[Qdn]
def Ql6 (g:Ok gA):Ok QaS:=okZ (V:=Qde) [W_,kP,iz,QaO,tE] f13 (λ_=>dY ()) ⟨Qdq g,vX,nP,Ql4,YC⟩ λy h=>by
 obtain⟨hw,f,hz⟩:y7 (C9 ⟨y.1.s,y.1.p,y.1.q,[]⟩ y.2)/\y8 y.1.s/\_:=h;obtain⟨h1,i,j,b⟩:=s5 y.2;obtain⟨k1,k2,k3,k4⟩:=Ml y;have e:=Xm y.1 y.2;unfold Qde;simp only[bC,j9,<-b,Zan,Zao,e];refine⟨hw,λk=>Mm k,λk=>⟨Zaj _,ω,ω,λa=>⟨f,by rw[b];omega,ω,ω,?_,?_⟩,λa=>zc k a⟩⟩
 ·have:=hz k;show(a7 (a7 (a7 (Po y.2) (qJ y.1.s)) y.2.c) (jP .i64 y.2.d)).length+63+dc y.2.x.st.aS+eB (Mh y.2.x).a8+eB (Mh y.2.x).aH+eB (Mh y.2.x).aZ<=_
  omega
 ·exact k4.symm.trans (BC k a)
def Ql7:Ok QaT:=okZ (V:=Qdf) [Xa,kP,iz] f13 (λ_=>dY ()) ⟨Qdr,vX,nP⟩ λy _=>by
 obtain⟨h1,c,d,a⟩:=s5 y;unfold Qdf;simp only[bC,j9,<-a,Zan,Zao];exact⟨λk=>Mn k,λk=>⟨Zaj _,ω,ω,λb=>(by simp[BD k] at b),λ_=>FU k⟩⟩
def Qds (y:FN):Prop:=let a:=aw (ag y.aH.h) 9;let q1:=aw (ag y.st.aS) 12;let b:=aw (ag y.a8.L) 12;let c:=aw (ag y.aH.L) 12;let d:=aw (ag y.aZ.L) 12;let e:=aw (ag y.a8.h) 9;aj q1 (aj b (aj c (aj d (aj e (aj a (aw (ag y.aZ.h) 9=ue y/\True) (false=ue y/\True)) (false=ue y/\True)) (false=ue y/\True)) (false=ue y/\True)) (false=ue y/\True)) (false=ue y/\True)
def Qdt (y:lN):Prop:=RA0 y (True)
def Qbg:∀y,Qdt y=kD y:=λy=>by kernel_rfl
def Ql8 (hl:Ok zN) (a:Ok C4):Ok QfR:=Qo5 (k:=QfR) (T:=Jz) (F:=JA) [zN,C4] Tryz.f6 QtT id id (λ_=>rfl) ⟨hl,a⟩ QlT QlU
theorem Ql9:Ok QaU:=okZ (V:=Qds) [] Tryz.f7 (λ_=>dY ()) trivial λy _=>by
 have e:ue y=_:=aC _;unfold Qds;simp only[bC]
 with_reducible repeat' first | apply And.intro | intro _
 all_goals (rw[e];simp_all)
def Qma:Ok QaV:=cC Qbg trivial λy _=>by
 unfold Qdt;simp only[bC]
def QfV (s:cj):(⟨⟨if 3<s.r.length then s.r.take 3 else s.r,s.c⟩,⟨(b9 (jU s)).af,(b9 (jU s)).st⟩,⟨(b9 (jU s)).cc,(b9 (jU s)).cs⟩,[]⟩:j8)=⟨(lM s).s,(lM s).p,(lM s).q,[]⟩:=by
 rw[show lM s=_ from aC _];rfl
def Qmb (h:ldK s) (e:saP y.x):y7 (C9 (lM s) y):=by
 obtain⟨a,a2,a3,a4⟩:=e;obtain⟨b1,b,c⟩:=QlV h;exact⟨⟨⟨b1,a3.2.1,a3.2.2⟩,⟨b1,a2.2.1,a2.2.2⟩,b,λd=>⟨(c d).1,a4.2.1,a4.2.2⟩,a.1⟩,QfQ h⟩
theorem Xn (l:List iX) (n:Nat):eO (l.take n)<=eO l:=by
 induction l generalizing n with
 | nil=>simp
 | cons p l a=>
  cases n with
  | zero=>simp[eO]
  | succ n=>have:=a n;simp only[List.take_succ_cons,eO];omega
def QfW (h:QfT s):y8 (lM s).s:=by
 rw[show lM s=_ from aC _];have h:eO s.r+s.c.length<=22020096:=h;show 30+eO (if 3<s.r.length then s.r.take 3 else s.r)+s.c.length<=536870912
 have:=Xn s.r 3;split<;>omega
theorem Mo:∀{l:List dd} {x:dd},x∈l->XQ x<=pP l
 | y::l,x,h=>by
  have e:pP (y::l)=XQ y+pP l:=by simp[pP]
  rw[e];rcases Zbf.1 h with rfl | h
  ·omega
  ·have:=Mo h;omega
def wA {l:List dd} (h:pP l<=1048576) (a:l.length<=1000):lsP l:=by
 refine⟨a,λx b=>?_⟩;have:XQ x<=pP l:=Mo b;unfold XQ at this;omega
theorem Mq (l:List dd):dc l<=11*pP l:=by
 unfold dc pP
 induction l with
 | nil=>simp
 | cons x l a=>
  simp only[Zbl,Zco];have:ph x<=11*XQ x:=by unfold ph XQ;omega
  omega
def Qbh {y:FN} (h:ue y):y.st.aS.length<12/\y.a8.L.length<12/\y.aH.L.length<12/\y.aZ.L.length<12/\y.a8.h.length<9/\y.aH.h.length<9/\y.aZ.h.length<9:=by
 rw[show ue y=_ from aC _] at h;simp only[ZaW,dA,au] at h;omega
def QfX (a:C_ y<=1048576) (h:ue y.x):saP y.x:=by
 obtain⟨h1,b,c,d,e,f,g⟩:=Qbh h;unfold C_ at a;exact⟨wA ω ω,⟨ω,wA ω ω⟩,⟨ω,wA ω ω⟩,⟨ω,wA ω ω⟩⟩
def Qmc (a:C_ y<=1048576):200+dc y.x.st.aS+eB (Mh y.x).a8+eB (Mh y.x).aH+eB (Mh y.x).aZ<=536870912:=by
 unfold C_ at a;have h1:=Mq y.x.st.aS;have b:=Mq y.x.a8.L;have c:=Mq y.x.aH.L;have d:=Mq y.x.aZ.L;show 200+dc y.x.st.aS+(y.x.a8.h.length+27+dc y.x.a8.L)+(y.x.aH.h.length+27+dc y.x.aH.L)+(y.x.aZ.h.length+27+dc y.x.aZ.L)<=_
 omega
def Qmd (hl:Ok zN) (i:Ok C4) (e:Ok dB) (hs:Ok QfS):Ok Qa0:=okZ (V:=Qc8) Qub Tryz.f3 (λ_=>dY ()) ⟨Ql8 hl i,Ql9,Qma,hs,Ql5 e,QfU,Qdo e,Qdp,Qdq ri,Qdr,Ql6 ri,Ql7⟩ λy j=>by
 obtain⟨g,d⟩:QfT y.1/\C_ y.2<=1048576:=j;have h:=Qmc d;have hH:=QfW g;have c:=Xm (lM y.1) y.2;have e2:nu (⟨(lM y.1).s,(lM y.1).p,(lM y.1).q,[]⟩,y.2)=nu (lM y.1,y.2):=by
  rw[show nu (⟨(lM y.1).s,(lM y.1).p,(lM y.1).q,[]⟩,y.2)=_ from aC _,show nu (lM y.1,y.2)=_ from aC _,c];rw[show ptT (⟨(lM y.1).s,(lM y.1).p,(lM y.1).q,[]⟩,y.2)=_ from aC _,show ptT (lM y.1,y.2)=_ from aC _]
 have f:∀b:By,seq b b:=λb=>by simp[seq]
 unfold Qc8;simp only[bC,j9,QfV,c,e2,OY,f,Zan,Zao];refine⟨λk=>⟨k.symm,λ_=>trivial,λk2=>?_⟩,λk=>k.symm⟩;have a:=Qmb k (QfX d k2);have hz:ptP (lM y.1,y.2):=⟨hH,λ_=>h⟩;exact⟨a.1,a,λ_=>⟨⟨a.1,hz⟩,⟨a,hz⟩,λ_=>⟨λ_=>trivial,nofun⟩,nofun⟩,nofun⟩
end
end sx
namespace sx
open Go Go.RowKit
noncomputable section
abbrev Rn (E:Nat->Type):=St E->T (AV E)->C (Ex×St E×T (AV E))
section
variable (P:Program) (D:Data) (cd:TypeId->Option Nat) (ca:uj D.E) (mu:List Nat) (N un:Nat)
def nxt (b:Rn D.E) (r:Ex×St D.E×T (AV D.E)):C (Ex×St D.E×T (AV D.E)):=match r.1 with
 | .normal=>b r.2.1 r.2.2
 | _=>.ret r
def Xo (body:Rn D.E) (n:Nat):Rn D.E:=Nat.rec (motive:=λ_=>Rn D.E) (λ_ _=>.fail) (λ_ a s φ=>az (body s φ) (nxt D a)) n
def QfY (id:Nat) (r:Ex×St D.E×T (AV D.E)):Ex×St D.E×T (AV D.E):=match r.1 with
 | .exit j=>bif Nat.beq j id then(.normal,r.2) else r
 | _=>r
def Dc (c:Code):Rn D.E:=
 Code.rec (motive:=λ_=>Rn D.E)
  (λs φ=>.ret (.normal,s,φ))
  (λid ops draw s φ=>az (bif draw then Dv P D cd (Dy mu id) ca ops.toList N s φ else qT P D cd (Dy mu id) ca ops.toList N ops.toList (nat_lit 0) s φ) λq=>.ret (.normal,q))
  (λ_ _ b a s φ=>az (b s φ) (nxt D a))
  (λc _ _ b a s φ=>az (az (ev P D φ c) λv=>wG D v) λt=>bif t then b s φ else a s φ)
  (λid _ a s φ=>az (a s φ) λr=>.ret (QfY D id r))
  (λ_ a=>Xo D a un)
  (λ_ _ _ _ _ _ _ _=>.fail)
  (λid s φ=>.ret (.exit id,s,φ))
  (λ_ _ _ _=>.fail)
  (λ_ s φ=>.ret (.normal,s,φ))
  (λ_ _ _=>.fail)
  (λs φ=>.ret (.ret,s,φ))
  (λ_ _ _=>.fail) c
def Qme (a:List (AV D.E)):C (AV D.E):=match a with
 | [v]=>match v with
  | .tuple _=>.fail
  | v=>.ret v
 | a=>.ret (.tuple a)
def Qmf (e:Ex):Bool:=match e with
 | .exit _=>false
 | _=>true
def Xp (f:FuncId) (args:List (AV D.E)) (s:St D.E):C (AV D.E×St D.E):=az (cR P.funcs[f]?) λfn=>az (cR fn.body) λc=>bB (Nat.ble (kb args) fn.ntmps) (az (tc D args (nat_lit 0) .nil) λφ=>
 az (Dc P D cd ca mu fn.ntmps un c s φ) λr=>bB (Qmf r.1) (az (PZ P D r.2.1 r.2.2 fn.results.toList) λa=>az (Qme D a) λv=>.ret (v,r.2.1)))
def inl (tab:List (bh D)) (a:List (Nat×List Nat)) (n:Nat):uj D.E:=Nat.rec (motive:=λ_=>uj D.E) (X2 D tab)
 (λ_ b f args s=>bE (BY (X2 D tab f args s)) (Xp P D cd b ((cA a f).getD []) un f args s) (X2 D tab f args s)) n
end
end
section
variable {P:Program} {D:Data} {cd:TypeId->Option Nat} {ca:uj D.E} {M M':Pm D} {w w':World} {s s':St D.E} {φ φ':T (AV D.E)} {a:Act} {mu:List Nat} {N un:Nat}
variable {Z:List (AV D.E)} {v:AV D.E}
def Qmg (P:Program) (N:Nat) (c:Code) (r:Rn D.E):Prop:=∀(s:St D.E) (φ:T (AV D.E)) (e:Ex) (b:St D.E) (d:T (AV D.E)),(r s φ).H (e,b,d)->s.nx<=b.nx/\
 ∀(M:Pm D) (a:Act) (w:World),ee M s.h.get w->FR M φ a N->bV M s.nx b.nx->∀R:Exit->Act->World->Prop,
  (∀f g i,cU s.h.get M w b.h.get f i s.nx b.nx->FR f d g N->R (QdV e) g i)->c.wp P R a w
theorem Mr {b:Code} {r:Rn D.E} (y:Qmg P N b r):∀(n:Nat) (s:St D.E) (φ:T (AV D.E)) (e:Ex) (f:St D.E) (d:T (AV D.E)),(Xo D r n s φ).H (e,f,d)->s.nx<=f.nx/\
  ∀(M:Pm D) (a:Act) (w:World),ee M s.h.get w->FR M φ a N->bV M s.nx f.nx->∀R:Exit->Act->World->Prop,
   (∀v x A,cU s.h.get M w f.h.get v A s.nx f.nx->FR v d x N->R (QdV e) x A)->Code.rounds P b R n a w
 | 0,s,φ,e,f,d,h=>(te h).elim
 | n+1,s,φ,e,f,d,h=>by
  obtain⟨⟨F,I,u⟩,h1,q⟩:=ai.1 (show(az (r s φ) (nxt D (Xo D r n))).H _ from h);obtain⟨t,k1⟩:=y _ _ _ _ _ h1;cases F with
  | normal=>
   obtain⟨z,k2⟩:=Mr y n _ _ _ _ _ (show(Xo D r n I u).H _ from q);refine⟨Zav t z,λM a w m o c R l=>?_⟩;rw[rounds_succ];refine k1 M a w m o (c.fst z) _ λi j p g k=>?_
   exact k2 i j p g.fJ k (c.next g) R λB a2 K J G=>l B a2 K (g.trans J) G
  | exit id=>
   cases aq.1 (show(C.ret _).H _ from q);refine⟨t,λM a w m o c R l=>?_⟩;rw[rounds_succ];exact k1 M a w m o c _ λi j p g k=>l i j p g k
  | ret=>
   cases aq.1 (show(C.ret _).H _ from q);refine⟨t,λM a w m o c R l=>?_⟩;rw[rounds_succ];exact k1 M a w m o c _ λi j p g k=>l i j p g k
theorem Qbi (W:aY D) (O:P.follows .mixedOrders) (Q:rZ P) (L:rY P D ca) (c:Code):Qmg P N c (Dc P D cd ca mu N un c):=by
 induction c with
 | skip=>
  intro s φ e z i h;cases aq.1 (show(C.ret _).H _ from h);exact⟨Zah _,λM a w n g _ R m=>wp_skip (m M a w (.refl n _) g)⟩
 | region id ops draw=>
  intro s φ e z i h;obtain⟨⟨K,p⟩,h1,o⟩:=ai.1 (show(az _ λq=>C.ret (Ex.normal,q)).H _ from h);cases aq.1 o;cases draw with
  | true=>exact DR (id:=id) W O Q L (show(Dv P D cd (Dy mu id) ca ops.toList N s φ).H _ from h1)
  | false=>
   obtain⟨l,k⟩:=pZ W Q L _ _ _ _ _ _ (show(qT P D cd (Dy mu id) ca ops.toList N ops.toList 0 s φ).H _ from h1);exact⟨l,λM a w n g d R m=>wp_region_list (k M a w n g d R m)⟩
 | seq x y G I=>
  intro s φ e z i h;obtain⟨⟨S,K,p⟩,h1,o⟩:=ai.1 (show(az (Dc P D cd ca mu N un x s φ) (nxt D (Dc P D cd ca mu N un y))).H _ from h);obtain⟨J,k1⟩:=G _ _ _ _ _ h1;cases S with
  | normal=>
   obtain⟨X,k2⟩:=I _ _ _ _ _ (show(Dc P D cd ca mu N un y K p).H _ from o);refine⟨Zav J X,λM a w n g d R m=>wp_seq (k1 M a w n g (d.fst X) _ λE u B A F=>?_)⟩;exact k2 E u B A.fJ F (d.next A) R λY a2 w2 t2 Z=>m Y a2 w2 (A.trans t2) Z
  | exit id=>
   cases aq.1 (show(C.ret _).H _ from o);exact⟨J,λM a w n g d R m=>wp_seq (k1 M a w n g d _ λE u B A F=>m E u B A F)⟩
  | ret=>
   cases aq.1 (show(C.ret _).H _ from o);exact⟨J,λM a w n g d R m=>wp_seq (k1 M a w n g d _ λE u B A F=>m E u B A F)⟩
 | cond c x y G I=>
  intro s φ e z i h;obtain⟨t,h1,o⟩:=ai.1 (show(az (az (ev P D φ c) λv=>wG D v) λt=>bif t then Dc P D cd ca mu N un x s φ else Dc P D cd ca mu N un y s φ).H _ from h);obtain⟨v,U,V⟩:=ai.1 h1;cases t with
  | true=>
   obtain⟨l,k⟩:=G _ _ _ _ _ o;exact⟨l,λM a w n g d R m=>wp_cond_true (vU V (dN U g)) (k M a w n g d R m)⟩
  | false=>
   obtain⟨l,k⟩:=I _ _ _ _ _ o;exact⟨l,λM a w n g d R m=>wp_cond_false (vU V (dN U g)) (k M a w n g d R m)⟩
 | block id b T=>
  intro s φ e z i h;obtain⟨⟨S,K,p⟩,h1,o⟩:=ai.1 (show(az (Dc P D cd ca mu N un b s φ) λr=>C.ret (QfY D id r)).H _ from h);obtain⟨J,k1⟩:=T _ _ _ _ _ h1;have o:QfY D id (S,K,p)=(e,z,i):=aq.1 o;cases S with
  | normal=>
   cases o;exact⟨J,λM a w n g d R m=>wp_block (k1 M a w n g d _ λE u B A F=>m E u B A F)⟩
  | ret=>
   cases o;exact⟨J,λM a w n g d R m=>wp_block (k1 M a w n g d _ λE u B A F=>m E u B A F)⟩
  | exit j=>
   by_cases q:j=id
   ·have o:(cond (Nat.beq j id) (Ex.normal,K,p) (Ex.exit j,K,p))=(e,z,i):=o;rw[aN.2 q] at o;cases o;refine⟨J,λM a w n g d R m=>wp_block (k1 M a w n g d _ λE u B A F=>?_)⟩;show Exit.inBlock id R (.exit j) u B
    simp only[Exit.inBlock,Zac q];exact m E u B A F
   ·have o:(cond (Nat.beq j id) (Ex.normal,K,p) (Ex.exit j,K,p))=(e,z,i):=o;rw[rM.2 q] at o;cases o;refine⟨J,λM a w n g d R m=>wp_block (k1 M a w n g d _ λE u B A F=>?_)⟩;show Exit.inBlock id R (.exit j) u B
    simp only[Exit.inBlock,Zaa q];exact m E u B A F
 | loop b T=>
  intro s φ e z i h;obtain⟨l,k⟩:=Mr T un _ _ _ _ _ (show(Xo D (Dc P D cd ca mu N un b) un s φ).H _ from h);exact⟨l,λM a w n g d R m=>wp_loop_rounds un (k M a w n g d R m)⟩
 | rangeFunc f ps x y G I=>exact λs φ e z i h=>(te h).elim
 | exit id=>
  intro s φ e z i h;cases aq.1 (show(C.ret _).H _ from h);exact⟨Zah _,λM a w n g _ R m=>wp_exit (m M a w (.refl n _) g)⟩
 | scope b T=>exact λs φ e z i h=>(te h).elim
 | label l=>
  intro s φ e z i h;cases aq.1 (show(C.ret _).H _ from h);exact⟨Zah _,λM a w n g _ R m=>wp_label (m M a w (.refl n _) g)⟩
 | goto l=>exact λs φ e z i h=>(te h).elim
 | ret=>
  intro s φ e z i h;cases aq.1 (show(C.ret _).H _ from h);exact⟨Zah _,λM a w n g _ R m=>wp_ret (m M a w (.refl n _) g)⟩
 | refuse y=>exact λs φ e z i h=>(te h).elim
theorem Qbj (h:(Qme D Z).H v):Dz D v/\wN D v=Z:=by
 match Z,h with
 | [],h=>cases aq.1 (show(C.ret _).H v from h);exact⟨rfl,rfl⟩
 | [x],h=>cases x<;>first | exact(te h).elim | (cases aq.1 (show(C.ret _).H v from h);exact⟨rfl,rfl⟩)
 | x::y::l,h=>cases aq.1 (show(C.ret _).H v from h);exact⟨by simp[Dz,ia];rfl,rfl⟩
theorem Xq (B:aY D) (b:P.follows .mixedOrders) (x:rZ P) (q:rY P D ca) {f:FuncId} (h:(Xp P D cd ca mu un f Z s).H (v,s')):GB P D f Z s v s':=by
 obtain⟨fn,h1,I⟩:=ai.1 h;obtain⟨c,J,K⟩:=ai.1 I;obtain⟨L,N⟩:=bA.1 K;obtain⟨φ,O,Q⟩:=ai.1 N;obtain⟨⟨e,s1,φ1⟩,S,g⟩:=ai.1 Q;obtain⟨i,j⟩:=bA.1 g;obtain⟨vs,m,n⟩:=ai.1 j;obtain⟨u,o,p⟩:=ai.1 n;cases aq.1 p;have a:=bD.1 h1;have C:=bD.1 J;obtain⟨l,k⟩:=Qbi B b x q c _ _ _ _ _ S;refine⟨l,⟨fn,c,a,C⟩,λM A w T V r R U=>calls_of_wp a C ?_⟩;have hl:Z.length<=fn.ntmps:=by have:=cw.1 L;rwa [ia] at this
 refine k M _ w V (Ax O T hl) r _ λG y d t z=>?_
 obtain⟨vs',g1,g2⟩:=xl B m z t.fJ;obtain⟨Y,args⟩:=Qbj o;obtain⟨F,W,X⟩:=ux (res:=v) g2 Y (by rw[args];exact g1);have fin:y.defers=[]/\∃v,(results fn y.tmps).run P d=.ok v d/\R (.returned v) d:=⟨z.defers,F,W,U G F d X t⟩;cases e with
 | normal=>exact fin
 | ret=>exact fin
 | exit id=>cases i
theorem Xr (d:aY D) (b:P.follows .mixedOrders) (c:rZ P) {tab:List (bh D)} (ht:∀k∈tab,DW P D k) (a:List (Nat×List Nat)):∀n,rY P D (inl P D cd un tab a n)
 | 0=>xe d ht
 | n+1=>λf args s v e h=>by
  rcases gY.1 (show(bE (BY (X2 D tab f args s)) (Xp P D cd (inl P D cd un tab a n) ((cA a f).getD []) un f args s) (X2 D tab f args s)).H (v,e) from h) with⟨_,h⟩ | ⟨_,h⟩
  ·exact Xq d b c (Xr d b c ht a n) h
  ·exact xe d ht f args s v e h
end
end sx
end Go.Proofs.YtiiiphndmbabcaaGreat
namespace Go.Proofs
open Go.Proofs.YtiiiphndmbabcaaGreat Go.Proofs.Tryz
open Go.Shelf
def Tryz.sortRg_ren:Go.Shelf.Ren:=⟨λ| 6=>274 | 15=>299 | 14=>298 | 28=>315 | 29=>316 | 20=>307 | 21=>308 | 22=>309 | 23=>310 | 24=>311 | 25=>312 | 26=>313 | 27=>314 | 46=>318 | 47=>319 | 48=>320 | 49=>321 | 50=>322 | 57=>323 | n=>n,λ| 22=>201 | 24=>350 | 25=>353 | 3=>3 | 39=>151 | 0=>0 | 53=>25 | 55=>150 | 4=>4 | 46=>383 | 45=>382 | 50=>272 | 5=>5 | 9=>9 | 66=>392 | 70=>396 | 76=>398 | 77=>297 | n=>n,λ| n=>n⟩
def Tryz.sortRg:Go.Proofs.SlLaysF0.n6 prog Tryz.sortRg_ren:={
 mixed:=by kernel_rfl
 f6:=⟨Tryz.f274.name,by decide,Tryz.func274.trans (ZaR some (by kernel_rfl))⟩
 f14:=⟨Tryz.f298.name,by decide,Tryz.func298.trans (ZaR some (by kernel_rfl))⟩
 f15:=Tryz.func299.trans (ZaR some (by kernel_rfl))
 f20:=⟨Tryz.f307.name,by decide,Tryz.func307.trans (ZaR some (by kernel_rfl))⟩
 f21:=⟨Tryz.f308.name,by decide,Tryz.func308.trans (ZaR some (by kernel_rfl))⟩
 f22:=⟨Tryz.f309.name,by decide,Tryz.func309.trans (ZaR some (by kernel_rfl))⟩
 f23:=⟨Tryz.f310.name,by decide,Tryz.func310.trans (ZaR some (by kernel_rfl))⟩
 f24:=⟨Tryz.f311.name,by decide,Tryz.func311.trans (ZaR some (by kernel_rfl))⟩
 f25:=⟨Tryz.f312.name,by decide,Tryz.func312.trans (ZaR some (by kernel_rfl))⟩
 f26:=⟨Tryz.f313.name,by decide,Tryz.func313.trans (ZaR some (by kernel_rfl))⟩
 f27:=⟨Tryz.f314.name,by decide,Tryz.func314.trans (ZaR some (by kernel_rfl))⟩
 f28:=Tryz.func315.trans (ZaR some (by kernel_rfl))
 f29:=Tryz.func316.trans (ZaR some (by kernel_rfl))
 f46:=⟨Tryz.f318.name,by decide,Tryz.func318.trans (ZaR some (by kernel_rfl))⟩
 f47:=Tryz.func319.trans (ZaR some (by kernel_rfl))
 f48:=Tryz.func320.trans (ZaR some (by kernel_rfl))
 f49:=⟨Tryz.f321.name,by decide,Tryz.func321.trans (ZaR some (by kernel_rfl))⟩
 f50:=⟨Tryz.f322.name,by decide,Tryz.func322.trans (ZaR some (by kernel_rfl))⟩
 f57:=⟨Tryz.f323.name,by decide,Tryz.func323.trans (ZaR some (by kernel_rfl))⟩
 t0:=Tryz.underlying0
 a0:=Tryz.isAgg0
 z0:=Tryz.sizeOf0
 v0:=Tryz.zeroValue0
 t3:=Tryz.underlying3
 a3:=Tryz.isAgg3
 z3:=Tryz.sizeOf3
 v3:=Tryz.zeroValue3
 t4:=Tryz.underlying4
 a4:=Tryz.isAgg4
 z4:=Tryz.sizeOf4
 v4:=Tryz.zeroValue4
 t5:=Tryz.underlying5
 a5:=Tryz.isAgg5
 z5:=Tryz.sizeOf5
 v5:=Tryz.zeroValue5
 t9:=Tryz.underlying9
 a9:=Tryz.isAgg9
 z9:=Tryz.sizeOf9
 v9:=Tryz.zeroValue9
 t22:=Tryz.underlying201
 a22:=Tryz.isAgg201
 z22:=Tryz.sizeOf201
 v22:=Tryz.zeroValue201
 t25:=Tryz.underlying353
 a25:=Tryz.isAgg353
 z25:=Tryz.sizeOf353
 v25:=Tryz.zeroValue353
 t39:=Tryz.underlying151
 a39:=Tryz.isAgg151
 z39:=Tryz.sizeOf151
 v39:=Tryz.zeroValue151
 t45:=Tryz.underlying382
 a45:=Tryz.isAgg382
 z45:=Tryz.sizeOf382
 v45:=Tryz.zeroValue382
 t46:=Tryz.underlying383
 a46:=Tryz.isAgg383
 z46:=Tryz.sizeOf383
 v46:=Tryz.zeroValue383
 t50:=Tryz.underlying272
 a50:=Tryz.isAgg272
 z50:=Tryz.sizeOf272
 v50:=Tryz.zeroValue272
 t53:=Tryz.underlying25
 a53:=Tryz.isAgg25
 z53:=Tryz.sizeOf25
 v53:=Tryz.zeroValue25
 t55:=Tryz.underlying150
 a55:=Tryz.isAgg150
 z55:=Tryz.sizeOf150
 v55:=Tryz.zeroValue150
 t66:=Tryz.underlying392
 a66:=Tryz.isAgg392
 z66:=Tryz.sizeOf392
 v66:=Tryz.zeroValue392
 t70:=Tryz.underlying396
 a70:=Tryz.isAgg396
 z70:=Tryz.sizeOf396
 v70:=Tryz.zeroValue396
 t76:=Tryz.underlying398
 a76:=Tryz.isAgg398
 z76:=Tryz.sizeOf398
 v76:=Tryz.zeroValue398
 t77:=Tryz.underlying297
 a77:=Tryz.isAgg297
 z77:=Tryz.sizeOf297
 v77:=Tryz.zeroValue297 }
end Go.Proofs
namespace Go.Proofs.YtiiiphndmbabcaaGreat
open Go.Proofs.Tryz
namespace cls
open Go.RowKit sl Go.Shelf
def er (r:Rg):List Value:=[.int .i32 r.1,.int .i32 r.2]
def jV (r:Rg):(er r).length=2:=rfl
def Rd.pair {w:World} {a:Option Addr} {l:List Rg} {cap:Nat} (h:Rd er w a l cap) {i:Nat} {x:Rg} (e:l[i]?=some x):
  ∃b off,a=some ⟨b,off,none⟩/\b<w.heap.size/\w.cell? ⟨b,off+i*2,none⟩=some (.int .i32 x.1)/\w.cell? ⟨b,off+i*2+1,none⟩=some (.int .i32 x.2):=by
 obtain⟨b,off,h1,d,c⟩:=h.cells jV e;exact⟨b,off,h1,d,c 0 _ ω rfl,by have:=c 1 (.int .i32 x.2) ω rfl;rwa [<-Za4] at this⟩
def zd (r:Rg):∀u∈er r,u.oneCell':=by
 intro u hu;simp[er] at hu;rcases hu with rfl | rfl<;>rfl
def wB:l_ prog 201 350 2 8:=l_.mk' (z:=.agg #[.int .i32 0,.int .i32 0]) Tryz.underlying201 (by kernel_rfl) rfl (by decide)
abbrev zU (B:Nat) (w:World) (v:Value) (l:List Rg):Prop:=j_ er 2 350 B w v l
set_option maxHeartbeats 2000000 in
theorem Qmh (x y:Int) (w:World):
  Calls prog 273 #[.agg #[.int .i32 x,.int .i32 y]] w λe C=>∃v,e=.returned v/\zU w.heap.size C v (eg (x,y))/\Below w.heap.size w C:=by
 obtain⟨lo,m⟩:∃lo,lo=max x 0:=⟨_,rfl⟩
 obtain⟨hi,l⟩:∃hi,hi=min y 1114111:=⟨_,rfl⟩
 have h:=Lib.hid m
 have f:=Lib.hid l
 clear m l
 go_enter Tryz.func273,Tryz.ntmps273
 go_wp2_with fail
 rw[<-h.out,<-f.out]
 obtain⟨b,a⟩:∃b,b=(w.alloc (.cells #[.int .i32 lo,.int .i32 hi] 350)).alloc (.cells #[.int .i32 0,.int .i32 55295,.int .i32 57344,.int .i32 1114111] 350):=⟨_,rfl⟩
 have D:Rd er b (some ⟨w.heap.size+1,0,none⟩) parts 2:=by
  subst a
  have:=Rd.built (a_:=er) (w:=w.alloc (.cells #[.int .i32 lo,.int .i32 hi] 350)) (E:=350) (cs:=#[.int .i32 0,.int .i32 55295,.int .i32 57344,.int .i32 1114111]) parts 2 rfl rfl ω
  simp_all
 have c:Below w.heap.size w b:=by
  subst a
  exact((Below.refl _ _).alloc (Zah _) _).alloc (by simp) _
 have r:b.cell? ⟨w.heap.size,0,none⟩=some (.int .i32 lo):=by subst a;simp[go_sem]
 have s:b.cell? ⟨w.heap.size,1,none⟩=some (.int .i32 hi):=by subst a;simp[go_sem]
 have di:w.heap.size<b.heap.size:=by subst a;simp;omega
 rw[<-a]
 clear a
 go_loopg [3,19] 2 (λg v i wr=>∃k:Nat,k<=2/\g=2-k/\i=.int .i64 k/\zU b.heap.size wr v ((parts.take k).flatMap (clip (lo,hi)))/\Below w.heap.size w wr/\Below b.heap.size b wr)
 case atStart=>exact⟨0,ω,rfl,rfl,j_.nil _ _ _ _ _,c,Below.refl _ _⟩
 case round=>
  obtain⟨k,hk,rfl,rfl,q,o,lG⟩:=hrel
  have hs:=o.size
  by_cases t:k<2
  ·obtain⟨⟨p0,p1⟩,u⟩:∃x,parts[k]?=some x:=⟨_,Zaf t⟩
   obtain⟨I,L,e2,A,c0,c1⟩:=Rd.pair (D.kept lG) u
   cases e2
   simp only[Za6] at c0 c1
   have J:=(lG.cell (p:=⟨w.heap.size,0,none⟩) di).trans r
   have K:=(lG.cell (p:=⟨w.heap.size,1,none⟩) di).trans s
   have B:w.heap.size<wr.heap.size:=ZbB di lG.size
   have z:=Lib.hid u
   clear u
   have hlen:=fA (clip (lo,hi)) 1 (D4 _) (parts.take k)
   have F:(parts.take k).length<=2:=by simp[parts];omega
   by_cases G:max lo p0<=min hi p1
   ·go_wp2_with (at_builtin;go_must (refine pK wB rfl rfl rfl rfl (by simp) ((q.alloc _).alloc _) (max lo p0,min hi p1) rfl jV zd ω ω (by have:=lG.size;simp;omega) ?_);intro M N H g1)
    go_roundg (2-(k+1))
    case measure=>omega
    case rel=>
     have d:clip (lo,hi) (p0,p1)=[(max lo p0,min hi p1)]:=by unfold clip;rw[Zac G]
     have n:=(q.alloc (.cells #[.int .i32 p0,.int .i32 p1] 350)).alloc (.cells #[.int .i32 (max lo p0),.int .i32 (min hi p1)] 350)
     have j:=((Below.refl wr.heap.size wr).alloc (Zah _) (.cells #[.int .i32 p0,.int .i32 p1] 350)).alloc (by simp) (.cells #[.int .i32 (max lo p0),.int .i32 (min hi p1)] 350)
     refine⟨k+1,ω,rfl,by go_num,?_,?_,?_⟩
     ·rw[tU _ z.out,d]
      exact H
     ·exact nY (o.trans (j.mono hs)) n g1 c.size (by simp;omega)
     ·exact nY (lG.trans (j.mono lG.size)) n g1 (Zah _) (by have:=lG.size;simp;omega)
   ·go_wp2_with fail
    go_roundg (2-(k+1))
    case measure=>omega
    case rel=>
     have d:clip (lo,hi) (p0,p1)=[]:=by unfold clip;rw[Zaa (show ¬max lo p0<=min hi p1 by omega)]
     have j:=((Below.refl wr.heap.size wr).alloc (Zah _) (.cells #[.int .i32 p0,.int .i32 p1] 350)).alloc (by simp) (.cells #[.int .i32 (max lo p0),.int .i32 (min hi p1)] 350)
     refine⟨k+1,ω,rfl,by go_num,?_,o.trans (j.mono hs),lG.trans (j.mono lG.size)⟩
     rw[tU _ z.out,d,Zaw]
     exact(q.alloc _).alloc _
  ·obtain rfl:k=2:=ω
   go_wp2_with fail
   go_ret
   refine⟨_,rfl,?_,o⟩
   have e:eg (x,y)=(parts.take 2).flatMap (clip (lo,hi)):=by simp only[eg,h.out,f.out];rfl
   rw[e]
   exact q.mono c.size
set_option maxHeartbeats 2000000 in
theorem cmp (x y:Rg) (w:World) (h: -2147483648<=x.1-y.1/\x.1-y.1<=2147483647):Calls prog 275 #[.agg #[.int .i32 x.1,.int .i32 x.2],.agg #[.int .i32 y.1,.int .i32 y.2]] w λe a=>e=.returned (.int .i64 (x.1-y.1))/\a=(w.alloc (.cells #[.int .i32 x.1,.int .i32 x.2] 350)).alloc (.cells #[.int .i32 y.1,.int .i32 y.2] 350):=by
 obtain⟨h1,b⟩:=h
 go_enter Tryz.func275,Tryz.ntmps275
 go_wp2_with fail
 go_ret
 simp_all
def Xs {B:Nat} {w:World} {g n cap:Nat} {l:List Rg} (h:zU B w (.slice (some ⟨g,0,none⟩) n cap) l) (a:n=l.length) {i:Nat} {x:Rg} (b:l[i]?=some x):
  w.cell? ⟨g,i*2,none⟩=some (.int .i32 x.1)/\w.cell? ⟨g,i*2+1,none⟩=some (.int .i32 x.2)/\w.frozen? ⟨g,i*2,none⟩=false/\w.frozen? ⟨g,i*2+1,none⟩=false:=
 ⟨(h.cellAt a jV b (t:=0) ω rfl).1,(h.cellAt a jV b (t:=1) ω rfl).1,(h.cellAt a jV b (t:=0) ω rfl).2,(h.cellAt a jV b (t:=1) ω rfl).2⟩
open Go.Sort (Holds HoldsK flatK get_flatK size_flatK putRow putRowK putCells SWO mapBlock onCells PermIn SortedIn alloc_eq_grow grow_grow grow)
structure Dj where
 r:Rg
 lo:0<=r.1/\r.1<=1114111
instance:Inhabited Dj:=⟨⟨(0,0),by decide⟩⟩
variable {w:World} {g:Nat} {Z:Array Obj}
def ev (r:Dj):List Value:=er r.r
def cf (x y:Dj):Int:=x.r.1-y.r.1
theorem Ms:∀(l:List Rg),(∀r∈l,0<=r.1/\r.1<=1114111)->∃b:List Dj,b.map Dj.r=l
 | [],_=>⟨[],rfl⟩
 | r::t,h=>by
  obtain⟨c,ht⟩:=Ms t (λx a=>h x (by simp[a]));exact⟨⟨r,h r (by simp)⟩::c,by simp[ht]⟩
def Mu (a:List Dj):flat er (a.map Dj.r)=flat ev a:=by
 rw[flat,flat,Zdz];rfl
theorem Dd (r:Dj):(ev r).length=2:=rfl
theorem ze (d:Array Dj):(flatK ev 2 d).toList=flat ev d.toList:=by
 apply Zb6;intro t;by_cases ht:t<d.size*2
 ·have h1:(flatK ev 2 d)[t]! =(ev d[t / 2]!)[t % 2]!:=get_flatK ev 2 d t ht;have a:t<(flatK ev 2 d).size:=by simpa using ht
  have c:t / 2<d.size:=ω;have e:d.toList[t / 2]?=some d[t / 2]!:=by
   grind
  have b:=yJ Dd d.toList (t / 2) (t % 2) _ e ω;grind [Dd]
 ·rw[Zbd (by simp;omega),Zbd (by rw[nj Dd];simp;omega)]
theorem wC (x y:Dj):ltOf cf x y=decide (x.r.1<y.r.1):=by
 unfold ltOf cf;grind
def swo:SWO (ltOf cf) where
 irrefl x:=by rw[wC];simp
 trans x y z h1 h2:=by rw[wC] at*;simp at*;omega
 ntrans x y z h1 h2:=by rw[wC] at*;simp at*;omega
def Qbk (bY off size:Nat) (w:World):CmpLays prog 275 #[] ev 2 cf bY off size w:=by
 intro m os a _ x y;have b:=x.lo;have c:=y.lo;refine(cmp x.r y.r _ ω).mono ?_;rintro e d ⟨rfl,rfl⟩;exact⟨rfl,0,_,by rw[Go.Sort.alloc_eq_grow,Go.Sort.alloc_eq_grow,Go.Sort.grow_grow];rfl⟩
theorem FV {n:Nat} {a8:Array Value} {e:TypeId} {fr:Nat×Nat} (d:Array Value) (a:w.heap[g]?=some (.cells a8 e fr)):
  (Go.Sort.grow (Go.Sort.putRow id (Go.Sort.ahead w n) g 0 d) Z).heap[g]?=some (.cells (Go.Sort.putCells id 0 d a8) e fr):=by
 grind [Go.Sort.heap_grow_old,Go.Sort.putRow,Go.Sort.mapBlock,Go.Sort.ahead,Go.Sort.onCells]
theorem JC {n:Nat} (d:Array Value) (k:Nat) (hk:k<w.heap.size) (a:k≠g):(Go.Sort.grow (Go.Sort.putRow id (Go.Sort.ahead w n) g 0 d) Z).heap[k]?=w.heap[k]?:=by
 grind [Go.Sort.heap_grow_old,Go.Sort.putRow,Go.Sort.mapBlock,Go.Sort.ahead]
theorem zV (a8:Array Value) (a:List Value) (h:a.length<=a8.size):(Go.Sort.putCells id 0 a.toArray a8).toList.take a.length=a:=by
 apply Zb6;grind [Go.Sort.putCells]
theorem Qbl (w:World):(isAgg 350).run prog w=.ok true w:=by
 simp_all
theorem sort {v:Value} {l:List Rg} (h:zU g w v l) (M:∀r∈l,0<=r.1/\r.1<=1114111) (hl:l.length<=1000000000) (O:g<=w.heap.size):
  Calls prog 274 #[v,.func (.func 275) #[] #[]] w λe o=>e=.returned (.tuple #[])/\
   ∃C,C.Perm l/\C.Pairwise (λa b=>a.1<=b.1)/\zU g o v C/\Below g w o:=by
 rcases h.2 with⟨rfl,y⟩ | ⟨B,cap,a8,rfl,p,E,y,I,hs,ht⟩
 ·obtain rfl:l=[]:=Zap y;refine(AnyF.slices_SortFunc_none Tryz.sortRg none 0 _ w).mono ?_;rintro e o ⟨rfl,rfl⟩;exact⟨rfl,[],List.Perm.refl _,List.Pairwise.nil,h,Below.refl _ _⟩
 ·obtain⟨d,rfl⟩:=Ms l M;have F:∀args w,(callFunc 275 args).run prog w=.ok (.enter 275 args) w:=enters_of Tryz.func275 (by kernel_rfl) rfl
  have hlen:(d.map Dj.r).length=d.toArray.size:=by simp
  have hH:HoldsK ev 2 w B 0 d.toArray:=by
   intro j t;have u:j<d.length*2:=by simpa using t
   rw[Mu] at ht;have e:(flat ev d)[j]?=some (flatK ev 2 d.toArray)[j]!:=by
    grind [ze]
   grind [World.frozen?,World.cell?]
  rw[hlen];refine(AnyQ.slices_SortFunc Tryz.sortRg 2 Qbl Tryz.sizeOf350 ev Dd (λx=>zd x.r) cf swo 275 #[] B 0 cap d.toArray w F (Qbk B 0 d.toArray.size w) hH (CR E) (by simp at hl ⊢;omega)).mono ?_;rintro e o ⟨rfl,c,n,os,J,A,rfl⟩;obtain⟨z,K,L⟩:=J;simp only[Zb5] at*
  have D:c.toList.Perm d:=by
   have N:c.extract 0 d.length=c:=by rw[<-z];simp
   grind
  have m:(c.toList.map Dj.r).length=(d.map Dj.r).length:=by rw[Za2,Za2,D.length_eq]
  have q:(flatK ev 2 c).toList=flat er (c.toList.map Dj.r):=by rw[ze,Mu]
  have f:flatK ev 2 c=(flat er (c.toList.map Dj.r)).toArray:=by rw[<-q]
  refine⟨trivial,c.toList.map Dj.r,D.map _,?_,?_,?_⟩
  ·rw[List.pairwise_map,ZbD];intro i j hi t s;have G:i<c.size:=by simpa using hi
   have u:j<c.size:=by simpa using t
   have:=A i j (Zaj _) s ω;grind [wC]
  ·unfold zU j_;refine⟨by rw[nj jV],.inr ⟨B,cap,_,by rw[m];simp,p,FV _ E,by rw[m];exact y,I,by simp[putCells,hs],?_⟩⟩;rw[f];have H:(flat er (c.toList.map Dj.r)).length=(c.toList.map Dj.r).length*2:=nj jV _;grind [zV]
  ·refine⟨rfl,rfl,rfl,by simp[sortWorldK,putRowK],λk hk=>JC _ k ω ω⟩
set_option maxHeartbeats 4000000 in
set_option maxRecDepth 100000 in
theorem Xt (a:Option Addr) (l:List Rg) (cap:Nat) (w:World) (h:Rd er w a l l.length) (hl:l.length<=100000000):
  Calls prog 250 #[.slice a l.length cap] w λe w'=>∃v s,e=.returned v/\s.Perm (l.flatMap eg)/\s.Pairwise (λa b=>a.1<=b.1)/\zU w.heap.size w' v (iL s)/\Below w.heap.size w w':=by
 have hm:=h.max
 have hle:=h.le
 unfold maxLen at hm
 have H:=Lib.hid h
 clear h
 go_enter Tryz.func250,Tryz.ntmps250
 go_wp2_with fail
 go_loopg [3,12] l.length (λg v i wr=>∃k:Nat,k<=l.length/\g=l.length-k/\i=.int .i64 k/\zU w.heap.size wr v ((l.take k).flatMap eg)/\Below w.heap.size w wr)
 case atStart=>exact⟨0,ω,rfl,rfl,j_.nil _ _ _ _ _,Below.refl _ _⟩
 case round=>
  obtain⟨k,hk,rfl,rfl,d,m⟩:=hrel
  have hs:=m.size
  have hlen:=fA eg 2 tq (l.take k)
  have hlt2:(l.take k).length<=l.length:=by simp;omega
  by_cases C:k<l.length
  ·obtain⟨⟨c,f⟩,A⟩:∃x,l[k]?=some x:=⟨_,Zaf C⟩
   obtain⟨b,off,rfl,W,c0,c1⟩:=Rd.pair (H.out.kept m) A
   have HX:=Lib.hid A
   clear A
   go_wp2_with fail
   refine(Qmh c f _).mono ?_
   rintro e E ⟨v1,rfl,O,b1⟩
   obtain⟨a1,G,rfl,j,B⟩:=O.rd
   have hr2:=tq (c,f)
   have J:zU w.heap.size E u3 ((l.take k).flatMap eg):=(d.alloc _).below b1 (Zah _)
   have lG:Below w.heap.size w E:=m.trans ((((Below.refl wr.heap.size wr).alloc (Zah _) _).mono hs).trans (b1.mono (by simp;omega)))
   have M:=lG.size
   have Y:((l.take k).flatMap eg).length+(eg (c,f)).length<=1000000000:=ω
   clear O b1 B
   go_wp2_with (at_builtin;go_must (refine yK wB rfl rfl rfl rfl J j rfl jV zd Y ω M ?_);intro v2 w2 P g2)
   go_roundg (l.length-(k+1))
   case measure=>omega
   case rel=>exact⟨k+1,ω,rfl,by go_num,by rw[tU _ HX.out];exact P,Below.grow lG J g2 (Zah _) M⟩
  ·obtain rfl:k=l.length:=ω
   rw[ZaM] at d hlen
   have I:∀r∈l.flatMap eg,F3 r:=by
    grind [QJ]
   have o:=Lib.hid I
   go_wp2_with fail
   refine(sort d (λr S=>⟨(o.out r S).1,by have:=o.out r S;unfold F3 at this;omega⟩) ω hs).mono ?_
   rintro e E ⟨rfl,s,F,K,O,b1⟩
   have qX:s.length=(l.flatMap eg).length:=F.length_eq
   have hsl2:s.length<=200000000:=ω
   have lG:Below w.heap.size w E:=m.trans b1
   have HI:Hid (∀r∈s,F3 r):=Lib.hid λr S=>o.out r (F.mem_iff.1 S)
   have HP:=Lib.hid F
   have U:=Lib.hid K
   clear F K qX o I d m b1
   obtain⟨a1,G,rfl,j,B⟩:=O.rd
   have X:=j.max
   have hle1:=j.le
   unfold maxLen at X
   have RD:=Lib.hid j
   clear j B O
   go_wp2_with fail
   go_loopg [4,25] s.length (λg v i wr=>∃k:Nat,k<=s.length/\g=s.length-k/\i=.int .i64 k/\zU E.heap.size wr v (iL (s.take k))/\Below E.heap.size E wr)
   case atStart=>exact⟨0,ω,rfl,rfl,j_.nil _ _ _ _ _,Below.refl _ _⟩
   case round=>
    obtain⟨k,hk,rfl,rfl,d,m⟩:=hrel
    have D:=m.size
    have hlen:=xm (s.take k)
    have htl:(s.take k).length<=s.length:=by simp;omega
    have z:∀p∈iL (s.take k),F3 p:=M6 λp F=>HI.out p (Zcg F)
    by_cases C:k<s.length
    ·obtain⟨⟨c,f⟩,A⟩:∃x,s[k]?=some x:=⟨_,Zaf C⟩
     have hxi:F3 (c,f):=HI.out _ (ZaJ A)
     obtain⟨Z,hx1,hx2⟩:=hxi
     simp only at Z hx1 hx2
     obtain⟨b,off,rfl,W,c0,c1⟩:=Rd.pair (RD.out.kept m) A
     have he:=D5 A
     have Q:=Lib.hid he
     clear A he
     generalize iL (s.take k)=out at d hlen z Q
     rcases Zcu out with rfl | ⟨N,p,rfl⟩
     ·obtain⟨ao,co,rfl,rdo,_⟩:=d.rd
      clear rdo
      have n:cg [] (c,f)=[]++[(c,f)]:=rfl
      have q:=Lib.hid n
      clear n z
      simp only[Zak] at*
      go_wp2_with fail
      go_quiet (fail)
      go_wp2_with (at_builtin;go_must (refine pK wB rfl rfl rfl rfl (by simp) ((d.alloc _).drewN _) (c,f) rfl jV zd (by simp) ω (by simp;omega) ?_);intro v2 w2 P g2)
      go_roundg (s.length-(k+1))
      case measure=>omega
      case rel=>
       refine⟨k+1,ω,rfl,by go_num,?_,?_⟩
       ·rw[Q.out,q.out];exact P
       ·exact nY (pL (m.alloc D _) _) ((d.alloc _).drewN _) g2 (Zah _) (by simp;omega)
     ·rw[Zcv] at*
      have n:cg (N++[p]) (c,f)=if c<=p.2+1 then N++[(p.1,max p.2 f)] else N++[p]++[(c,f)]:=by simp[cg]
      have q:=Lib.hid n
      obtain⟨hp0,hp1,hp2⟩:=z p (by simp)
      obtain⟨g,co,rfl,V,hg,hlc,hcm⟩:=d.form (by simp)
      obtain⟨d0,d1,f0,f1⟩:=Xs d rfl (i:=N.length) (x:=p) (by simp)
      have T:=Lib.hid d
      clear n z d
      simp only[Zab,Zae,Zak] at*
      cases R:decide (c<=p.2+1)
      ·have L:p.2+1<c:=by simpa using R
       clear R
       go_wp2_with fail
       go_quiet (fail)
       go_wp2_with (at_builtin;go_must (refine pK wB rfl rfl rfl rfl (by simp) ((T.out.alloc _).drewN _) (c,f) rfl jV zd (by simp;omega) ω (by simp;omega) ?_);intro v2 w2 P g2)
       go_roundg (s.length-(k+1))
       case measure=>omega
       case rel=>
        refine⟨k+1,ω,rfl,by go_num,?_,?_⟩
        ·rw[Q.out,q.out,Zaa ω];exact P
        ·exact nY (pL (m.alloc D _) _) ((T.out.alloc _).drewN _) g2 (Zah _) (by simp;omega)
      ·have L:c<=p.2+1:=by simpa using R
       clear R
       go_wp2_with fail
       go_quiet (fail)
       go_wp2_with fail
       go_region
       all_goals go_wp2_with fail
       go_roundg (s.length-(k+1))
       case measure=>omega
       case rel=>
        refine⟨k+1,ω,rfl,by go_num,?_,?_⟩
        ·rw[Q.out,q.out,Zac L]
         have:=j_.store (t:=1) (y:=(p.1,max p.2 f)) (u:=.int .i32 (max p.2 f)) ((T.out.alloc (.cells #[.int .i32 c,.int .i32 f] 350)).drewN (nq+1)) (by simp) jV (i:=N.length) (x:=p) (by simp) ω rfl
         simpa using this
        ·exact(pL (m.alloc D _) _).setCell V _
    ·obtain rfl:k=s.length:=ω
     go_wp2_with fail
     go_ret
     refine⟨_,s,rfl,HP.out,U.out,?_,?_⟩
     ·rw[ZaM] at d
      exact d.mono lG.size
     ·exact lG.trans (m.mono lG.size)
end cls
set_option maxRecDepth 100000
set_option maxHeartbeats 4000000
namespace sx
noncomputable section
open Go Go.RowKit cls syn
def Qmi {M:Pm D} {x:Rg} (h:uy x):LR M (D.a_ 6 x) (er x):=by
 obtain⟨h1,a,b,_⟩:=h;exact .cons (.int (cL.2 ⟨by show(-2147483648:Int)<=x.1;omega,by show x.1<=(2147483647:Int);omega⟩)) (.cons (.int (cL.2 ⟨by show(-2147483648:Int)<=x.2;omega,by show x.2<=(2147483647:Int);omega⟩)) .nil)
def avV (v:AV D.E):Value:=match v with
 | .int k n=>.int k n
 | _=>.nilIface
theorem Mw:∀y:List Rg,sl.flat er y=(aV (D:=D) 6 y).map avV
 | []=>rfl
 | x::t=>by
  show er x++sl.flat er t=([AV.int .i32 x.1,AV.int .i32 x.2]++aV (D:=D) 6 t).map avV
  rw[Mw t,ZcG];rfl
theorem Qmj {M:Pm D} {H:Hp D} {w:World} {y:List Rg} {v:Value} (h:VR M (.list 6 y) v) (f:ee M H w) (hl:y.length<=100000000):∃a cap,v=.slice a y.length cap/\sl.Rd er w a y y.length:=by
 have k:y.length<=maxLen:=by grind [maxLen]
 cases h with
 | list hs l n=>
  rename_i b o cap
  refine⟨_,_,rfl,⟨λh=>(nomatch h),Zah _,k,λg e m=>?_⟩⟩;cases e;refine⟨rfl,f.slt (hs 0 m 0 _ rfl),λj u hu=>?_⟩;rw[Mw,Zbk,ZdM] at hu;obtain⟨v,d,rfl⟩:=hu;obtain⟨p,h1,i⟩:=pW fL f hs j v d;obtain⟨x,_,c⟩:=ZbG.1 (ZaJ d);have c:v=AV.int .i32 x.1\/v=AV.int .i32 x.2:=by simpa using(show v∈[AV.int .i32 x.1,AV.int .i32 x.2] from c)
  rcases c with rfl | rfl<;>(cases i;exact h1)
 | ed=>exact⟨_,_,rfl,⟨λ_=>⟨rfl,rfl⟩,Zah _,Zaj _,λg _ h=>absurd h (Nat.lt_irrefl 0)⟩⟩
theorem Mx:Ok dB:=by
 refine⟨⟨f250,_,by kernel_rfl,cN (by kernel_rfl)⟩,λy u M A w B k _ R q=>?_⟩;obtain⟨v,rfl,I⟩:=yd B;obtain⟨a,cap,rfl,m⟩:=Qmj I k u;refine(Xt a y cap w m u).mono λe p ⟨v,s,E,H,l,t,r⟩=>?_
 subst E;have j:=D7 H l;rw[QO j] at t j;rcases t.2 with⟨rfl,h⟩ | ⟨g,cap,a8,rfl,C,L,h,F,hs,ht⟩
 ·have z:aU y=[]:=Zap h;exact q M _ p (by show VR M (.list 6 (aU y)) _;rw[z];exact .ed) (jj k r 0)
 ·have D:LR M (aV 6 (aU y)) (sl.flat er (aU y)):=by
   have:=KW (M:=M) (c:=6) (f:=λx=>x) (a_:=er) (xs:=aU y) λx J=>Qmi (j.1.1 x J)
   change LR M _ (((aU y).map λx:Rg=>x).flatMap er) at this;rw[List.map_id'] at this;exact this
  have d:∀i v,(aV 6 (aU y))[i]?=some v->∃n,p.cell? ⟨g,0+i,none⟩=some n/\VR M v n:=λi v e=>by
   obtain⟨n,h1,K⟩:=D.get e;grind [World.cell?]
  refine q _ _ p (VR.list (b:=g) (o:=0) (cz.add fL) (by have G:(aU y).length<=cap:=h;unfold maxLen at F;show(aU y).length<=_;omega) h) (Y2 k r (g:=g) (o:=0) C d 0)
end
end sx
namespace ins
open Go Go.RowKit Go.Lib
abbrev R:TypeId:=275
abbrev S:TypeId:=269
section
variable {P:Program}
theorem oh (w:World) (l p ty elem:TypeId) (k b o c e:Nat) (a:Addr) (d g:Nat) (cs:List Value)
  (hu:P.underlying l=some (.slice elem)) (hs:(P.info? elem).map (·.size)=some k) (n:cs.length=Nat.min d c*k)
  (f:∀j v,cs[j]?=some v->w.cell? (a.add j)=some v) (q:∀j,j<cs.length->(w.cell? ⟨b,o+j,none⟩).isSome) (r:∀j,j<cs.length->w.frozen? ⟨b,o+j,none⟩=false) (h1:∀v∈cs,v.oneCell'):
  (Builtin.copy_ #[l,p] ty #[.slice (some ⟨b,o,none⟩) c e,.slice (some a) d g]).run P w=.ok (goInt (Nat.min d c)) (w.setCells b o cs):=by
 have hl:=run_loadCells_list (P:=P) w a cs f;have h:=run_storeCells_cells (P:=P) b o cs 0 w (by assumption) (by assumption) h1;cases m:P.info? elem with
 | none=>simp[m] at hs
 | some i=>
  have hi:i.size=k:=by grind
  simp[Builtin.copy_,Zza hu,Builtin.lenOf,Builtin.firstCells,sizeOf,typeInfo,m,hi,<-n,hl,h]
end
def My:(Tryz.prog.info? R).map (·.size)=some 2:=by kernel_rfl
set_option maxHeartbeats 4000000 in
set_option maxRecDepth 100000 in
theorem shift (b off n c i d a vc:Nat) (cs p:List Value) (w:World) (hi:i<n) (J:n+1<=c) (U:n<=1000000) (z:d≠b)
  (hcl:cs.length=n*2) (hvl:p.length=2)
  (E:∀j v,cs[j]?=some v->w.cell? ⟨b,off+j,none⟩=some v) (m:∀j,j<(n+1)*2->(w.cell? ⟨b,off+j,none⟩).isSome=true) (u:∀j,j<(n+1)*2->w.frozen? ⟨b,off+j,none⟩=false)
  (M:∀j v,p[j]?=some v->w.cell? ⟨d,a+j,none⟩=some v) (B:∀v∈cs,v.oneCell'=true) (C:∀v∈p,v.oneCell'=true)
  (V X:TypeId) (N O:Nat) (K:w.shape? d=some (V,N)) (L:w.shape? b=some (X,O)) (H:O≠0) (F:w.frozen? ⟨d,a,none⟩=false) (G:w.frozen? ⟨d,N,none⟩=false):
  Calls prog 172 #[.slice (some ⟨b,off,none⟩) n c,.int .i64 i,.slice (some ⟨d,a,none⟩) 1 vc] w λe w'=>
   e=.returned (.slice (some ⟨b,off,none⟩) (n+1) c)/\w'=(w.drew.setCells b (off+(i+1)*2) (cs.drop (i*2))).setCells b (off+i*2) p:=by
 have I:∀o Q A,(callFunc 210 #[.slice (some ⟨d,a,none⟩) 1 vc,.slice (some ⟨b,o,none⟩) Q A]).run prog w=.ok (.value (.bool false)) w:=λo Q A=>by
  rw[run_callFunc_extern Tryz.func210 (by kernel_rfl) (by kernel_rfl) (by kernel_rfl) (e:=Extern.SlicesOverlaps.overlaps #[S,S] #[4]) (by kernel_rfl),
   Lib.run_overlaps_apart w S 4 R Tryz.underlying269 2 Tryz.sizeOf275 ⟨d,a,none⟩ ⟨b,o,none⟩ 1 vc Q A z V X N O K L H F G]
  rfl
 have hdl:(cs.drop (i*2)).length=(n-i)*2:=by grind
 have mixed:Tryz.prog.follows .mixedOrders=true:=by kernel_rfl
 have hw1:IntKind.i64.wrap ((i:Int)+1)=(i:Int)+1:=by rw[IntKind.wrap_i64];omega
 have lG:(0:Int)<=(i:Int)+1:=ω
 have hin:i<=n:=ω
 have Y:¬(c=i+1):=ω
 have Z:(i:Int)<=(n:Int)+1:=ω
 have hb4:¬(c=i):=ω
 have s:∀ty f T,(Builtin.copy_ #[S,S] ty #[.slice (some ⟨b,off+(i+1)*2,none⟩) (n-i) f,.slice (some ⟨b,off+i*2,none⟩) (n+1-i) T]).run prog w.drew=.ok (goInt ((n-i:Nat):Int)) (w.drew.setCells b (off+(i+1)*2) (cs.drop (i*2))):=λty f T=>by
  have hm:Nat.min (n+1-i) (n-i)=n-i:=by grind
  have:=oh (P:=prog) w.drew S S ty R 2 b (off+(i+1)*2) (n-i) f ⟨b,off+i*2,none⟩ (n+1-i) T (cs.drop (i*2)) Tryz.underlying269 My ω
   (λj v l=>by rw[Addr.add_lit,Za4];exact E (i*2+j) v (by grind))
   (λj l=>by rw[Za4];exact m _ ω) (λj l=>by rw[Za4];exact u _ ω) (λv hv=>B v (Zc5 hv))
  grind
 obtain⟨q,g⟩:∃q,q=w.drew.setCells b (off+(i+1)*2) (cs.drop (i*2)):=⟨_,rfl⟩
 have y:∀k,k<(n+1)*2->(q.cell? ⟨b,off+k,none⟩).isSome=true:=λk hk=>by
  rw[g]
  exact isSome_setCells b _ _ _ (λj l=>by rw[Za4];exact m _ ω) _ (m k hk)
 have t:∀(W:World),(∀x,W.cell? x=q.cell? x)->(∀x,W.frozen? x=q.frozen? x)->∀ty f,(Builtin.copy_ #[S,S] ty #[.slice (some ⟨b,off+i*2,none⟩) (n+1-i) f,.slice (some ⟨d,a,none⟩) 1 vc]).run prog W=.ok (goInt 1) (W.setCells b (off+i*2) p):=λW r D ty f=>by
  have hm:Nat.min 1 (n+1-i)=1:=by grind
  have:=oh (P:=prog) W S S ty R 2 b (off+i*2) (n+1-i) f ⟨d,a,none⟩ 1 vc p Tryz.underlying269 My ω
   (λj v l=>by
    rw[Addr.add_lit,r,g,World.cell?_setCells_out b _ _ _ _ (λh _=>absurd h z)]
    exact M j v l)
   (λj l=>by rw[r,Za4];exact y _ ω) (λj l=>by rw[D,g,World.frozen?_setCells,Za4];exact u _ ω) C
  grind
 go_enter Tryz.func172,Tryz.ntmps172
 go_wp2_with (simp only[I])
 go_region_law_o (refine step_copy_runI rfl _ _ S S rfl _ _ (by simp[Act.eval,Act.put]) (by simp[Act.eval,Act.put]) (s _ _ _) ?_)
 go_wp2_with (at_builtin;refine wpList_copy_runI _ rfl _ _ S S rfl _ _ rfl rfl (t _ (λ_=>rfl) (λ_=>rfl) _ _) ?_)
 go_ret
 simp_all
abbrev zR:Value:=.agg #[.string ⟨#[]⟩,.int .i64 0]
def Qmk:(Tryz.prog.info? R).map (λi=>(i.zero,i.size,i.bytes))=some (some zR,2,24):=by kernel_rfl
abbrev O4 (w:World) (n c i:Nat) (cs:List Value):Array Value:=(cs.take (i*2)).toArray++Builtin.zeroCells zR.cells (n+1-i)++Builtin.zeroCells zR.cells (grownCap w (n+1) c R-(n+1))
theorem O5 (n:Nat):(Builtin.zeroCells zR.cells n).size=n*2:=by
 simp[Builtin.zeroCells,Value.cells]
theorem BE {w:World} {n c i:Nat} {cs:List Value} (hi:i<=n) (a:cs.length=n*2):(O4 w n c i cs).size=grownCap w (n+1) c R*2:=by
 grind [grownCap_ge,O5]
set_option maxHeartbeats 4000000 in
set_option maxRecDepth 100000 in
theorem grow (b off n c i p d vc:Nat) (cs f:List Value) (w:World) (hi:i<n) (hnc:n<=c) (s:c<n+1) (hbig:n<=1000000)
  (hcl:cs.length=n*2) (hvl:f.length=2)
  (r:∀j v,cs[j]?=some v->w.cell? ⟨b,off+j,none⟩=some v)
  (Q:∀j v,f[j]?=some v->w.cell? ⟨p,d+j,none⟩=some v) (A:∀v∈cs,v.oneCell'=true) (B:∀v∈f,v.oneCell'=true):
  Calls prog 172 #[.slice (some ⟨b,off,none⟩) n c,.int .i64 i,.slice (some ⟨p,d,none⟩) 1 vc] w λe w'=>
   e=.returned (.slice (some ⟨w.heap.size,0,none⟩) (n+1) (grownCap w (n+1) c R))/\
   w'=(((w.alloc (.cells (O4 w n c i cs) R)).drew.setCells w.heap.size (i*2) f).drew).setCells w.heap.size ((i+1)*2) (cs.drop (i*2)):=by
 have mixed:Tryz.prog.follows .mixedOrders=true:=by kernel_rfl
 have⟨i0,N,U,X,V⟩:=info_parts Qmk
 have M:b<w.heap.size:=block_lt_of_cell (r 0 _ (Zaf ω))
 have T:p<w.heap.size:=block_lt_of_cell (Q 0 _ (Zaf ω))
 have O:(n:Int)+1-(i:Int)=((n+1-i:Nat):Int):=ω
 have z:i+(n+1-i)=n+1:=ω
 have hold:(Builtin.firstCells i0.size i (.slice (some ⟨b,off,none⟩) i c)).run prog w.drew=.ok (cs.take (i*2)).toArray w.drew:=by
  rw[X]
  exact run_firstCells_some w.drew 2 i ⟨b,off,none⟩ i c (cs.take (i*2)) (by grind) (λj v g=>by
   rw[Addr.add_lit]
   rw[Za7] at g
   split at g
   ·exact r j v g
   ·cases g)
 have t:∀ty,(Builtin.append_ #[S,3] ty #[.slice (some ⟨b,off,none⟩) i c,.int .i64 ((n:Int)+1-(i:Int))]).run prog w=
   .ok (.slice (some ⟨w.heap.size,0,none⟩) (n+1) (grownCap w (n+1) c R)) (w.drew.alloc (.cells (O4 w n c i cs) R)):=λty=>by
  have h:=Lib.run_append_grow_zeros w S 3 ty R i0 _ .i64 .i64 Tryz.underlying269 Tryz.underlying3 N U (some ⟨b,off,none⟩) i c (cs.take (i*2)) hold (n+1-i) ω ω ω ω (by grind) (by rw[V,z];exact growslice_fits s ω)
  grind
 obtain⟨G,Z⟩:∃G,G=grownCap w (n+1) c R:=⟨_,rfl⟩
 obtain⟨a,m⟩:∃a:Array Value,a=O4 w n c i cs:=⟨_,rfl⟩
 have hGn:n+1<=G:=by grind [grownCap_ge]
 have J:a.size=G*2:=by grind [BE]
 have I:(n+1)*2<=a.size:=ω
 rw[<-Z] at t ⊢
 rw[<-m] at t ⊢
 obtain⟨k,l⟩:∃k,k=w.drew.alloc (.cells a R):=⟨_,rfl⟩
 have hN:∀j,j<(n+1)*2->(k.cell? ⟨w.heap.size,j,none⟩).isSome=true:=λj g=>by
  rw[l,World.cell?_alloc_at (w:=w.drew) a _ w.heap.size j rfl,Za5 ω];rfl
 have hNf:∀j,k.frozen? ⟨w.heap.size,j,none⟩=false:=λj=>by rw[l];exact World.frozen?_alloc_at (w:=w.drew) a _ w.heap.size j rfl
 have H:∀j v,w.cell? ⟨b,j,none⟩=some v->k.cell? ⟨b,j,none⟩=some v:=λj v h=>by rw[l,World.cell?_alloc_past (w:=w.drew) _ b j M];exact h
 have hOv:∀j v,w.cell? ⟨p,j,none⟩=some v->k.cell? ⟨p,j,none⟩=some v:=λj v h=>by rw[l,World.cell?_alloc_past (w:=w.drew) _ p j T];exact h
 have y:∀(W:World),(∀x,W.cell? x=k.cell? x)->(∀x,W.frozen? x=k.frozen? x)->∀ty q,(Builtin.copy_ #[S,S] ty #[.slice (some ⟨w.heap.size,i*2,none⟩) (n+1-i) q,.slice (some ⟨p,d,none⟩) 1 vc]).run prog W=.ok (goInt 1) (W.setCells w.heap.size (i*2) f):=λW u K ty q=>by
  have hm:Nat.min 1 (n+1-i)=1:=by grind
  have:=oh (P:=prog) W S S ty R 2 w.heap.size (i*2) (n+1-i) q ⟨p,d,none⟩ 1 vc f Tryz.underlying269 My ω
   (λj v g=>by grind [Addr.add_lit])
   (λj g=>by grind) (λj g=>by grind) B
  grind
 have hGim:¬(G=i+1):=ω
 have hci:¬(c=i):=ω
 have L:b≠w.heap.size:=ω
 have hdl:(cs.drop (i*2)).length=(n-i)*2:=by grind
 have o:∀(W:World),(∀x,W.cell? x=(k.setCells w.heap.size (i*2) f).cell? x)->(∀x,W.frozen? x=(k.setCells w.heap.size (i*2) f).frozen? x)->∀ty q Y,(Builtin.copy_ #[S,S] ty #[.slice (some ⟨w.heap.size,(i+1)*2,none⟩) (n-i) q,.slice (some ⟨b,off+i*2,none⟩) (n-i) Y]).run prog W=.ok (goInt ((n-i:Nat):Int)) (W.setCells w.heap.size ((i+1)*2) (cs.drop (i*2))):=λW u K ty q Y=>by
  have hm:Nat.min (n-i) (n-i)=n-i:=by grind
  have:=oh (P:=prog) W S S ty R 2 w.heap.size ((i+1)*2) (n-i) q ⟨b,off+i*2,none⟩ (n-i) Y (cs.drop (i*2)) Tryz.underlying269 My ω
   (λj v g=>by
    rw[Addr.add_lit,u,World.cell?_setCells_out _ _ _ _ _ (λh _=>absurd h L),Za4]
    exact H _ v (r (i*2+j) v (by grind)))
   (λj g=>by grind [isSome_setCells])
   (λj g=>by grind [World.frozen?_setCells]) (λv hv=>A v (Zc5 hv))
  grind
 have C:∀x,((w.alloc (.cells a R)).drew).cell? x=(w.drew.alloc (.cells a R)).cell? x:=λx=>rfl
 have D:∀x,((w.alloc (.cells a R)).drew).frozen? x=(w.drew.alloc (.cells a R)).frozen? x:=λx=>rfl
 have E:∀x,(((w.alloc (.cells a R)).drew.setCells w.heap.size (i*2) f).drew).cell? x=((w.drew.alloc (.cells a R)).setCells w.heap.size (i*2) f).cell? x:=λx=>rfl
 have F:∀x,(((w.alloc (.cells a R)).drew.setCells w.heap.size (i*2) f).drew).frozen? x=((w.drew.alloc (.cells a R)).setCells w.heap.size (i*2) f).frozen? x:=λx=>rfl
 have hw1:IntKind.i64.wrap ((i:Int)+1)=(i:Int)+1:=by rw[IntKind.wrap_i64];omega
 have lG:(0:Int)<=(i:Int)+1:=ω
 have hin:i<=n:=ω
 clear O z hold m Z I J
 go_enter Tryz.func172,Tryz.ntmps172
 go_wp2_with (first
  | (at_builtin;refine Lib.wpList_append_run _ rfl _ _ _ _ rfl _ _ rfl rfl _ _ (t _) ?_)
  | (at_builtin;refine wpList_copy_runI _ rfl _ _ S S rfl _ _ rfl rfl (y _ C D _ _) ?_)
  | (at_builtin;refine wpList_copy_runI _ rfl _ _ S S rfl _ _ rfl rfl (o _ (λ_=>rfl) (λ_=>rfl) _ _ _) ?_))
 go_region_law_o (refine step_copy_runI rfl _ _ S S rfl (.slice (some ⟨w.heap.size,(i+1)*2,none⟩) (n-i) (G-(i+1))) (.slice (some ⟨b,off+i*2,none⟩) (n-i) (c-i)) (by simp[Act.eval,Act.put]) (by simp[Act.eval,Act.put]) (o _ E F 3 (G-(i+1)) (c-i)) ?_)
 go_wp2
 go_ret
 simp_all
end ins
set_option maxRecDepth 100000
set_option maxHeartbeats 4000000
namespace sx
noncomputable section
open Go Go.RowKit cls syn
abbrev QfZ:=List Row×Nat×Row
variable {M:Pm D} {l:List Row} {i:Nat} {Z b:List Value}
def rwO (n:Nat) (l:List Row):Nat×AO D.E:=(n,.arr 16 l 275 false)
def Qdu (a:List (AV D.E)) (s:St D.E):C QfZ:=match a with
 | [l,i,r]=>az (aL D s 16 l) λl=>aP (cT i) λ_ i=>az (aL D s 16 r) λr=>.ret (l,i.toNat,(r:List Row).getD 0 IS)
 | _=>.fail
def lE (l:List Row) (i:Nat) (r:Row):List Row:=l.take i++r::l.drop i
def s6:bh D:=⟨172,QfZ,Qdu,λy=>y.2.1<=y.1.length/\y.1.length<=1000,λy=>[.own 0 2 (ag y.1),Qvo y.2.1,.own 1 2 1],λy=>[rwO 0 y.1,rwO 1 [y.2.2]],
 λy=>.own 2 2 (ag (lE y.1 y.2.1 y.2.2)),λy=>[rwO 2 (lE y.1 y.2.1 y.2.2)],2,3⟩
def Qf1:bh D:=⟨172,QfZ,Qdu,λy=>y.2.1=y.1.length/\y.1.length<=1000,λy=>[.own 0 2 (ag y.1),Qvo (ag y.1),.own 1 2 1],λy=>[rwO 0 y.1,rwO 1 [y.2.2]],
 λy=>.own 2 2 (ag (y.1++[y.2.2])),λy=>[rwO 2 (y.1++[y.2.2])],2,3⟩
def Qdv (y:(List Row)×Nat×Row):Prop:=let a:=ag y.1;let q1:=([y.2.2]:List Row);let b:=ag (bM y.1 q1);aG 0 a/\aG a a/\aj (aB 1 0) (a=ag (y.1++q1)/\y.1=(y.1++q1)/\True) (aj (aB a a) (bJ b 24/\b=ag (y.1++q1)/\bM y.1 q1=(y.1++q1)/\True) (False))
def Qdw (y:XJ):Prop:=let b:=ag y.l;let q1:=jM y.l y.k;let c:=rD y.l y.k y.v;let d:=((lL y.l y.k:Nat):Int);let a:=d.toNat;let e:=([Row.mk y.k y.v]:List Row);let f:=List.getD e 0 IS;Iv (TbP (XJ.mk y.l y.k 0))/\RAJ y.k b y.l (aj q1 (aG 0 d/\aw d b/\false=(!q1)/\b=ag c/\cS y.l a (Row.mk (gt (Row.mk [] 0) y.l a).k y.v)=c/\True) (Iv (a<=y.l.length/\y.l.length<=1000)/\aa [b] (d=(a:Int)/\ag e=1/\e=([f]:List Row)/\aa [y.l] (true=(!q1)/\ag (lE y.l a f)=ag c/\lE y.l a f=c/\True))))
theorem Qml {a b c:AV D.E} {A:Array Value} (h:LR M [a,b,c] A.toList):∃v u t,A=#[v,u,t]/\VR M a v/\VR M b u/\VR M c t:=by
 obtain⟨l⟩:=A;obtain⟨v,r,e,h1,d⟩:=h.aM;obtain⟨u,m,e2,j,f⟩:=d.aM;obtain⟨t,n,i,k,g⟩:=f.aM;have:=g.jA;grind
theorem Qmm:Ok Qf1:=okZ (V:=Qdv) [] f172 (λ_=>⟨[],[7],[],[],1,[]⟩) trivial λy a=>by
 unfold Qdv;simp only[bL,bC,au,br,aT];have h:y.1.length<=1000:=a.2
 skip
 grind
theorem JD (c:Nat) (xs:List (D.E c)) (n:Nat):aV c (xs.drop n)=(aV c xs).drop (n*D.size c):=by
 by_cases h:n<=xs.length
 ·have e:aV c xs=aV c (xs.take n)++aV c (xs.drop n):=by rw[<-fR,ZaO]
  grind [bf,fL]
 ·rw[Zbu ω,Zbu (by rw[bf fL];exact Zbc _ ω)];rfl
noncomputable def vK (l:List Row):List (AV D.E):=aV (D:=D) 16 l
def FW (a b:List Row):vK (a++b)=vK a++vK b:=fR (D:=D) 16 a b
def O6 (l:List Row) (i:Nat):vK (l.take i)=(vK l).take (i*2):=nF (D:=D) fL 16 l i
def O7 (l:List Row) (i:Nat):vK (l.drop i)=(vK l).drop (i*2):=JD 16 l i
def FX (l:List Row):(vK l).length=l.length*2:=bf (D:=D) fL 16 l
def Qf2 {r:Row} (a:LR M (vK l) Z) (c:LR M (vK [r]) b):LR M (vK (lE l i r)) (Z.take (i*2)++(b++Z.drop (i*2))):=by
 have e:lE l i r=l.take i++([r]++l.drop i):=rfl;rw[e,FW,FW,O6,O7];exact(a.take _).app (c.app (a.drop _))
theorem FY {n:Nat} {C:Nat->Option Value} (a:Z.length=n*2) (hi:i<=n) (c:b.length=2) (p1:∀q,q<i*2->C q=Z[q]?) (p2:∀j,j<2->C (i*2+j)=b[j]?)
  (p3:∀j,j<(n-i)*2->C ((i+1)*2+j)=(Z.drop (i*2))[j]?) {q:Nat} {u:Value} (h:(Z.take (i*2)++(b++Z.drop (i*2)))[q]?=some u):C q=some u:=by
 have ht:(Z.take (i*2)).length=i*2:=by rw[Zar];omega
 by_cases h1:q<i*2
 ·grind
 ·rw[Zaz ω,ht] at h;grind
theorem Xu {H:Hp D} {w:World} (g:ee M H w) {b:Nat} {n:Int} {v:Value} (i:H b=some (.arr 16 l 275 false)) (p:n=l.length) (q:0<l.length) (m:VR M (.own b 2 n) v):
  ∃a cap C c cs,M.pl b=some a/\a.real/\a.len=l.length/\a.je=2/\v=.slice (some ⟨a.bY,a.sh,none⟩) l.length cap/\l.length<=cap/\a.sh+cap*2=a.qK/\
   w.heap[a.bY]?=some (.cells C 275 c)/\C.size=a.qK/\c.1=c.2/\LR M (vK l) cs/\cs.length=l.length*2/\∀j v,cs[j]?=some v->w.cell? ⟨a.bY,a.sh+j,none⟩=some v:=by
 obtain⟨a,e,hl,hz,k⟩:=g.obj b _ i;replace hl:a.len=l.length:=hl;replace hz:a.je=2:=hz;cases m with
 | own g1 g2 g3 g4 g5 g6 g7=>
  rename_i cap o
  rw[e] at g1;cases g1;have d:=k g3;obtain⟨cs,h1,f⟩:=d.rd.list;obtain⟨C,c,k1,k2,k3,k4,k5⟩:=d;refine⟨a,cap,C,c,cs,e,g3,hl,hz,by rw[hl],ω,by rw[hz] at g7;exact g7,k1,k2,(k5 rfl).elim id λh=>ω,h1,?_,f⟩;rw[<-h1.1];exact FX l
 | kD g1 g2 g3 g4 g5=>omega
theorem Qdx:Ok s6:=by
 refine⟨⟨f172,_,by kernel_rfl,cN (by kernel_rfl)⟩,λy hy M A w hA J hT R hR=>?_⟩;obtain⟨hi,hl⟩:=hy;by_cases K:y.2.1=y.1.length
 ·have e:lE y.1 y.2.1 y.2.2=y.1++[y.2.2]:=by unfold lE;rw[K,ZaM,ZbH]
  have O:LR M [.own 0 2 (ag y.1),.int .i64 y.2.1,.own 1 2 1] A.toList:=hA;rw[K] at O;refine Qmm.2 y ⟨K,hl⟩ M A w (by show LR M [.own 0 2 (ag y.1),.int .i64 (ag y.1),.own 1 2 1] _;rw[au y.1] at O ⊢;exact O) J hT R λM' v' w' hv k=>hR M' v' w' ?_ ?_
  ·show VR M' (.own 2 2 (ag (lE y.1 y.2.1 y.2.2))) v'
   rw[e];exact hv
  ·show cU _ M w (λt=>cA [rwO 2 (lE y.1 y.2.1 y.2.2)] t) M' w' 2 3
   rw[e];exact k
 ·obtain⟨v0,v1,v2,rfl,hv0,hv1,hv2⟩:=Qml hA;obtain rfl:=fE hv1;have s:y.2.1<y.1.length:=Nat.lt_of_le_of_ne hi K;obtain⟨m0,cap,C,fz,cs,B,H,hl0,hz0,rfl,X,htot,hC,hCs,hfz,Y,g,p⟩:=Xu J (b:=0) rfl (au y.1) ω hv0;obtain⟨m1,I,C1,fz1,d,hm1,hr1,hl1,hz1,rfl,hcap1,Qva,V,Qwu,hfz1,hvs,m,f⟩:=Xu J (b:=1) (l:=[y.2.2]) rfl rfl (by simp) hv2;have hne:m1.bY≠m0.bY:=λe=>absurd (J.inj 1 0 _ _ m1 m0 rfl rfl hm1 B hr1 H e) (by decide)
  have T:∀v∈cs,v.oneCell':=tg Y (ec.2 λv hv=>(ef fL hv).1);have U:∀v∈d,v.oneCell':=tg hvs (ec.2 λv hv=>(ef fL hv).1);generalize hi2:y.2.1=i at*
  generalize P:y.1=l at*
  generalize hr2:y.2.2=r at*
  replace m:d.length=2:=m;have W:=Qf2 (i:=i) Y hvs;have F:(lE l i r).length=l.length+1:=by unfold lE;rw[Zab,Zae,Zar,Zbg];omega
  have hnr:(aV (D:=D) 16 (lE l i r)).length=(l.length+1)*2:=by rw[<-F];exact FX _
  have hdl:(cs.drop (i*2)).length=(l.length-i)*2:=by rw[Zbg,g];omega
  have L:∀{M':Pm D} {w':World} {mi:MI} {cap:Nat},M'.pl 2=some mi->mi.real->mi.je=2->mi.len=l.length+1->l.length+1<=cap->mi.sh+cap*2=mi.qK->
    cU (λt=>cA (s6.heap y) t) M w (λc=>if c=2 then some (.arr 16 (lE l i r) 275 false) else if c=0 then none else cA (s6.heap y) c) M' w' 2 3->
    R (.returned (.slice (some ⟨mi.bY,mi.sh,none⟩) (l.length+1) cap)) w':=λ{M' w' mi cap} S a2 a3 a4 a5 a6 k=>by
   refine hR M' _ w' ?_ ?_
   ·show VR M' (.own 2 2 (ag (lE y.1 y.2.1 y.2.2))) _
    rw[P,hi2,hr2,<-a4];exact VR.own S a3 a2 (by rw[a4,au,F]) ω ω (by rw[a3];exact a6)
   ·have:=k.trans (cU.drop (b:=1) k.fJ 3);have e:(λt=>cA (s6.dy y) t)=ja (λc=>if c=2 then some (.arr 16 (lE l i r) 275 false) else if c=0 then none else cA (s6.heap y) c) 1 none:=by
     funext t;show cA [(2,AO.arr (E:=D.E) 16 (lE y.1 y.2.1 y.2.2) _ false)] t=if t=1 then none else if t=2 then _ else if t=0 then none else cA [(0,_),(1,_)] t
     rw[P,hi2,hr2,fh,fh,fh];by_cases h1:t=1
     ·subst h1;rfl
     ·by_cases h2:t=2
      ·grind
      ·by_cases h3:t=0
       ·subst h3;rfl
       ·grind
    rw[e];exact this
  have hmx:l.length+1<=9223372036854775807:=ω;by_cases z:l.length+1<=cap
  ·have Quf:∀j,w.frozen? ⟨m0.bY,j,none⟩=false:=λj=>by simp only[World.frozen?,hC,hfz];simp
   have N:∀j,w.frozen? ⟨m1.bY,j,none⟩=false:=λj=>by simp only[World.frozen?,V,hfz1];simp
   refine(ins.shift m0.bY m0.sh l.length cap i m1.bY m1.sh I cs d w s z ω hne g m p (λj hj=>?_) (λj _=>Quf _) f T U ins.R ins.R C1.size C.size (by simp[World.shape?,V]) (by simp[World.shape?,hC]) ω (N _) (N _)).mono λe w' ⟨K,hw⟩=>?_
   ·grind [World.cell?]
   ·subst K hw;obtain⟨C2,c1,c2,c3⟩:=fy m0.bY _ fz (cs.drop (i*2)) (m0.sh+(i+1)*2) w.drew C hC ω;obtain⟨n,d1,d2,Q⟩:=fy m0.bY _ fz d (m0.sh+i*2) _ C2 c1 ω;obtain⟨e1,e2,e3⟩:=dV m0.bY (cs.drop (i*2)) (m0.sh+(i+1)*2) w.drew;obtain⟨f1,f2,f3⟩:=dV m0.bY d (m0.sh+i*2) (w.drew.setCells m0.bY (m0.sh+(i+1)*2) (cs.drop (i*2)));have Z:M.pl 2=none:=hT 2 (Zah 2)
    let mi:MI:=⟨m0.bY,m0.sh,m0.qK,m0.je,l.length+1,true⟩
    have hle:sx.Le M (M.add 2 mi):=Pm.qU Z;have hC0:∀q u,cs[q]?=some u->C[m0.sh+q]?=some u:=λq u h=>by
     grind [World.cell?]
    have x:∀q u,(cs.take (i*2)++(d++cs.drop (i*2)))[q]?=some u->n[m0.sh+q]?=some u:=λq u h=>by
     refine FY (C:=λq=>n[m0.sh+q]?) g (Zcx s) m (λq hq=>?_) (λj hj=>?_) (λj hj=>?_) h
     ·grind
     ·show n[m0.sh+(i*2+j)]?=_
      rw[Q,Zac ω,show m0.sh+(i*2+j) -(m0.sh+i*2)=j by omega]
     ·show n[m0.sh+((i+1)*2+j)]?=_
      rw[Q,Zaa ω,c3,Zac ω,show m0.sh+((i+1)*2+j) -(m0.sh+(i+1)*2)=j by omega]
    have k:=cU.upon (M1:=M.add 2 mi) (sg1:=M.sg) (b0:=0) (b1:=2) (o1:=.arr 16 (lE l i r) 275 false) (rI:=m0) (B3:=mi) (lo:=2) (hi:=3) (w':=(w.drew.setCells m0.bY (m0.sh+(i+1)*2) (cs.drop (i*2))).setCells m0.bY (m0.sh+i*2) d) J (show cA (s6.heap y) 0=some (.arr 16 l 275 false) by rw[<-P];rfl) rfl B H rfl rfl rfl (.inr ⟨rfl,Z,rfl⟩) (λ_ _ _ h=>h) (λ_ _ h=>.inl h)
     ((dU _ _ _ _).trans (dU _ _ _ _)) (λc hc=>(dH _ _ _ _ c hc).trans (dH _ _ _ _ c hc)) (f1.trans e1) (f2.trans e2) (f3.trans e3)
     ⟨F.symm,hz0,λ_=>⟨n,fz,d1,by rw[d2,c2,hCs],by rw[hnr];show m0.sh+_<=m0.qK;omega,λq u hu=>?_,λ_=>.inl hfz⟩⟩ (λo v h=>?_) (λ_ j _=>?_)
    ·exact L (M':=M.add 2 mi) (mi:=mi) rfl rfl hz0 rfl z htot k
    ·obtain⟨u',S,a2⟩:=W.get hu;exact⟨u',x q u' S,a2.mono hle⟩
    ·rw[J.sep 0 _ m0 (show cA (s6.heap y) 0=_ from rfl) rfl B H o trivial] at h;cases h
    ·exact J.sep 0 _ m0 (show cA (s6.heap y) 0=_ from rfl) rfl B H j trivial
  ·have hN:(ins.O4 w l.length cap i cs).size=grownCap w (l.length+1) cap ins.R*2:=ins.BE (Zcx s) g;have hG:=grownCap_ge w (l.length+1) cap ins.R;refine(ins.grow m0.bY m0.sh l.length cap i m1.bY m1.sh I cs d w s X ω ω g m p f T U).mono λe w' ⟨K,hw⟩=>?_
   subst K;generalize hGG:grownCap w (l.length+1) cap ins.R=G at*
   generalize hRR:ins.O4 w l.length cap i cs=a at*
   have hg:(w.alloc (.cells a ins.R)).drew.heap[w.heap.size]?=some (.cells a ins.R (0,0)):=by show(w.heap.push _)[w.heap.size]?=_;simp
   obtain⟨C2,c1,c2,c3⟩:=fy w.heap.size _ (0,0) d (i*2) _ a hg ω;obtain⟨n,d1,d2,Q⟩:=fy w.heap.size _ (0,0) (cs.drop (i*2)) ((i+1)*2) ((w.alloc (.cells a ins.R)).drew.setCells w.heap.size (i*2) d).drew C2 c1 ω;obtain⟨e1,e2,e3⟩:=dV w.heap.size d (i*2) (w.alloc (.cells a ins.R)).drew;obtain⟨f1,f2,f3⟩:=dV w.heap.size (cs.drop (i*2)) ((i+1)*2) ((w.alloc (.cells a ins.R)).drew.setCells w.heap.size (i*2) d).drew;have s1:=dU w.heap.size d (i*2) (w.alloc (.cells a ins.R)).drew;have s2:=dU w.heap.size (cs.drop (i*2)) ((i+1)*2) ((w.alloc (.cells a ins.R)).drew.setCells w.heap.size (i*2) d).drew;have b1:=dH w.heap.size d (i*2) (w.alloc (.cells a ins.R)).drew;have b2:=dH w.heap.size (cs.drop (i*2)) ((i+1)*2) ((w.alloc (.cells a ins.R)).drew.setCells w.heap.size (i*2) d).drew;rw[<-hw] at d1 f1 f2 f3 s2 b2;have di:w'.heap.size=w.heap.size+1:=s2.trans (s1.trans (by show(w.heap.push _).size=_;simp));have hblk:∀c,c<w.heap.size->w'.heap[c]?=w.heap[c]?:=λc hc=>(b2 c ω).trans ((b1 c ω).trans (Below.heap_alloc _ _ _ hc))
   have Z:M.pl 2=none:=hT 2 (Zah 2)
   let mi:MI:=⟨w.heap.size,0,a.size,2,l.length+1,true⟩
   have hle:sx.Le M (M.add 2 mi):=Pm.qU Z;have x:∀q u,(cs.take (i*2)++(d++cs.drop (i*2)))[q]?=some u->n[0+q]?=some u:=λq u h=>by
    rw[Za6];refine FY (C:=λq=>n[q]?) g (Zcx s) m (λq hq=>?_) (λj hj=>?_) (λj hj=>?_) h
    ·show n[q]?=_
     rw[Q,Zaa ω,c3,Zaa ω,<-hRR];have ht:(cs.take (i*2)).length=i*2:=by rw[Zar];omega
     show((cs.take (i*2)).toArray++_++_)[q]?=_
     rw[ZbT (by rw[Zct,Zb5];omega),ZbT (by rw[Zb5];omega),Zc0,Za7,Zac hq]
    ·show n[i*2+j]?=_
     rw[Q,Zaa ω,c3,Zac ω,show i*2+j-i*2=j by omega]
    ·show n[(i+1)*2+j]?=_
     rw[Q,Zac ω,show(i+1)*2+j-(i+1)*2=j by omega]
   have st1:=cU.nB (lo:=2) J Z (.arr 16 (lE l i r) 275 false) mi (λ_=>rfl) ω hblk (f1.trans e1) (f2.trans e2) (f3.trans e3)
    ⟨F.symm,rfl,λ_=>⟨n,(0,0),d1,by rw[d2,c2],by rw[hnr];show 0+_<=a.size;omega,λq u hu=>let ⟨u',S,a2⟩:=W.get hu;⟨u',x q u' S,a2.mono hle⟩,λ_=>.inl rfl⟩⟩ (λ_ _ _ h=>by cases h)
   have st2:=st1.trans (cU.drop (b:=0) st1.fJ 3);have e:(λc=>if c=2 then some (AO.arr (E:=D.E) 16 (lE l i r) 275 false) else if c=0 then none else cA (s6.heap y) c)=ja (ja (λt=>cA (s6.heap y) t) 2 (some (.arr 16 (lE l i r) 275 false))) 0 none:=by
    funext t;grind [ja]
   exact L (M':=M.add 2 mi) (mi:=mi) rfl rfl rfl rfl hG (by show 0+G*2=a.size;omega) (by rw[e];exact st2)
theorem Qbo {k:By} (h:jM l k):lL l k<l.length:=by
 obtain⟨r,a,e⟩:=ZcT.1 h;refine List.findIdx_lt_length_of_exists ⟨r,a,?_⟩;grind
theorem Qmn:Ok IT:=okZ (V:=Qdw) [Ow,s6] f112 (λ_=>⟨[],[5],[],[],1,[]⟩) ⟨Qkh,Qdx⟩ λy a=>by
 unfold Qdw;simp only[bL,bC,au,br,aT,cS,dq,Zad];have b:lL y.l y.k<=y.l.length:=ZdL;refine⟨a,λh=>?_,λh=>?_⟩
 ·grind [rD,Qbo]
 ·have e:lE y.l (lL y.l y.k) ([(⟨y.k,y.v⟩:Row)].getD 0 IS)=rD y.l y.k y.v:=by unfold rD lE;rw[h,Zaa (by decide)];rfl
  exact⟨⟨b,a.2⟩,rfl,rfl,(by rw[h];rfl),ZaR (λl:List Row=>(l.length:Int)) e,e⟩
end
end sx
namespace sx
open Go Go.RowKit cls syn
set_option maxRecDepth 100000
noncomputable section
def Qbp:bh D:=bO 250 (List Rg) Cr (λy=>y.length<=10/\aU y=y) (λy=>[.list 6 y]) λy=>.list 6 y
def Qmo:Ok Qbp:=⟨Mx.1,λy c M A w f h i R g=>by
 have c:y.length<=10/\aU y=y:=c;refine Mx.2 y (by show y.length<=_;omega) M A w f h i R λd e j a b=>g d e j ?_ b
 have a:VR d (.list 6 (aU y)) e:=a;rw[c.2] at a;exact a⟩
def cdK (t:TypeId):Option Nat:=bif Nat.beq t (nat_lit 4000000000) then some (nat_lit 0) else cdD t
def vcI (tab:s7) (a:List (Nat×List Nat)) (un n:Nat) (fn:Func) (k:bh D) (mu:List Nat) (y:k.Y):Prop:=bif Nat.ble (kb (k.args y)) fn.ntmps then J3 prog D cdK (inl prog D cdK un tab a n) ⟨[],mu,[],[],un,[]⟩ fn.ntmps k (xG fn) fn.results.toList y else False
def okI {k:bh D} {V:k.Y->Prop} (tab:s7) (c:List (Nat×List Nat)) (un n:Nat) (fn:Func) (mu:List Nat) (ht:RA tab) (h:∀y,k.pre y->V y) (l:∀y,V y=vcI tab c un n fn k mu y:=by intro y;kernel_rfl)
  (b:Tryz.prog.funcs[k.f]?=some fn:=by kernel_rfl) (e:fn.body.isSome:=by kernel_rfl):Ok k:=by
 refine⟨⟨fn,_,b,cN e⟩,λy m=>?_⟩;have a:=Eq.mp (l y) (h y m);unfold vcI at a;rw[uB] at a;by_cases d:Nat.ble (k.args y).length fn.ntmps
 ·rw[d] at a;exact λM A w hl i j R g=>ke fL mixed sm b (cN e) (Xr fL mixed sm ht.all c n) (ZcY d) a M A w hl i j R g
 ·rw[Bool.not_eq_true] at d;rw[d] at a;exact a.elim
def Qug:List (Nat×List Nat):=[(290,[4]),(204,[3]),(216,[6,7]),(220,[9]),(291,[13]),(166,[6]),(243,[1,2]),(112,[5])]
def Qf3:s7:=[Qbp,s6,S3 1,S3 2,S3 3,S3 4,Hl,VG]
end
end sx
namespace sx
open Go Go.RowKit cls syn
set_option maxRecDepth 100000
def Mz:List Gt:=[(120,1)]
def BF:List Rg:=[(120,120)]
def MA:List Nd:=[⟨2,[(120,120)],0,0,false,0,0⟩]
def Xv:List aW:=[⟨4,0,0,[]⟩,⟨1,0,0,[(120,120)]⟩,⟨4,1,0,[]⟩,⟨7,0,0,[]⟩]
def MB:By:=[0,1,3,1,2]
def Qdy:List aX:=[⟨0,(-1),(-1),(-1),(-1),(-1),(-1),(-1),(-1),(-1),(-1)⟩]
def MC:By:=[1,1,1,3,1,2,6,207,117,27,177,205,249,0,0,0,0,0,0,0,0,0,0,0,0,0,0,1,1,0,0,0,0,0,0,0,0,0,0,0,1,1,0,0,0,0,0,0,0,0,0,0,0,0,0,0]
def Xw (_:Unit):Prop:=let c:=λp:Prop=>RAI ((-1):Int) ((-1):Int) (p);let d:=λp:Prop=>Iv (Qbp.pre ([(120,120)]:List Rg))/\(RAH (BF:List Rg) (p));let a:=λp:Prop=>c (c (p));let e:=λp:Prop=>aa ([Mz,Mz]:List (List Gt)) (p);let b:=λp:Prop=>RAI (120:Int) (120:Int) (p);let f:=λp:Prop=>RAI (0:Int) (false:Bool) (p);Iv (s6.pre ([],(0,⟨[97],0⟩)))/\(aa ([0,0,1]:List (Int)) (aa ([[⟨[97],0⟩],[]]:List (List Row)) (e (e (aa ([Mz]:List (List Gt)) (d (e (e (e (aa ([Mz]:List (List Gt)) (aa ([MA,MA]:List (List Nd)) (aa ([2]:List (Int)) (aa ([BF]:List (List Rg)) (aa ([0]:List (Int)) (f (aa ([0,0]:List (Int)) (d (b (b (aa ([2]:List (Int)) (aa ([BF]:List (List Rg)) (aa ([0]:List (Int)) (f (aa ([0,0]:List (Int)) (aa ([MA,MA]:List (List Nd)) (aa ([2]:List (Int)) (aa ([BF]:List (List Rg)) (aa ([0]:List (Int)) (f (aa ([0,0]:List (Int)) (d (b (b (aa ([2]:List (Int)) (aa ([BF]:List (List Rg)) (aa ([0]:List (Int)) (f (aa ([0,0,1]:List (Int)) (aa ([[⟨4,0,0,[]⟩]]:List (List aW)) (aa ([BF]:List (List Rg)) (aa ([[⟨4,0,0,[]⟩,⟨1,0,0,[(120,120)]⟩],[⟨4,0,0,[]⟩,⟨1,0,0,[(120,120)]⟩,⟨4,1,0,[]⟩]]:List (List aW)) (aa ([[],[],[]]:List (By)) (d (b (b (Iv (Hl.pre (⟨⟨[⟨4,0,0,[]⟩,⟨1,0,0,[(120,120)]⟩,⟨4,1,0,[]⟩,⟨7,0,0,[]⟩],[0]⟩,0,[],⟨[0,0,0,0],[]⟩⟩:pq))/\(aa ([Xv]:List (List aW)) (aa ([[0]]:List (List Int)) (aa ([0,0,4,0]:List (Int)) (aa ([[]]:List (List Item)) (aa ([[0,0,0,0]]:List (List Int)) (aa ([[]]:List (List dd)) (aa ([MB,MB,MB,MB]:List (By)) (aa ([1]:List (Int)) (aa ([[],[],[]]:List (By)) (d (b (b (Iv (VG.pre (⟨⟨[⟨4,0,0,[]⟩,⟨1,0,0,[(120,120)]⟩,⟨4,1,0,[]⟩,⟨7,0,0,[]⟩],[0]⟩,0,⟨false,(-1),(-1),(-1),(-1),(-1),(-1),(-1),(-1),(-1),(-1),[⟨0,(-1),(-1),(-1),(-1),(-1),(-1),(-1),(-1),(-1),(-1)⟩]⟩,0⟩:zO))/\(aa ([Xv]:List (List aW)) (aa ([[0]]:List (List Int)) (f (a (a (c (aa ([Qdy]:List (List aX)) (aa ([0]:List (Int)) (a (a (a (a (a (a (a (c (aa ([Xv]:List (List aW)) (aa ([[0]]:List (List Int)) (aa ([false]:List (Bool)) (a (a (c (aa ([Qdy]:List (List aX)) (aa ([[]]:List (By)) (aa ([1]:List (Int)) (aa ([[]]:List (By)) (aa ([1]:List (Int)) (aa ([[97],[120],[120],[]]:List (By)) (a (a (a (a (a (a (a (a (a (a (aa ([[],[]]:List (By)) (aa ([1,1,1]:List (Int)) (aa ([[],[]]:List (By)) (aa ([1]:List (Int)) (aa ([[]]:List (By)) (aa ([1]:List (Int)) (aa ([MC,MC,MC,MC,[]]:List (By)) (True)))))))))))))))))))))))))))))))))))))))))))))))))))))))))))))))))))))))))))))))))))))))))))))))))))))))))
def Quh (y:Unit):Xw y:=by
 have a:Qbp.pre ([(120,120)]:List Rg):=⟨by decide,by
  unfold aU;simp only[Zbt,List.flatMap_nil,Zaw,show eg (120,120)=[(120,120)] by kernel_rfl,List.mergeSort_singleton];rfl⟩
 have c:s6.pre ([],(0,⟨[97],0⟩)):=⟨Zah _,Zaj _⟩;have v:∀(p:iC) (s:re),p.av.length<=10->Hl.pre (⟨p,0,[],s⟩:pq):=λp s h=>by
  show p.av.length+0<=1000000
  omega
 unfold Xw;simp only[bC,a,c];refine⟨v _ _ (by decide),?_⟩;show wtP _
 unfold wtP;refine⟨?_,by decide,by decide,by decide⟩;exact⟨⟨by decide,by decide+kernel⟩,by decide,by decide⟩
def Qmp (hw:Ok VG):Ok QfS:=okI (V:=Xw) Qf3 Qug 400 40 Tryz.f8 [1] ⟨Qmo,Qdx,KX 1 (by decide) (by decide),KX 2 (by decide) (by decide),KX 3 (by decide) (by decide),KX 4 (by decide) (by decide),QhP,hw⟩ λy _=>Quh y
end sx
namespace bld
open Go Go.RowKit
abbrev BT:TypeId:=369
abbrev self (b:Nat):Value:=.pointer (some ⟨b,0,none⟩)
theorem Qdz:∃j,Tryz.prog.info? BT=some j/\j.size=2:=by
 obtain⟨j,a,hs⟩:=ZdM.1 (show(Tryz.prog.info? BT).map (·.size)=some 2 by kernel_rfl);grind
set_option maxHeartbeats 2000000 in
set_option maxRecDepth 100000 in
theorem O8 (b:Nat) (w:World) (h0:w.cell? ⟨b,0,none⟩=some (self b)):
  Calls prog 306 #[self b] w λe d=>e=.returned (.tuple #[])/\d=w:=by
 obtain⟨j,a,c⟩:=Qdz
 go_enter Tryz.func306,Tryz.ntmps306
 go_wp2
 rw[Lib.run_neq_ptr_same w _ Tryz.underlying367 a]
 go_wp2
 go_end0
 grind
set_option maxHeartbeats 2000000 in
set_option maxRecDepth 100000 in
theorem JE (b:Nat) (w:World) (h0:w.cell? ⟨b,0,none⟩=some (.pointer none)) (a:w.shape? b=some (BT,2)) (d:w.frozen? ⟨b,0,none⟩=false):
  Calls prog 306 #[self b] w λe g=>e=.returned (.tuple #[])/\g=w.setCell ⟨b,0,none⟩ (self b):=by
 obtain⟨j,c,f⟩:=Qdz
 go_enter Tryz.func306,Tryz.ntmps306
 go_wp2
 rw[Lib.run_to_unsafe w ⟨b,0,none⟩ Tryz.underlying367 Tryz.underlying390 c ω a (Nat.zero_lt_succ 1)]
 simp only[Result.andThen]
 rw[Oper.upon_value]
 go_wp2
 rw[run_callFunc_extern Tryz.func317 (by kernel_rfl) (by kernel_rfl) (by kernel_rfl) (e:=Extern.AbiNoEscape.same) (by kernel_rfl)]
 rw[Lib.run_noEscape]
 simp only[Result.andThen]
 rw[Oper.upon_value]
 go_wp2
 rw[Lib.run_from_unsafe w ⟨b,0,none⟩ Tryz.underlying390 Tryz.underlying367 c a (by kernel_rfl)]
 simp only[Result.andThen]
 rw[Oper.upon_value]
 go_wp2
 go_end0
 grind
section
variable {P:Program}
def liesAt_bytes {e:TypeId} (b:P.cellsOf e=1) (count o n:Nat) (c:o+n<=count):liesAt P P.depth e count o e n:=by
 have a:P.depth=(2*(P.types.size+Made.depth)+1)+1:=rfl;rw[a];simp only[liesAt,ZbM];left;rw[a];simp[rowAt,b,c,sameLayout,Nat.mod_one]
theorem uf (w:World) (pt it ty e:TypeId) (hp:P.underlying pt=some (.pointer e)) (hc:P.cellsOf e=1) (g o cells:Nat) (hsh:w.shape? g=some (e,cells)) (l:List UInt8) (h0:l≠[]) (hn:o+l.length<=cells) (h63:l.length<=9223372036854775807)
  (hcell:∀j x,l[j]?=some x->w.cell? ((⟨g,o,none⟩:Addr).add j)=some (.int .u8 x.toNat)):
  (Builtin.unsafeString_ #[pt,it] ty #[.pointer (some ⟨g,o,none⟩),.int .i64 l.length]).run P w=.ok (.string ⟨l.toArray⟩) (w.freeze ⟨g,o,none⟩ l.length):=by
 have hl:l.length≠0:=by grind
 have hlb:=Lib.run_loadBytes (P:=P) w l ⟨g,o,none⟩ .empty hcell;have hlies:=liesAt_bytes (P:=P) hc (cells / P.cellsOf e) o l.length (by grind);have h63':¬(9223372036854775807:Int)<(l.length:Int):=ω;have hdef:Builtin.unsafeString_ #[pt,it] ty #[.pointer (some ⟨g,o,none⟩),.int .i64 l.length]=
   (do
    let n <-asInt (.int .i64 l.length)
    if n<0 then runtimePanic (.error "unsafe.String: len out of range")
    if n>IntKind.i64.max then unsupported (.unsafePointer "String: a length above the largest int")
    if n=0 then pure (.string .empty)
    else if <-variablesAt ⟨g,o,none⟩ (<-elemOf pt) n.toNat then do
     let s <-loadBytes ⟨g,o,none⟩ .empty n.toNat
     freeze ⟨g,o,none⟩ n.toNat
     pure (.string s)
    else unsupported (.unsafePointer "String: not so many bytes at ptr")):=rfl
 rw[hdef];have hmax:IntKind.i64.max=9223372036854775807:=rfl;have hneg:¬(l.length:Int)<0:=ω;simp[asInt,asIntOf,hmax,h63',hneg,hl,variablesAt,hsh,elemOf,Zza hp,hlies,hlb]
end
set_option maxHeartbeats 1000000 in
set_option maxRecDepth 100000 in
theorem Qui (b g o cap:Nat) (p:Value) (l:List UInt8) (C:Array Value) (i c:Nat×Nat) (w:World) (h0:l≠[]) (f:w.heap[b]?=some (.cells #[p,.slice (some ⟨g,o,none⟩) l.length cap] BT i))
  (n:w.heap[g]?=some (.cells C 5 c)) (r:o+l.length<=C.size) (t:l.length<=cap) (d:l.length<=9223372036854775807)
  (a:∀j x,l[j]?=some x->w.cell? ((⟨g,o,none⟩:Addr).add j)=some (.int .u8 x.toNat)):
  Calls prog 297 #[self b] w λe s=>e=.returned (.string ⟨l.toArray⟩)/\s=w.drew.freeze ⟨g,o,none⟩ l.length:=by
 have q:l.length≠0:=by grind
 have c1:w.drew.cell? ⟨b,1,none⟩=some (.slice (some ⟨g,o,none⟩) l.length cap):=by
  have:w.drew.heap[b]?=some (.cells #[p,.slice (some ⟨g,o,none⟩) l.length cap] BT i):=f
  rw[Lib.cell_of_heap this];rfl
 have k:(Builtin.unsafeSliceData_ #[29] 380 #[.slice (some ⟨g,o,none⟩) l.length cap]).run prog w.drew=.ok (.pointer (some ⟨g,o,none⟩)) w.drew:=
  Lib.run_unsafeSliceData_row _ _ _ _ _ _ ω
 have m:(Builtin.unsafeString_ #[380,3] 9 #[.pointer (some ⟨g,o,none⟩),.int .i64 l.length]).run prog w.drew=.ok (.string ⟨l.toArray⟩) (w.drew.freeze ⟨g,o,none⟩ l.length):=by
  refine uf w.drew 380 3 9 5 Tryz.underlying380 (by kernel_rfl) g o C.size (by have h:w.drew.heap[g]?=some (.cells C 5 c):=n;simp[World.shape?,h]) l h0 r d a
 have mixed:Tryz.prog.follows .mixedOrders=true:=by kernel_rfl
 go_enter Tryz.func297,Tryz.ntmps297
 go_wp2
 go_region_o
 all_goals (go_wp2;go_ret;exact⟨rfl,rfl⟩)
set_option maxHeartbeats 2000000 in
set_option maxRecDepth 100000 in
theorem Quj (b:Nat) (p:Value) (c:Nat×Nat) (w:World) (a:w.heap[b]?=some (.cells #[p,.slice none 0 0] BT c)):
  Calls prog 297 #[self b] w λe g=>e=.returned (.string ⟨#[]⟩)/\g=w.drew:=by
 have f:∀(W:World) (q:Option Addr),(Builtin.unsafeString_ #[380,3] 9 #[.pointer q,.int .i64 0]).run prog W=.ok (.string .empty) W:=λW q=>Lib.run_unsafeString_none W _ _ _ q
 have c1:w.drew.cell? ⟨b,1,none⟩=some (.slice none 0 0):=by
  have:w.drew.heap[b]?=some (.cells #[p,.slice none 0 0] BT c):=a
  rw[Lib.cell_of_heap this];rfl
 have d:(Builtin.unsafeSliceData_ #[29] 380 #[.slice none 0 0]).run prog w.drew=.ok (.pointer none) w.drew:=rfl
 have mixed:Tryz.prog.follows .mixedOrders=true:=by kernel_rfl
 go_enter Tryz.func297,Tryz.ntmps297
 go_wp2
 go_region_o
 all_goals (go_wp2;go_ret;exact⟨rfl,rfl⟩)
end bld
set_option maxRecDepth 100000
set_option maxHeartbeats 4000000
namespace sx
noncomputable section
open Go Go.RowKit cls syn
variable {x:Nat} {b:By} {G:List Gt}
def QdA (y:Int):Prop:=let a:=([b8 y]:List UInt8);let q1:=([UInt8.ofNat y.toNat]:List UInt8);Iv True/\bJ (ag a) 1/\ag a=ag q1/\a=q1/\True
def QdB (y:(List UInt8)×Int):Prop:=let a:=bM y.1 [b8 y.2];Iv True/\aa [ag y.1] (aa [y.1] (bJ (ag a) 1/\ag a=ag (y.1++[UInt8.ofNat y.2.toNat])/\a=(y.1++[UInt8.ofNat y.2.toNat])/\True))
def Qmq (y:Unit):Prop:=
 (0:Int)=(0:Int)/\
 True
def QdC (y:List UInt8):Prop:=aa [ag y,ag y] (aa [y] (True))
def Xx (y:(List (Int×Int))×b7):Prop:=let f:=y.1.length;let q1:=ag y.1;let r:=gJ y.1 (nn y.2);let s:=gU y.1 (nn y.2);let t:=((ct y.1 (f-y.2.i.toNat) y.2.i.toNat []).1:Int);let C:=λp:Prop=>aa [y.2.i] p;let v:=λp:Prop=>aa [y.1] (aa [bP y.1] p);let A:=λp:Prop=>aa [y.2.i] (aa [y.1] (aa [bP y.1] p));let B:=λp:Prop=>aa [y.2.ak,y.2.ab,y.2.an,y.2.wh] p;let u:Prop:=(y.2.ak=((y.2.ak.toNat:Nat):Int)/\y.2.ab=((y.2.ab.toNat:Nat):Int)/\aa [y.2.an,y.2.wh] (True));∃z:Unit,(∃w:Nat,A (y.2.i=(w:Int)/\B ((Iv (tK y w [])))))/\(∀x:Nat,let l:=ay .i64 (x:Int) 1;let d:=(gt (0,0) y.1 (x:Int).toNat).1;let h:=jP .u8 d;let m:=([UInt8.ofNat h.toNat]:List UInt8);let q:=λp:Prop=>aa [y.1] (aa [(x:Int),d] p);let j:Prop:=(Iv True/\aa [(x:Int),(x:Int)] ([]=s/\aw y.2.i (x:Int)=r/\v ((x:Int)=t/\u)));let n:Prop:=(aG 0 (x:Int)/\aw (x:Int) q1/\Iv (Hg h)/\aa [h] (aa [y.1] (aa [(x:Int),d] (((∃b:Nat,y.2.i=y.2.i/\False)\/(∃b:Nat×(List UInt8),y.2.i=y.2.i/\ag m=ag b.2/\m=b.2/\y.1=y.1/\bP y.1=bP y.1/\l=(b.1:Int)/\y.2.ak=y.2.ak/\y.2.ab=y.2.ab/\y.2.an=y.2.an/\y.2.wh=y.2.wh/\Iv ((tK y b.1 b.2/\Ne b.2 [])/\(f-b.1)<(f-x))))))));(Iv (tK y x []))->aj (aw (x:Int) q1) (aG 0 (x:Int)/\aw (x:Int) q1/\aj (aG 48 d) (aG 0 (x:Int)/\aw (x:Int) q1/\aa [(x:Int)] (aa [y.1,y.1] (aa [(x:Int),d] (aa [y.1] (aa [(x:Int),d] (aj (aG d 57) (aG 0 (x:Int)/\aw (x:Int) q1/\aj (aw 48 d) (q (n)) (Iv True/\q (aj (aw 0 0) (n) (((∃b:Nat,y.2.i=y.2.i/\y.1=y.1/\bP y.1=bP y.1/\l=(b:Int)/\y.2.ak=y.2.ak/\y.2.ab=y.2.ab/\y.2.an=y.2.an/\y.2.wh=y.2.wh/\Iv (tK y b []/\(f-b)<(f-x)))\/(∃b:Nat×(List UInt8),y.2.i=y.2.i/\False)))))) (j))))))) (aa [(x:Int)] (aa [y.1,y.1] (aa [(x:Int),d] (j))))) (aa [(x:Int)] (aa [y.1] (j))))/\(∀x:Nat×(List UInt8),let e:=ag x.2;let a:=(x.1:Int);let c:=(gt (0,0) y.1 a.toNat).1;let g:=jP .u8 c;let k:Prop:=(Iv (Ne x.2 [])/\aa [e] (aa [x.2] (aa [a,a] (x.2=s/\aw y.2.i a=r/\v (a=t/\u)))));let o:Prop:=(aG 0 a/\aw a q1/\Iv (x.2.length<=1000000/\Hg g)/\aa [g,e] (aa [x.2] (aa [y.1] (aa [a,c] (((∃b:Nat,y.2.i=y.2.i/\False)\/(∃b:Nat×(List UInt8),y.2.i=y.2.i/\ag (x.2++[UInt8.ofNat g.toNat])=ag b.2/\(x.2++[UInt8.ofNat g.toNat])=b.2/\y.1=y.1/\bP y.1=bP y.1/\ay .i64 a 1=(b.1:Int)/\y.2.ak=y.2.ak/\y.2.ab=y.2.ab/\y.2.an=y.2.an/\y.2.wh=y.2.wh/\Iv ((tK y b.1 b.2/\Ne b.2 [])/\(f-b.1)<(f-x.1)))))))));(Iv (tK y x.1 x.2/\Ne x.2 []))->aj (aw a q1) (aG 0 a/\aw a q1/\aj (aG 48 c) (aG 0 a/\aw a q1/\aa [a] (aa [y.1,y.1] (aa [a,c] (aa [y.1] (aa [a,c] (aj (aG c 57) (aG 0 a/\aw a q1/\aj (aw 48 c) (aa [y.1] (aa [a,c] (o))) (Iv True/\aa [e] (aa [x.2] (aa [y.1] (aa [a,c] (aj (aw 0 e) (o) (((∃b:Nat,y.2.i=y.2.i/\False)\/(∃b:Nat×(List UInt8),y.2.i=y.2.i/\e=ag b.2/\x.2=b.2/\y.1=y.1/\bP y.1=bP y.1/\ay .i64 a 1=(b.1:Int)/\y.2.ak=y.2.ak/\y.2.ab=y.2.ab/\y.2.an=y.2.an/\y.2.wh=y.2.wh/\Iv ((tK y b.1 b.2/\Ne b.2 [])/\(f-b.1)<(f-x.1))))))))))) (k))))))) (aa [a] (aa [y.1,y.1] (aa [a,c] (k))))) (aa [a] (aa [y.1] (k))))
theorem Qmr:Ok QiO:=by
 refine⟨⟨f306,_,by kernel_rfl,cN (by kernel_rfl)⟩,λy o M A w f c _ R h=>?_⟩;obtain⟨v,rfl,k⟩:=yd f;cases k with
 | ptr d n=>
  obtain⟨_,hs,ht,C,m,g,hl,_⟩:=pw c (b:=0) (cs:=[.ptr 0 0,.own 1 1 (ag y)]) rfl d;obtain⟨p,q,rfl,h0,h1⟩:=EC hl;cases h0 with
  | ptr a j=>
   rw[d] at a;cases a;rw[hs];refine(bld.O8 _ w (by rw[Lib.cell_of_heap g,hs];rfl)).mono λe l ⟨i,hw⟩=>?_
   subst i hw;exact h M _ l (VR.DC .nil) (.refl c 2)
theorem Qms:Ok Zi:=by
 refine⟨⟨f306,_,by kernel_rfl,cN (by kernel_rfl)⟩,λy D M A w p k _ R r=>?_⟩;obtain⟨v,rfl,u⟩:=yd p;cases u with
 | @ptr _ _ x f g=>
  obtain⟨_,hs,ht,C,m,c,hl,d⟩:=pw k (b:=0) (cs:=[.fT,.dF]) rfl f;obtain⟨E,F,rfl,h0,h1⟩:=EC hl;cases h0;cases h1;rw[hs];have a:=d rfl;refine(bld.JE _ w (by rw[Lib.cell_of_heap c];rfl) (by simp[World.shape?,c]) (by
   simp only[World.frozen?,c];rcases a with h | h
   ·rw[h];simp;try omega
   ·have:=h.1;simp at this ⊢;try omega)).mono λe G ⟨s,hw⟩=>?_
  subst s hw;obtain⟨_,_,j⟩:=rR (o1:=.cells [.ptr 0 0,.dF] 369 false) (q:=0) (vs':=[bld.self x.bY]) (b:=0) k rfl rfl f g c (by grind) (by grind) ω (λ_=>trivial) (λl z H B=>⟨⟨g,hs,ht⟩,l,m,z,by grind,by grind,(λi v e=>by
   rw[hs,Za6,B]
   match i,e with
   | 0,e=>cases e;exact⟨_,rfl,by have:=VR.ptr (o:=0) f g;rw[hs] at this;exact this⟩
   | 1,e=>cases e;exact⟨_,rfl,.dF⟩
   | n+2,e=>cases e),λ_=>ω⟩) 1
  refine r M _ _ (VR.DC .nil) ?_;have e:(λt=>cA (Zi.dy y) t)=ja (λt=>cA (Zi.heap y) t) 0 (some (.cells [.ptr 0 0,.dF] 369 false)):=by
   funext t;show cA (Tn 0 (.ptr 0 0)) t=_
   unfold ja Tn;by_cases ht:t=0
   ·subst ht;rfl
   ·rw[Zaa ht,fh,Zaa (λh=>ht h.symm)];show cA [] t=cA (Tn 0 .fT) t
    grind [Tn,fh]
  rw[e];exact j
theorem MD {M:Pm D} {H:Hp D} {w:World} (i:ee M H w) {b:Nat} {o:AO D.E} {d:MI} (k:H b=some o) (hw:o.wr) (g:∀j,o.ti d j) (l:M.pl b=some d) (p:d.real) (a:Addr) (G:a.block=d.bY) (n lo:Nat):
  cU H M w (λ_=>none) M (w.drew.freeze a n) lo lo:=by
 have f:∀W:World,(W.freeze a n).os=W.os/\(W.freeze a n).tape=W.tape/\(W.freeze a n).output=W.output/\(W.freeze a n).heap.size=W.heap.size/\∀c,c≠d.bY->(W.freeze a n).heap[c]?=W.heap[c]?:=λW=>by
  grind [World.freeze]
 obtain⟨s,t,u,x,y⟩:=f w.drew;have hk:∀c,c≠d.bY->(w.drew.freeze a n).heap[c]?=w.heap[c]?:=y;refine⟨⟨λb o h=>(nomatch h),λb F o J m I h=>(nomatch h),λc q v h=>?_,λb o m h=>(nomatch h),λb c xs e m h=>(nomatch h),⟨⟨by rw[x];exact i.mh.1.1,D.gst _ _ (λc z=>hk c ?_) i.mh.1.2⟩,λb o m h=>(nomatch h)⟩⟩,λ_ _=>rfl,λ_ _ _ h=>h,λ_ _ h=>.inl h,by simp_all,λc z A=>hk c ?_,λb o m h=>(nomatch h),λb h=>absurd rfl h,s,t,u,Zah _⟩
 ·obtain⟨B,C,r,e2⟩:=i.gR c q v h;refine⟨B,C,?_,e2⟩;rw[<-r];exact gk (hk c λe=>by
   have:=i.sep b o d k hw l p q (g q);rw[<-e,h] at this;cases this)
 ·have:=i.mh.2 b o d k hw l p;omega
 ·exact λe=>A ⟨b,o,d,k,hw,l,p,e.symm⟩
theorem Qmt:Ok QiP:=by
 refine⟨⟨f297,_,by kernel_rfl,cN (by kernel_rfl)⟩,λy n M A w f a _ R h=>?_⟩;obtain⟨v,rfl,l⟩:=yd f;cases l with
 | @ptr _ _ m c k=>
  obtain⟨_,hs,ht,C,d,g,hl,j⟩:=pw a (b:=0) (cs:=[.fT,.dF]) rfl c;obtain⟨o,p,rfl,h0,h1⟩:=EC hl;cases h0;cases h1;rw[hs];refine(bld.Quj _ _ d w g).mono λe q ⟨i,hw⟩=>?_
  subst i hw;have:=MD a (b:=0) rfl rfl (λ_=>trivial) c k ⟨m.bY,0,none⟩ rfl 0 1;exact h M (.string ⟨⟨[]⟩⟩) _ (.str (Zaj _)) this
theorem Qmu:Ok QiQ:=by
 refine⟨⟨f297,_,by kernel_rfl,cN (by kernel_rfl)⟩,λy n M A w q h _ R r=>?_⟩;obtain⟨v,rfl,E⟩:=yd q;cases E with
 | @ptr _ _ I B H=>
  obtain⟨_,hs,ht,C,p,m,hl,t⟩:=pw h (b:=0) (cs:=[.ptr 0 0,.own 1 1 (ag y)]) rfl B;obtain⟨J,K,rfl,h0,h1⟩:=EC hl;obtain⟨a,d,c,f,i⟩:=h.obj 1 (.arr 0 y 5 false) rfl;have z:ag y=(y.length:Int):=au y;cases h1 with
  | own g1 g2 g3 g4 g5 g6 g7=>
   rw[d] at g1;cases g1;obtain⟨o,g,k1,k2,k3,k4,k5⟩:=i g3;replace c:a.len=y.length:=c;replace f:a.je=1:=f;rw[c] at m g5 g6;rw[hs];have k:=bf fL 0 y;rw[show D.size 0=1 from rfl,Zb8] at k;have G:a.sh+y.length<=a.qK:=by grind
   refine(bld.Qui _ _ _ _ _ y o p g w n m k1 ω g6 g5 (λj x F=>?_)).mono λe N ⟨s,hw⟩=>?_
   ·obtain⟨u,rfl⟩:=Zam.1 F;have e:=fQ fL 0 y j 0 u (by decide);obtain⟨L,l,a2⟩:=k4 (j*D.size 0+0) _ e;obtain rfl:=fE a2;have:(⟨a.bY,a.sh,none⟩:Addr).add j=⟨a.bY,a.sh+j,none⟩:=by
     grind [Addr.add]
    rw[this,Lib.cell_of_heap k1];have e2:a.sh+(j*D.size 0+0)=a.sh+j:=by show a.sh+(j*1+0)=_;omega
    rw[e2] at l;exact l
   ·subst s hw;have:=MD h (b:=1) rfl rfl (λ_=>trivial) d g3 ⟨a.bY,a.sh,none⟩ rfl y.length 2;exact r M (.string ⟨⟨y⟩⟩) _ (.str g5) this
  | kD g1 g2 g3 g4 g5=>exact absurd (Zap ω) n
theorem Qmv:Ok Zj:=okZ (V:=QdA) [Zi] f296 (λ_=>⟨[],[2],[],[],1,[]⟩) Qms λy a=>by
 unfold QdA;simp only[kU,Zal,au];exact⟨br.2 (by grind),rfl,rfl,trivial⟩
theorem Qmw:Ok Zk:=okZ (V:=QdB) [QiO] f296 (λ_=>dY ()) Qmr λy a=>by
 unfold QdB;simp only[bC,au,aT];obtain⟨h1,b⟩:y.1.length<=1000000/\Hg y.2:=a;refine⟨br.2 ?_,rfl,rfl⟩;grind
def Qmx:Ok Zl:=okZ (V:=Qmq) [] f295 (λ_=>dY ()) trivial λy a=>⟨rfl,trivial⟩
theorem Qmy:Ok Zm:=okZ (V:=QdC) [] f295 (λ_=>dY ()) trivial λy a=>by
 grind [QdC]
theorem JF {i:Nat} (h:¬(i<G.length/\48<=aK G i/\aK G i<=57)):ct G x i b=(i,b):=by
 rcases x with _ | x
 ·rfl
 ·grind [ct]
theorem Xy (h:x<G.length/\48<=aK G x/\aK G x<=57):ct G (G.length-x) x b=ct G (G.length-(x+1)) (x+1) (if 48<aK G x\/b≠[] then b++[UInt8.ofNat (aK G x).toNat] else b):=by
 obtain⟨m,a⟩:∃m,G.length-x=m+1:=⟨G.length-x-1,ω⟩;grind [ct]
def nv {y:PS} (a:bx y) (l:tK y x b) (h:¬(x<y.1.length/\48<=aK y.1 x/\aK y.1 x<=57)):
  b=gU y.1 (nn y.2)/\aw y.2.i x=gJ y.1 (nn y.2)/\(x:Int)=((ct y.1 (y.1.length-y.2.i.toNat) y.2.i.toNat []).1:Nat)/\y.2.ak=(y.2.ak.toNat:Nat)/\y.2.ab=(y.2.ab.toNat:Nat):=by
 have e:=l.2.2.2;rw[JF h] at e;obtain⟨c,a2,a3,a4,_⟩:=a;refine⟨?_,?_,?_,ω,ω⟩
 ·show b=(ct y.1 (y.1.length-(nn y.2).i) (nn y.2).i []).2
  rw[<-e]
 ·show _=decide ((nn y.2).i<(ct y.1 (y.1.length-(nn y.2).i) (nn y.2).i []).1)
  rw[<-e];apply ZaG.2;rw[dA,ZbP];show y.2.i<x↔y.2.i.toNat<x
  omega
 ·show(x:Int)=((ct y.1 (y.1.length-(nn y.2).i) (nn y.2).i []).1:Nat)
  rw[<-e]
theorem Xz {y:PS} (a:bx y) (l:tK y x b) (h:x<y.1.length/\48<=aK y.1 x/\aK y.1 x<=57):
  ay .i64 (x:Int) 1=((x+1:Nat):Int)/\jP .u8 (aK y.1 x)=aK y.1 x/\Hg (aK y.1 x)/\tK y (x+1) (if 48<aK y.1 x\/b≠[] then b++[UInt8.ofNat (aK y.1 x).toNat] else b)/\y.1.length-(x+1)<y.1.length-x:=by
 obtain⟨q1,e,f,c⟩:=l;have d:=a.1;refine⟨ba ω ω,dG (cL.2 ⟨by show(0:Int)<=_;omega,by show _<=(255:Int);omega⟩),⟨ω,ω⟩,⟨ω,ω,?_,by rw[<-c,Xy h]⟩,ω⟩;grind
theorem Quk:∀y,yk.pre y->Xx y:=λy j=>by
 unfold Xx;simp only[bL,bC,au,dq,Zad,ZaX,ZaY,ZaZ,Zdt,Zdv,Zd2];obtain⟨b,-⟩:=j;replace b:bx y:=b;obtain⟨k,a2,-⟩:=id b;simp only[show ∀x:Nat,(y.1.getD x (0,0)).1=aK y.1 x from λ_=>rfl];refine⟨⟨(nn y.2).i,by show y.2.i=(y.2.i.toNat:Int);omega,Zah _,by show y.2.i.toNat<=_;omega,Zaj _,rfl⟩,λx a=>?_,λx a=>?_⟩
 ·refine⟨λh1=>⟨ω,h1,λd=>⟨ω,h1,λe=>⟨ω,h1,?_⟩,λe=>nv b a λh=>?_⟩,λd=>nv b a λh=>?_⟩,λh1=>nv b a λh=>?_⟩
  ·obtain⟨g1,g2,g3,g4,g5⟩:=Xz b a ⟨ω,d,e⟩;rw[g2];refine⟨λf=>⟨ω,h1,g3,⟨(x+1,[UInt8.ofNat (aK y.1 x).toNat]),rfl,rfl,g1,⟨?_,by simp⟩,g5⟩⟩,λf=>⟨λh=>absurd h (by decide),λ_=>⟨x+1,g1,?_,g5⟩⟩⟩
   ·grind
   ·grind
  all_goals omega
 ·obtain⟨i,l⟩:=x;obtain⟨a,hl⟩:=a;refine⟨λh1=>⟨ω,h1,λd=>⟨ω,h1,λe=>⟨ω,h1,?_⟩,λe=>⟨hl,nv b a λh=>?_⟩⟩,λd=>⟨hl,nv b a λh=>?_⟩⟩,λh1=>⟨hl,nv b a λh=>?_⟩⟩
  ·obtain⟨g1,g2,g3,g4,g5⟩:=Xz b a ⟨ω,d,e⟩;simp only at g2 hl ⊢;rw[g2];rw[Zac (.inr hl)] at g4;have o:l.length<=1000000:=by have m:l.length<=i:=a.2.2.1;have n:i<=y.1.length:=a.2.1;omega
   have g:∃c:Nat×By,((l++[UInt8.ofNat (aK y.1 i).toNat]).length:Int)=(c.2.length:Int)/\l++[UInt8.ofNat (aK y.1 i).toNat]=c.2/\ay .i64 (i:Int) 1=(c.1:Int)/\(tK y c.1 c.2/\c.2≠[])/\y.1.length-c.1<y.1.length-i:=
    ⟨(i+1,_),rfl,rfl,g1,⟨g4,by simp⟩,g5⟩
   grind [List.length_pos_iff]
  all_goals omega
def Qmz:Ok yk:=okZ [Zl,Zm,Zj,Zk,QiP,QiQ] f269 Qpc ⟨Qmx,Qmy,Qmv,Qmw,Qmt,Qmu⟩ Quk
end
end sx
namespace join
open Go Go.ChangeShapes Go.WideShapes Go.ChangeAt Go.RowKit
def p1 (P:Program) (_f:FuncId) (a:Func) (s:ChangeSpec) (c:OpenClaim):Bool:=(c.wf (OpenSpec.ofChange s)&&laidOutB P&&mapsRowed P)
def p2 (P:Program) (_f:FuncId) (fn:Func) (s:ChangeSpec) (c:OpenClaim):Bool:=(fn.params.all (P.readableRec ·)&&namedTie P c.named s.vars&&(c.stops==[])&&(P.stops==[])&&(c.knobs==[])&&(P.stopKnobs==[]))
def p3 (P:Program) (f:FuncId) (a:Func) (b:ChangeSpec) (c:OpenClaim):Bool:=(c.inPlace==P.inPlace f)
def p4 (P:Program) (f:FuncId) (a:Func) (b:ChangeSpec) (c:OpenClaim):Bool:=(c.unfollowed==P.unfollowed f)
def p5 (P:Program) (f:FuncId) (a:Func) (b:ChangeSpec) (c:OpenClaim):Bool:=(c.recurses==P.recurses f)
def p6 (P:Program) (f:FuncId) (a:Func) (b:ChangeSpec) (c:OpenClaim):Bool:=(c.named==P.varsNamed f)
def p7 (P:Program) (_f:FuncId) (fn:Func) (s:ChangeSpec) (c:OpenClaim):Bool:=((c.maps==(fn.params.toList++s.plain.varTypes P).any (P.mapsRec ·))&&(c.ifaces==(fn.params.toList++s.plain.varTypes P).any (P.ifacesRec ·))&&(c.mapsOut==P.mapsAmong fn.resultTypes.toList)&&(c.loops==(fn.params.toList++s.plain.varTypes P).any (P.loopsFrom ·))&&(c.wideKeys==(fn.params.toList++s.plain.varTypes P++fn.resultTypes.toList).any (P.wideKeysFrom ·))&&s.vars.all (P.varReadable ·)&&fn.resultTypes.all (λt=>P.readableRec t&&decide (t<P.types.size))&&(c.ifacesOut==fn.resultTypes.toList.any (P.ifacesRec ·))&&(c.loopsOut==fn.resultTypes.toList.any (P.loopsFrom ·)))
def p8 (P:Program) (_f:FuncId) (a:Func) (b:ChangeSpec) (c:OpenClaim):Bool:=(c.plainKeys==P.plainKeys)
def p9 (P:Program) (_f:FuncId) (a:Func) (b:ChangeSpec) (c:OpenClaim):Bool:=(c.shortTexts.isNone&&P.stopsHeard&&P.mayEnter)
def p10 (P:Program) (_f:FuncId) (a:Func) (b:ChangeSpec) (c:OpenClaim):Bool:=(c.lifted==P.liftsFinal)
def p11 (P:Program) (_f:FuncId) (fn:Func) (a:ChangeSpec) (c:OpenClaim):Bool:=((P.make==some c.make)&&(c.kinds==(if c.domain.isEmpty then[] else fn.params.toList.map λt=>match P.underlying t with | some (.int k)=>some k | _=>none))&&(c.pinned==c.pinnedBy))
def p12 (P:Program) (_f:FuncId) (fn:Func) (s:ChangeSpec) (c:OpenClaim):Bool:=((c.veiled==(fn.params.toList++s.plain.varTypes P++fn.resultTypes.toList).any (P.veiledRec ·))&&c.veiledFits P fn.params.toList (fn.params.toList++s.plain.varTypes P++fn.resultTypes.toList))
def facts {P:Program} {f:FuncId} {fn:Func} {s:ChangeSpec} {c:OpenClaim} (h1:p1 P f fn s c) (e:p2 P f fn s c) (i:p3 P f fn s c) (j:p4 P f fn s c) (k:p5 P f fn s c) (l:p6 P f fn s c) (b:p7 P f fn s c) (m:p8 P f fn s c) (h:p9 P f fn s c) (g:p10 P f fn s c) (a:p11 P f fn s c) (d:p12 P f fn s c):joinedFacts P f fn s c:=by
 unfold p1 at h1;unfold p2 at e;unfold p3 at i;unfold p4 at j;unfold p5 at k;unfold p6 at l;unfold p7 at b;unfold p8 at m;unfold p9 at h;unfold p10 at g;unfold p11 at a;unfold p12 at d;unfold joinedFacts;simp only[ZaW,Zdc] at h1 e b h a d ⊢;exact⟨h1.1,h1.2.1,h1.2.2,e.1,e.2.1,e.2.2.1,e.2.2.2.1,e.2.2.2.2.1,e.2.2.2.2.2,i,j,k,l,b.1,b.2.1,b.2.2.1,b.2.2.2.1,b.2.2.2.2.1,b.2.2.2.2.2.1,b.2.2.2.2.2.2.1,b.2.2.2.2.2.2.2.1,b.2.2.2.2.2.2.2.2,m,h.1,h.2.1,h.2.2,g,a.1,a.2.1,a.2.2,d.1,d.2⟩
end join
end Go.Proofs.YtiiiphndmbabcaaGreat
