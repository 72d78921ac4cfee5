/- PointReads: a part of the proof. -/
import Derived.Test.YtiiiphndmbabcaaGreatC5
import Derived.Test.YtiiiphndmbabcaaGreatC4
set_option linter.all false
namespace Go.Proofs.YtiiiphndmbabcaaGreat
open Go.Proofs.Tryz
set_option maxRecDepth 100000
set_option maxHeartbeats 4000000
namespace sx
noncomputable section
open Go Go.RowKit cls syn
variable {G:List Gt} {s:Ps} {y:PS} {i:Nat} {l:List Rg}
theorem sC {s:b7} (h:0<=s.i):nn ⟨s.i+1,s.ak,s.ab,s.an,s.wh⟩=(nn s).next:=by
 unfold nn Ps.next;grind
theorem K8 (a:Fx G) (b:Nat) (hi:i<G.length) (c:iw (aK G i)\/aK G i=110\/aK G i=116\/aK G i=114\/aK G i=100\/aK G i=115\/aK G i=119) (hw:aU [(48,57),(65,90),(95,95),(97,122)]≠[]):(mC G s b (aK G i)).2.1≠[]:=by
 unfold mC
 repeat' split
 ·rw[a.n];simp
 ·rw[a.t];simp
 ·rw[a.r];simp
 ·rw[a.d];simp
 ·exact a.s0
 ·exact hw
 ·rw[a.one i hi];simp
 ·grind
theorem tI (h:G.length<=s.i+1):eh G s=(s.next.ax G s.i 4,[],false):=Zac h
theorem tJ (h:s.i+1<G.length) (a:fi G (s.i+1)):eh G s=(s.next.ax G (s.i+1) 4,[],false):=(Zaa (show ¬G.length<=s.next.i from Nat.not_le.2 h)).trans (Zac a)
theorem yh (h:s.i+1<G.length) (a:fi G (s.i+1)=false):eh G s=mC G s.next.next s.i (aK G (s.i+1)):=(Zaa (show ¬G.length<=s.next.i from Nat.not_le.2 h)).trans (Zaa (show ¬fi G s.next.i=true by simp_all))
theorem QiI (y:PS) (n:zE.pre (y,false)):HR y:=by
 obtain⟨h0,hi,hk⟩:=n;have h0:bx y:=h0;have hi:y.2.i<y.1.length:=hi;obtain⟨c,a2,a3,a4,d⟩:=id h0;have g:ay IntKind.i64 y.2.i 1=y.2.i+1:=ba ω ω;have l:ay IntKind.i64 (y.2.i+1) 1=y.2.i+1+1:=ba ω ω;have j:(y.2.i+1).toNat=(nn y.2).i+1:=by show _=y.2.i.toNat+1;omega
 have f:y.2.i.toNat=(nn y.2).i:=rfl;have m:=sC (s:=y.2) a2.1;have a:=sC (s:=⟨y.2.i+1,y.2.ak,y.2.ab,y.2.an,y.2.wh⟩) (show 0<=y.2.i+1 by omega);unfold HR;simp only[bL,gz,g,l,j,f,m,a,au,gt,Zan,Zao];have o:(y.2.i+1<=y.1.length)->bx (y.1,⟨y.2.i+1,y.2.ak,y.2.ab,y.2.an,y.2.wh⟩):=λh=>⟨c,⟨show 0<=y.2.i+1 by omega,h⟩,a3,a4,d⟩
 have zi:y.2.i+1+1=((nn y.2).next.next.i:Int):=by show _=((y.2.i.toNat+1+1:Nat):Int);omega
 have zo:y.2.ak=((nn y.2).next.next.ak:Int):=by show _=((y.2.ak.toNat:Nat):Int);omega
 have zg:y.2.ab=((nn y.2).next.next.ab:Int):=by show _=((y.2.ab.toNat:Nat):Int);omega
 have p:(nn y.2).i=y.2.i.toNat:=rfl;refine⟨λh=>?_,λh=>⟨⟨o ω,ω,h⟩,λe=>?_,λe=>⟨ω,h,?_⟩⟩⟩
 ·grind [tI]
 ·grind [tJ]
 ·rw[yh ω e];have b:(y.1.getD ((nn y.2).i+1) (0,0)).1=aK y.1 ((nn y.2).i+1):=rfl;rw[b];generalize aK y.1 ((nn y.2).i+1)=r;unfold mC;refine⟨λk=>by rw[Zac k];exact⟨⟨trivial⟩,rfl,rfl,zi,zo,zg,rfl,rfl⟩,λk=>?_⟩;rw[Zaa k];refine⟨λk=>by rw[Zac k];exact⟨⟨trivial⟩,rfl,rfl,zi,zo,zg,rfl,rfl⟩,λk=>?_⟩;rw[Zaa k];refine⟨λk=>by rw[Zac k];exact⟨⟨trivial⟩,rfl,rfl,zi,zo,zg,rfl,rfl⟩,λk=>?_⟩;rw[Zaa k];refine⟨λk=>by rw[Zac k];exact⟨⟨ω⟩,rfl,rfl,zi,zo,zg,rfl,rfl⟩,λk=>?_⟩;rw[Zaa k];refine⟨λk=>by rw[Zac k];exact⟨⟨ω⟩,rfl,rfl,zi,zo,zg,rfl,rfl⟩,λk=>?_⟩;rw[Zaa k];refine⟨λk=>by rw[Zac k];exact⟨⟨ω⟩,rfl,rfl,zi,zo,zg,rfl,rfl⟩,λk=>?_⟩;rw[Zaa k];refine⟨⟨trivial⟩,λk=>?_,λk=>?_⟩
  ·rw[Zaa (by grind)];exact⟨⟨⟨c,⟨show 0<=y.2.i+1+1 by omega,show y.2.i+1+1<=(y.1.length:Int) by omega⟩,a3,a4,d⟩,a2.1,hi⟩,rfl,rfl,rfl,rfl,rfl,rfl,rfl⟩
  ·rw[Zac k];exact⟨⟨trivial⟩,rfl,rfl,zi,zo,zg,rfl,rfl⟩
theorem QiJ (y:PS) (n:zE.pre (y,true)):HQ y:=by
 obtain⟨h0,hi,hk⟩:=n;have h0:bx y:=h0;have hi:y.2.i<y.1.length:=hi;obtain⟨d,a2,a3,a4,a⟩:=id h0;have g:ay IntKind.i64 y.2.i 1=y.2.i+1:=ba ω ω;have l:ay IntKind.i64 (y.2.i+1) 1=y.2.i+1+1:=ba ω ω;have j:(y.2.i+1).toNat=(nn y.2).i+1:=by show _=y.2.i.toNat+1;omega
 have f:y.2.i.toNat=(nn y.2).i:=rfl;have m:=sC (s:=y.2) a2.1;have b:=sC (s:=⟨y.2.i+1,y.2.ak,y.2.ab,y.2.an,y.2.wh⟩) (show 0<=y.2.i+1 by omega);unfold HQ;simp only[bL,gz,g,l,j,f,m,b,au,gt,Zan,Zao];have o:(y.2.i+1<=y.1.length)->bx (y.1,⟨y.2.i+1,y.2.ak,y.2.ab,y.2.an,y.2.wh⟩):=λh=>⟨d,⟨show 0<=y.2.i+1 by omega,h⟩,a3,a4,a⟩
 have zi:y.2.i+1+1=((nn y.2).next.next.i:Int):=by show _=((y.2.i.toNat+1+1:Nat):Int);omega
 have zo:y.2.ak=((nn y.2).next.next.ak:Int):=by show _=((y.2.ak.toNat:Nat):Int);omega
 have zg:y.2.ab=((nn y.2).next.next.ab:Int):=by show _=((y.2.ab.toNat:Nat):Int);omega
 have p:(nn y.2).i=y.2.i.toNat:=rfl;refine⟨λh=>?_,λh=>⟨⟨o ω,ω,h⟩,λe=>?_,λe=>⟨ω,h,?_⟩⟩⟩
 ·grind [tI]
 ·grind [tJ]
 ·have hk:(eh y.1 (nn y.2)).2.1=[]:=ZaH hk.symm;rw[yh ω e] at hk ⊢;have no:=λh=>K8 a (s:=(nn y.2).next.next) (nn y.2).i (i:=(nn y.2).i+1) ω h a.w0 hk
  have c:(y.1.getD ((nn y.2).i+1) (0,0)).1=aK y.1 ((nn y.2).i+1):=rfl;rw[c];refine⟨λk=>(no (.inr (.inl k))).elim,λk1=>⟨λk=>(no (.inr (.inr (.inl k)))).elim,λk2=>⟨λk=>(no (.inr (.inr (.inr (.inl k))))).elim,λk3=>⟨λk=>(no (.inr (.inr (.inr (.inr (.inl k)))))).elim,λk4=>⟨λk=>(no (.inr (.inr (.inr (.inr (.inr (.inl k))))))).elim,λk5=>⟨λk=>(no (.inr (.inr (.inr (.inr (.inr (.inr k))))))).elim,λk6=>⟨⟨trivial⟩,λk=>?_,λk=>(no (.inl k)).elim⟩⟩⟩⟩⟩⟩⟩;unfold mC;rw[Zaa k1,Zaa k2,Zaa k3,Zaa k4,Zaa k5,Zaa k6,Zaa (by grind)];exact⟨⟨⟨d,⟨show 0<=y.2.i+1+1 by omega,show y.2.i+1+1<=(y.1.length:Int) by omega⟩,a3,a4,a⟩,a2.1,hi⟩,trivial,rfl,rfl,rfl,rfl,rfl⟩
def HV {k:bh D} {X:Type} {fn:Func} {tab:s7} {a:k.Y->cH D} (e:k.Y->X×Bool) (e2:X×Bool->k.Y) (l:∀y,e2 (e y)=y) {T F:X->Prop} (i:∀x,T x=vc tab fn k a (e2 (x,true))) (h:∀x,F x=vc tab fn k a (e2 (x,false))) (ht:RA tab)
  (h1:∀x,k.pre (e2 (x,true))->T x) (g:∀x,k.pre (e2 (x,false))->F x) (d:Tryz.prog.funcs[k.f]?=some fn:=by kernel_rfl) (j:fn.body.isSome:=by kernel_rfl):Ok k:=
 cC (V:=λy=>vc tab fn k a y) (λ_=>rfl) ht (λy c=>by
  show vc tab fn k a y
  rw[<-l y] at c ⊢;generalize e y=p at c ⊢;obtain⟨x,b⟩:=p;cases b with
  | true=>rw[<-i];exact h1 x c
  | false=>rw[<-h];exact g x c) d j
def Qo5 {k:bh D} {X:Type} {T F:X->Prop} (tab:s7) (fn:Func) (a:k.Y->cH D) (e:k.Y->X×Bool) (e2:X×Bool->k.Y) (i:∀y,e2 (e y)=y) (ht:RA tab) (h1:∀x,k.pre (e2 (x,true))->T x) (c:∀x,k.pre (e2 (x,false))->F x)
  (g:∀x,T x=vc tab fn k a (e2 (x,true)):=by intro x;kernel_rfl) (d:∀x,F x=vc tab fn k a (e2 (x,false)):=by intro x;kernel_rfl) (b:Tryz.prog.funcs[k.f]?=some fn:=by kernel_rfl) (h:fn.body.isSome:=by kernel_rfl):Ok k:=HV e e2 i g d ht h1 c b h
def Qch (a:Ok dB):Ok zE:=Qo5 (k:=zE) (T:=HQ) (F:=HR) [qD,zC,ED,dB,NG] f266 (λ_=>dY ()) id id (λ_=>rfl) ⟨uK,Tc,Qce a,a,Qiy⟩ QiJ QiI
theorem yi (h:fi G s.i):b5 G s=(s.ax G s.i 4,[],false):=Zac h
theorem mU (h:fi G s.i=false) (a:aK G s.i=92):b5 G s=eh G s:=(Zaa (by grind)).trans (Zac a)
theorem gL (h:fi G s.i=false) (h0:aK G s.i≠92) (a:aK G s.i=91\/aK G s.i=93\/aK G s.i=45):b5 G s=(s,[],false):=(Zaa (by grind)).trans ((Zaa h0).trans (Zac a))
theorem yj (h:fi G s.i=false) (h0:aK G s.i≠92) (a:¬(aK G s.i=91\/aK G s.i=93\/aK G s.i=45)):b5 G s=(s.next,[(aK G s.i,aK G s.i)],true):=(Zaa (by grind)).trans ((Zaa h0).trans (Zaa a))
theorem QiK (y:PS) (g:HO.pre (y,false)):HU y:=by
 obtain⟨h0,hi,hk⟩:=g;have h0:bx y:=h0;have hi:y.2.i<y.1.length:=hi;have hk:false=yg y:=hk;obtain⟨j,a2,a3,a4,l⟩:=id h0;have f:ay IntKind.i64 y.2.i 1=y.2.i+1:=ba ω ω;have d:y.2.i.toNat=(nn y.2).i:=rfl;have zi:y.2.i=((nn y.2).i:Int):=ω;have h:y.2.i+1=((nn y.2).next.i:Int):=by simp_all
 have zo:y.2.ak=((nn y.2).ak:Int):=by show _=((y.2.ak.toNat:Nat):Int);omega
 have zg:y.2.ab=((nn y.2).ab:Int):=by show _=((y.2.ab.toNat:Nat):Int);omega
 have c:(y.1.getD (nn y.2).i (0,0)).1=aK y.1 (nn y.2).i:=rfl;unfold HU;simp only[bL,gz,f,d,c,au,gt];refine⟨⟨h0,a2.1,hi⟩,λa=>?_,λa=>⟨a2.1,hi,λb=>⟨λq=>?_,λq=>?_⟩,λb=>?_⟩⟩
 ·grind [yi]
 ·grind [yg,EE,mU]
 ·rw[mU a b];exact⟨⟨h0,hi,q.symm⟩,rfl,rfl,rfl,rfl,rfl,rfl,rfl⟩
 ·refine⟨λk=>⟨λ_=>?_,λk2=>absurd k k2⟩,λk=>⟨λk2=>⟨λ_=>?_,λk3=>absurd k2 k3⟩,λk2=>⟨λk3=>?_,λk3=>?_⟩⟩⟩
  ·rw[gL a b (.inl k)];exact⟨rfl,rfl,zi,zo,zg,rfl,rfl⟩
  ·rw[gL a b (.inr (.inl k2))];exact⟨rfl,rfl,zi,zo,zg,rfl,rfl⟩
  ·rw[gL a b (.inr (.inr k3))];exact⟨rfl,rfl,zi,zo,zg,rfl,rfl⟩
  ·rw[yj a b (λe=>e.elim k λe=>e.elim k2 k3)];exact⟨rfl,rfl,h,zo,zg,rfl,rfl⟩
theorem QiL (y:PS) (e:HO.pre (y,true)):HS y:=by
 obtain⟨h0,hi,hk⟩:=e;have h0:bx y:=h0;have hi:y.2.i<y.1.length:=hi;have hk:true=yg y:=hk;obtain⟨f,a2,a3,a4,g⟩:=id h0;have d:y.2.i.toNat=(nn y.2).i:=rfl;have zi:y.2.i=((nn y.2).i:Int):=ω;have zo:y.2.ak=((nn y.2).ak:Int):=by show _=((y.2.ak.toNat:Nat):Int);omega
 have zg:y.2.ab=((nn y.2).ab:Int):=by show _=((y.2.ab.toNat:Nat):Int);omega
 have c:(y.1.getD (nn y.2).i (0,0)).1=aK y.1 (nn y.2).i:=rfl;unfold HS;simp only[bL,gz,Zal,d,c,au,gt];refine⟨⟨h0,a2.1,hi⟩,λa=>?_,λa=>⟨a2.1,hi,λb=>⟨λq=>?_,λq=>?_⟩,λb=>?_⟩⟩
 ·grind [yi]
 ·rw[mU a b];exact⟨⟨h0,hi,q.symm⟩,rfl,rfl,rfl,rfl,rfl⟩
 ·grind [yg,EE,mU]
 ·refine⟨λk=>⟨λ_=>?_,λk2=>absurd k k2⟩,λk=>⟨λk2=>⟨λ_=>?_,λk3=>absurd k2 k3⟩,λk2=>⟨λk3=>?_,λk3=>?_⟩⟩⟩
  ·rw[gL a b (.inl k)];exact⟨zi,zo,zg,rfl,rfl⟩
  ·rw[gL a b (.inr (.inl k2))];exact⟨zi,zo,zg,rfl,rfl⟩
  ·rw[gL a b (.inr (.inr k3))];exact⟨zi,zo,zg,rfl,rfl⟩
  ·grind [yg,yj]
def QiM (a:Ok dB):Ok HO:=Qo5 (k:=HO) (T:=HS) (F:=HU) [qD,zC,zE] f305 (λ_=>dY ()) id id (λ_=>rfl) ⟨uK,Tc,Qch a⟩ QiL QiK
def F6 (y:PS):Prop:=y.2.i<y.1.length
def Ti:bh D:=ye 292 PS (λy=>y) NI F6 (λ_=>[]) (λy=>zz (ei y.1 (nn y.2)).1) λy=>.list 6 (ei y.1 (nn y.2)).2
def Tj (y:(List (Int×Int))×b7):Prop:=let T:=y.2.i.toNat;let q1:=ei y.1 (nn y.2);let c:=b5 y.1 (nn y.2);let I:=(y.1,y.2);let A:=((q1.1.ab:Nat):Int);let E:=((q1.1.i:Nat):Int);let F:=((q1.1.ak:Nat):Int);let N:=((c.1.ak:Nat):Int);let O:=((c.1.i:Nat):Int);let P:=((c.1.ab:Nat):Int);let G:=!(aB c.1.an 0);let f:=(gt (0,0) c.2.1 0).1;let l:=b7.mk O N P c.1.an c.1.wh;let b:=bp y.1 (nn l) 45;let U:=!(bb y.1 (nn l) 45);let q:=((b.ab:Nat):Int);let r:=((b.ak:Nat):Int);let g:=((b.i:Nat):Int);let m:=Ps.ax y.1 (nn l) T 4;let H:=aB b.an 0;let V:=aw g (ag y.1);let u:=b7.mk g r q b.an b.wh;let a:=b5 y.1 (nn u);let h:=(y.1,u);let v:=((a.1.i:Nat):Int);let w:=((a.1.ak:Nat):Int);let x:=((a.1.ab:Nat):Int);let j:=Ps.ax y.1 (nn u) T 4;let s:=aB a.1.an 0;let k:=(gt (0,0) a.2.1 0).1;let z:=b7.mk v w x a.1.an a.1.wh;let d:=Ps.ax y.1 (nn z) T 4;let Q:=λp:Prop=>aa ([y.2.i,4]:List Int) (aa [y.1] (aa [bP y.1] (aa [v,w,x,a.1.an,a.1.wh] p)));let e:=λp:Prop=>aa [y.1] (aa [bP y.1] p);let R:=λp:Prop=>aa [y.1] (aa [bP y.1] (aa [y.2.i,y.2.ak,y.2.ab,y.2.an,y.2.wh] p));let o:=λp:Prop=>aa [a.1.an] p;let S:=λp:Prop=>aa [y.1] (aa [bP y.1] (aa [g,r,q,b.an,b.wh] p));let t:Prop:=(0<=y.2.i/\(y.2.i<(y.1.length:Int)));let n:Prop:=(Tt 1 (aw 0 (ag c.2.1)/\False));let J:Prop:=(e (g=E/\r=F/\q=A/\b.an=q1.1.an/\b.wh=q1.1.wh/\True));let B:Prop:=(e (v=E/\w=F/\x=A/\a.1.an=q1.1.an/\a.1.wh=q1.1.wh/\True));let K:Prop:=(aa [b.an] (Iv (bx h/\t)/\aa ([y.2.i,4]:List Int) (aa [y.1] (aa [bP y.1] (aa [g,r,q,b.an,b.wh] (aj (!(aB j.an 0)) ([]=q1.2/\e (((j.i:Nat):Int)=E/\((j.ak:Nat):Int)=F/\((j.ab:Nat):Int)=A/\j.an=q1.1.an/\j.wh=q1.1.wh/\True)) (n)))))));let L:Prop:=(aj (!s) ([]=q1.2/\B) (Tt 1 (aw 0 (ag c.2.1)/\Tt 1 (aw 0 (ag a.2.1)/\aa [f,k] (([(f,k)]:List (Int×Int))=q1.2/\B)))));let C:Prop:=(e (((d.i:Nat):Int)=E/\((d.ak:Nat):Int)=F/\((d.ab:Nat):Int)=A/\d.an=q1.1.an/\d.wh=q1.1.wh/\True));let M:Prop:=(o (Iv (bx (y.1,z)/\t)/\Q (aj (!(aB d.an 0)) ([]=q1.2/\C) (n))));let D:Prop:=(Iv (bx (y.1,z)/\t)/\Q (aj (!(aB d.an 0)) ([]=q1.2/\C) (Tt 1 (aw 0 (ag c.2.1)/\Tt 1 (aw 0 (ag a.2.1)/\aa [f,k] (([(f,k)]:List (Int×Int))=q1.2/\C))))));aj (yg I) (Iv (bx I/\NJ (I,true))/\R (aj G ([]=q1.2/\e (O=E/\N=F/\P=A/\c.1.an=q1.1.an/\c.1.wh=q1.1.wh/\True)) (Iv (bx (y.1,l)/\t)/\aa ([y.2.i,4]:List Int) (aa [y.1] (aa [bP y.1] (aa [O,N,P,c.1.an,c.1.wh] ([]=q1.2/\e (((m.i:Nat):Int)=E/\((m.ak:Nat):Int)=F/\((m.ab:Nat):Int)=A/\m.an=q1.1.an/\m.wh=q1.1.wh/\True)))))))) (Iv (bx I/\NJ (I,false))/\R (aj G ([]=q1.2/\e (O=E/\N=F/\P=A/\c.1.an=q1.1.an/\c.1.wh=q1.1.wh/\True)) (aw 0 (ag c.2.1)/\Iv (bx (y.1,l)/\True)/\aa ([45]:List Int) (aa [y.1] (aa [bP y.1] (aa [O,N,P,c.1.an,c.1.wh] (aj U (c.2.1=q1.2/\J) (aa [g] (aa [y.1] (aj V (aj (yg h) (Iv (bx h/\NJ (h,true))/\S (aj s (aj (!c.2.2) (M) (aj (!false) (M) (n))) (o (aj (!s) ([]=q1.2/\B) (n))))) (Iv (bx h/\NJ (h,false))/\S (aj s (aj (!c.2.2) (o (D)) (aj (!a.2.2) (o (D)) (Tt 1 (aw 0 (ag c.2.1)/\Tt 1 (aw 0 (ag a.2.1)/\aa [a.1.an,f,k] (aj (aw k f) (D) (L))))))) (o (L))))) (aj H (aj (!c.2.2) (K) (K)) (aa [b.an] (aj (!H) ([]=q1.2/\J) (n))))))))))))))
@[grind=] theorem ez (t:Ps):nn ⟨t.i,t.ak,t.ab,t.an,t.wh⟩=t:=rfl
def bx.adv (h:bx y):gi y.1 (nn y.2) (nn y.2):=by
 obtain⟨_,a,b,c,_⟩:=h;exact gi.refl (by show y.2.i.toNat<=_;omega) (by show y.2.ab.toNat<=_;omega)
theorem bx.of (h:bx y) (a:gi y.1 (nn y.2) s):bx (y.1,⟨s.i,s.ak,s.ab,s.an,s.wh⟩):=by
 obtain⟨h1,d,f,g,b⟩:=h;have e:s.ak=y.2.ak.toNat:=a.op;have:=a.len;have:=a.gm;have c:((y.1,(⟨s.i,s.ak,s.ab,s.an,s.wh⟩:b7)):PS).1.length=y.1.length:=rfl;exact⟨h1,⟨ZaF _,by grind⟩,⟨ZaF _,by grind⟩,⟨ZaF _,by grind⟩,b⟩
theorem Tk (b:Fx G) (hl:s.i<G.length):(b5 G s).2.1=[]->(b5 G s).2.2=false:=by
 cases c:fi G s.i with
 | true=>rw[yi c];exact λ_=>rfl
 | false=>
  by_cases d:aK G s.i=92
  ·rw[mU c d];by_cases h1:G.length<=s.i+1
   ·grind [tI]
   ·cases a:fi G (s.i+1) with
    | true=>rw[tJ ω a];exact λ_=>rfl
    | false=>
     rw[yh ω a];intro h;have no:=λk=>K8 b (s:=s.next.next) s.i (i:=s.i+1) ω k b.w0 h
     grind [mC]
  ·grind [sx.gL,yj]
theorem NK (h0:G.length<=s.i) (a:List Rg) (one:Bool) (b:Nat):j3 G a one b s=if s.an=0 then(s.ax G b 4,[]) else(s,[]):=by
 grind [fj,j3]
theorem Tm (h:s.i<G.length) (a:List Rg) (one:Bool) (b:Nat):j3 G a one b s=if (b5 G s).1.an=0 then(if one=false\/(b5 G s).2.2=false\/o7 (b5 G s).2.1<o7 a then((b5 G s).1.ax G b 4,[]) else((b5 G s).1,[(o7 a,o7 (b5 G s).2.1)])) else((b5 G s).1,[]):=by
 grind [fj,j3]
theorem Qo7 (y:PS) (m:Ti.pre y):Tj y:=by
 obtain⟨h0,hi⟩:bx y/\y.2.i<y.1.length:=m;have a0:=h0.adv;have hl:(nn y.2).i<y.1.length:=by show y.2.i.toNat<_;obtain⟨_,n,_⟩:=h0;omega
 have j:(nn y.2).i=y.2.i.toNat:=rfl;have a:=(mE a0 hl).1;have q:=h0.of a;have u:=h0.of (a.ax y.2.i.toNat 4);have g:=a.skip 45;have r:=h0.of g;have i0:0<=y.2.i:=h0.2.1.1;unfold Tj;simp only[bL,bC,ez,F6,au,dq,Zd0,Int.ofNat_le];have o:=λh=>Tk h0.2.2.2.2 (s:=bp y.1 (b5 y.1 (nn y.2)).1 45) h
 have t:=λh=>h0.of (mE g h).1
 have hk:∀s,yg (y.1,s)=decide ((b5 y.1 (nn s)).2.1=[]):=λ_=>rfl
 have f:∀s b,NJ ((y.1,s),b)=(s.i<y.1.length/\b=yg (y.1,s)):=λ_ _=>rfl
 have v:=λ(s:Ps)=>fj (G:=y.1) s y.2.i.toNat (e:=4) (by decide)
 have c:ei y.1 (nn y.2)=if (b5 y.1 (nn y.2)).1.an≠0 then((b5 y.1 (nn y.2)).1,[]) else if (b5 y.1 (nn y.2)).2.1=[] then((b5 y.1 (nn y.2)).1.ax y.1 (nn y.2).i 4,[]) else if bb y.1 (b5 y.1 (nn y.2)).1 45 then j3 y.1 (b5 y.1 (nn y.2)).2.1 (b5 y.1 (nn y.2)).2.2 (nn y.2).i (b5 y.1 (nn y.2)).1.next else((b5 y.1 (nn y.2)).1,(b5 y.1 (nn y.2)).2.1):=rfl
 rw[c];simp only[hk,f,ez,j];generalize b5 y.1 (nn y.2)=p at*
 have hs:bb y.1 p.1 45->bp y.1 p.1 45=p.1.next:=λh=>Zac h
 clear c hk f;have k:=λh=>Tm (G:=y.1) (s:=p.1.next) (show p.1.i+1<y.1.length from h) p.2.1 p.2.2 y.2.i.toNat
 have d:=λh=>NK (G:=y.1) (s:=p.1.next) (show y.1.length<=p.1.i+1 from h) p.2.1 p.2.2 y.2.i.toNat
 have l:bb y.1 p.1 45=false->bp y.1 p.1 45=p.1:=λh=>Zaa (by grind)
 with_reducible repeat' first | apply And.intro | intro _
 all_goals first
  | assumption
  | (simp_all [o7,uG,Zbe];done)
  | (simp_all [o7,uG,Zbe];omega)
  | (simp_all [o7,uG,Zbe];simp(disch:=omega) only[Zac,Zaa, *];done)
  | (simp_all [o7,uG,Zbe])
def QiN (a:Ok dB):Ok Ti:=okZ [HO,qD,tH] f292 (λ_=>dY ()) ⟨QiM a,uK,AY⟩ Qo7
def Zf (b n:Nat) (l:By):List (Nat×AO D.E):=[(b,.cells [.ptr b 0,.own n 1 (ag l)] 369 false),(n,.arr 0 l 5 false)]
def Tn (b:Nat) (p:AV D.E):List (Nat×AO D.E):=[(b,.cells [p,.dF] 369 false)]
def Zg (v:AV D.E) (s:St D.E):C Unit:=match v with
 | .ptr b _=>az (cR (s.h.get b)) λo=>match o with
  | .cells cs _ _=>match cs with
   | [.fT,.dF]=>.ret ()
   | _=>.fail
  | _=>.fail
 | _=>.fail
def Zh (v:AV D.E) (s:St D.E):C By:=match v with
 | .ptr b _=>az (cR (s.h.get b)) λo=>match o with
  | .cells cs _ _=>match cs with
   | [.ptr _ _,l]=>az (aL D s 0 l) λl=>.ret (l:By)
   | _=>.fail
  | _=>.fail
 | _=>.fail
def Zi:bh D:=⟨306,Unit,λa s=>match a with
 | [p]=>Zg p s
 | _=>.fail,λ_=>True,λ_=>[.ptr 0 0],λ_=>Tn 0 .fT,λ_=>.tuple [],λ_=>Tn 0 (.ptr 0 0),1,1⟩
def QiO:bh D:=⟨306,By,λa s=>match a with
 | [p]=>Zh p s
 | _=>.fail,λ_=>True,λ_=>[.ptr 0 0],λy=>Zf 0 1 y,λ_=>.tuple [],λy=>Zf 0 1 y,2,2⟩
def Zj:bh D:=⟨296,Int,λa s=>match a with
 | [p,c]=>az (Zg p s) λ_=>aP (cT c) λ_ c=>.ret c
 | _=>.fail,Hg,λy=>[.ptr 0 0,.int .u8 y],λ_=>Tn 0 .fT,λ_=>.nilIface,λy=>Zf 0 1 [UInt8.ofNat y.toNat],1,2⟩
def Zk:bh D:=⟨296,By×Int,λa s=>match a with
 | [p,c]=>az (Zh p s) λl=>aP (cT c) λ_ c=>.ret (l,c)
 | _=>.fail,λy=>y.1.length<=1000000/\Hg y.2,λy=>[.ptr 0 0,.int .u8 y.2],λy=>Zf 0 1 y.1,λ_=>.nilIface,λy=>Zf 0 2 (y.1++[UInt8.ofNat y.2.toNat]),2,3⟩
def Zl:bh D:=⟨295,Unit,λa s=>match a with
 | [p]=>Zg p s
 | _=>.fail,λ_=>True,λ_=>[.ptr 0 0],λ_=>Tn 0 .fT,λ_=>Qvo 0,λ_=>Tn 0 .fT,1,1⟩
def Zm:bh D:=⟨295,By,λa s=>match a with
 | [p]=>Zh p s
 | _=>.fail,λ_=>True,λ_=>[.ptr 0 0],λy=>Zf 0 1 y,λy=>Qvo (ag y),λy=>Zf 0 1 y,2,2⟩
def QiP:bh D:=⟨297,Unit,λa s=>match a with
 | [p]=>Zg p s
 | _=>.fail,λ_=>True,λ_=>[.ptr 0 0],λ_=>Tn 0 .fT,λ_=>.str [],λ_=>[],1,1⟩
def QiQ:bh D:=⟨297,By,λa s=>match a with
 | [p]=>Zh p s
 | _=>.fail,λy=>y≠[],λ_=>[.ptr 0 0],λy=>Zf 0 1 y,λy=>.str y,λ_=>[],2,2⟩
def yk:bh D:=ye 269 PS (λy=>y) NI (λ_=>True) (λ_=>[]) (λy=>zz (dv y.1 (nn y.2))) λy=>.tuple [.str (gU y.1 (nn y.2)),.bool (gJ y.1 (nn y.2))]
def QiR (s:b7) (i:Nat):b7:={ s with i:=i }
def tK (y:PS) (i:Nat) (l:By):Prop:=(nn y.2).i<=i/\i<=y.1.length/\l.length<=i/\ct y.1 (y.1.length-i) i l=ct y.1 (y.1.length-(nn y.2).i) (nn y.2).i []
def Qpc (y:yk.Y):cH D:=⟨[],[],[],[],1,
 [(60,⟨Unit,λ_=>⟨Nat,[0,4,5],λ_=>[],[],λi=>psO y.1 (QiR y.2 i)++Tn 1 .fT,2,λi=>tK y i [],λi=>y.1.length-i⟩,
  some ⟨Nat×By,[0,4,5],λ_=>[],[],λx=>psO y.1 (QiR y.2 x.1)++Zf 1 2 x.2,3,λx=>tK y x.1 x.2/\x.2≠[],λx=>y.1.length-x.1⟩⟩)]⟩
def Zn (y:PS) (x:b7×List Rg×Bool):Prop:=bx (y.1,x.1)/\(nn x.1).ak=(nn y.2).ak/\x.2.1.length<=8*(nn x.1).i+(if x.1.an=0 then 0 else 8)/\∃n,(x.1.an=0->y.1.length+2<=n+(nn x.1).i)/\
 dX y.1 (nn y.2).i n (nn x.1) x.2.1 x.2.2=dX y.1 (nn y.2).i (y.1.length+2-(bp y.1 (nn y.2).next 94).i) (bp y.1 (nn y.2).next 94) [] true
def QeV (y:PS) (x:b7×List Rg×Bool):Nat:=2*(y.1.length-(nn x.1).i)+(if x.1.an=0 then 1 else 0)
def HW:bh D:=ye 265 PS (λy=>y) NI F6 (λ_=>[]) (λy=>zz (sd y.1 (nn y.2)).1) λy=>.list 7 (sd y.1 (nn y.2)).2
def Qpe (y:HW.Y):cH D:=⟨[],[],[(508,⟨b7×List Rg×Bool,[0,3,4],λx=>[(5,.grow 6 x.2.1 1),(6,.bool x.2.2)],[],λx=>psO y.1 x.1++[(1,.tok 6 350)],2,Zn y,QeV y⟩)],[],1,[]⟩
def px (y:PS):Ps×By×Bool:=
 if gJ y.1 (nn y.2).next/\bb y.1 (dv y.1 (nn y.2).next) 44=true then(dv y.1 (dv y.1 (nn y.2).next).next,gU y.1 (dv y.1 (nn y.2).next).next,!gJ y.1 (dv y.1 (nn y.2).next).next)
 else(dv y.1 (nn y.2).next,gU y.1 (nn y.2).next,false)
def HY:bh D:=ye 246 PS (λy=>y) NI F6 (λ_=>[]) (λy=>zz (gv y.1 (nn y.2)).1) λy=>.tuple [Qvo (gv y.1 (nn y.2)).2.1,Qvo (gv y.1 (nn y.2)).2.2]
def Qpg (y:HY.Y):cH D:=⟨[],[],[],[(63,⟨Unit,[0,4,5,6],λ_=>[(7,.str (px y).2.1),(8,.bool (px y).2.2)],[],λ_=>psO y.1 (zz (px y).1),1,λ_=>True,λ_=>0⟩)],1,[]⟩
def To (y:(List (Int×Int))×b7):Prop:=let b:=sd y.1 (nn y.2);let q1:=ay .i64 y.2.i 1;let o:=((b.1.i:Nat):Int);let s:=((b.1.ak:Nat):Int);let t:=((b.1.ab:Nat):Int);let q:=b7.mk q1 y.2.ak y.2.ab y.2.an y.2.wh;let k:=bp y.1 (nn q) 94;let r:=bb y.1 (nn q) 94;let l:=λp:Prop=>aa [y.1] (aa [bP y.1] p);let u:Prop:=(0<=y.2.i/\(y.2.i<(y.1.length:Int)));Iv (bx (y.1,q)/\True)/\aa ([94]:List Int) (aa [y.1] (aa [bP y.1] (aa [q1,y.2.ak,y.2.ab,y.2.an,y.2.wh] ((∃z:b7×(List (Int×Int))×Bool,aa [y.2.i] (aa [r] ([]=z.2.1/\true=z.2.2/\l (((k.i:Nat):Int)=z.1.i/\((k.ak:Nat):Int)=z.1.ak/\((k.ab:Nat):Int)=z.1.ab/\k.an=z.1.an/\k.wh=z.1.wh/\(Iv (Zn y z))))))/\(∀x:b7×(List (Int×Int))×Bool,let d:=aU x.2.1;let e:=aB x.1.an 0;let a:=ei y.1 (nn x.1);let m:=aG (ag y.1) x.1.i;let n:=!(bb y.1 (nn x.1) 93);let c:=Ps.ax y.1 (nn x.1) y.2.i.toNat 4;let f:Prop:=(x.1.ak=s/\x.1.ab=t/\x.1.an=b.1.an/\x.1.wh=b.1.wh/\True);let g:Prop:=(l (ay .i64 x.1.i 1=o/\f));let h:Prop:=(Iv (bx (y.1,x.1)/\u)/\aa ([y.2.i,4]:List Int) (aa [y.1] (aa [bP y.1] (aa [x.1.i,x.1.ak,x.1.ab,x.1.an,x.1.wh] ([]=b.2/\l (((c.i:Nat):Int)=o/\((c.ak:Nat):Int)=s/\((c.ab:Nat):Int)=t/\c.an=b.1.an/\c.wh=b.1.wh/\True))))));let j:Prop:=(aj (!e) ([]=b.2/\l (x.1.i=o/\f)) (aj x.2.2 (h) (Iv (x.2.1.length<=100000000)/\aa [x.2.1] (aj r (Iv (d.length<=1000000)/\aa [d] (([Nd.mk 2 (lH d) 0 0 false 0 0]:List Nd)=b.2/\g)) (([Nd.mk 2 d 0 0 false 0 0]:List Nd)=b.2/\g)))));(Iv (Zn y x))->aj e (Iv (bx (y.1,x.1)/\True)/\aa ([93]:List Int) (aa [y.1] (aa [bP y.1] (aa [x.1.i,x.1.ak,x.1.ab,x.1.an,x.1.wh] (aj n (aa [x.1.i] (aa [y.1] (aj m (h) (Iv (bx (y.1,x.1)/\F6 (y.1,x.1))/\aa [y.1] (aa [bP y.1] (aa [x.1.i,x.1.ak,x.1.ab,x.1.an,x.1.wh] (bJ (ag (bM x.2.1 a.2)) 8/\∃z:b7×(List (Int×Int))×Bool,aa [y.2.i] (aa [r] (bM x.2.1 a.2=z.2.1/\false=z.2.2/\l (((a.1.i:Nat):Int)=z.1.i/\((a.1.ak:Nat):Int)=z.1.ak/\((a.1.ab:Nat):Int)=z.1.ab/\a.1.an=z.1.an/\a.1.wh=z.1.wh/\(Iv (Zn y z/\QeV y z<QeV y x)))))))))))) (j)))))) (j))))))
def Tp (y:(List (Int×Int))×b7):Prop:=let f:=(px y).1;let q1:=y.2.i.toNat;let R:=y.1.length;let H:=(px y).2.2;let A:=(px y).2.1;let U:=((y.2.ab.toNat:Nat):Int);let V:=((y.2.ak.toNat:Nat):Int);let L:=((f.ak:Nat):Int);let M:=((f.i:Nat):Int);let N:=((f.ab:Nat):Int);let a:=gv y.1 (nn y.2);let m:=ay .i64 y.2.i 1;let n:=((a.1.ak:Nat):Int);let o:=((a.1.ab:Nat):Int);let q:=((a.1.i:Nat):Int);let D:=b7.mk m y.2.ak y.2.ab y.2.an y.2.wh;let b:=gU y.1 (nn D);let E:=gJ y.1 (nn D);let g:=b7.mk M L N f.an f.wh;let F:=((ct y.1 (R-m.toNat) m.toNat []).1:Int);let c:=bp y.1 (nn g) 125;let S:=!(bb y.1 (nn g) 125);let r:=((c.ak:Nat):Int);let s:=((c.ab:Nat):Int);let t:=((c.i:Nat):Int);let h:=Ps.ax y.1 (nn g) q1 4;let G:=b7.mk F V U y.2.an y.2.wh;let d:=bp y.1 (nn G) 44;let T:=bb y.1 (nn G) 44;let u:=((d.ak:Nat):Int);let v:=((d.ab:Nat):Int);let j:=((d.i:Nat):Int);let w:=b7.mk t r s c.an c.wh;let k:=Ps.ax y.1 (nn w) q1 4;let l:=Ps.ax y.1 (nn w) q1 2;let I:=b7.mk j u v d.an d.wh;let e:=λp:Prop=>aa [y.1] (aa [bP y.1] p);let K:=λp:Prop=>aa [y.2.i] (aa [b] (aa [E] p));let J:Prop:=(0<=y.2.i/\(y.2.i<(R:Int)));let O:Prop:=(d.an=f.an/\d.wh=f.wh/\(Iv True));let B:Prop:=(e (t=q/\r=n/\s=o/\c.an=a.1.an/\c.wh=a.1.wh/\True));let C:Prop:=(Iv (bx (y.1,w)/\J)/\aa ([y.2.i,2]:List Int) (aa [y.1] (aa [bP y.1] (aa [t,r,s,c.an,c.wh] (0=a.2.1/\0=a.2.2/\e (((l.i:Nat):Int)=q/\((l.ak:Nat):Int)=n/\((l.ab:Nat):Int)=o/\l.an=a.1.an/\l.wh=a.1.wh/\True))))));let P:Prop:=(Iv (bx (y.1,w)/\J)/\aa ([y.2.i,4]:List Int) (aa [y.1] (aa [bP y.1] (aa [t,r,s,c.an,c.wh] (0=a.2.1/\0=a.2.2/\e (((k.i:Nat):Int)=q/\((k.ak:Nat):Int)=n/\((k.ab:Nat):Int)=o/\k.an=a.1.an/\k.wh=a.1.wh/\True))))));let Q:Prop:=(Iv (k_ b)/\aa [b] (aj H (Iv (k_ [])/\aa ([[]]:List (List UInt8)) (aj (!(eF b).2) (C) (aj (!(decide (hI []<=30))) (C) (aj H ((eF b).1=a.2.1/\(-1)=a.2.2/\B) ((eF b).1=a.2.1/\hI []=a.2.2/\B))))) (Iv (k_ A)/\aa [A] (aj (!(eF b).2) (C) (aj (!(eF A).2) (C) (aj H ((eF b).1=a.2.1/\(-1)=a.2.2/\B) ((eF b).1=a.2.1/\(eF A).1=a.2.2/\B)))))));Iv (bx (y.1,D)/\True)/\aa [y.1] (aa [bP y.1] (aa [m,y.2.ak,y.2.ab,y.2.an,y.2.wh] ((aj E (Iv (bx (y.1,G)/\True)/\aa ([44]:List Int) (aa [y.1] (aa [bP y.1] (aa [F,V,U,y.2.an,y.2.wh] (aj T (Iv (bx (y.1,I)/\True)/\aa [y.1] (aa [bP y.1] (aa [j,u,v,d.an,d.wh] (∃z:Unit,K (gU y.1 (nn I)=A/\(!(gJ y.1 (nn I)))=H/\e (((ct y.1 (R-j.toNat) j.toNat []).1:Int)=M/\((u.toNat:Nat):Int)=L/\((v.toNat:Nat):Int)=N/\O)))))) (∃z:Unit,K (b=A/\false=H/\e (j=M/\u=L/\v=N/\O)))))))) (∃z:Unit,K (b=A/\false=H/\e (F=M/\V=L/\U=N/\y.2.an=f.an/\y.2.wh=f.wh/\(Iv True)))))/\(∀x:Unit,(Iv True)->aj (!E) (Iv (bx (y.1,g)/\J)/\aa ([y.2.i,4]:List Int) (aa [y.1] (aa [bP y.1] (aa [M,L,N,f.an,f.wh] (0=a.2.1/\0=a.2.2/\e (((h.i:Nat):Int)=q/\((h.ak:Nat):Int)=n/\((h.ab:Nat):Int)=o/\h.an=a.1.an/\h.wh=a.1.wh/\True)))))) (Iv (bx (y.1,g)/\True)/\aa ([125]:List Int) (aa [y.1] (aa [bP y.1] (aa [M,L,N,f.an,f.wh] (aj S (P) (aj (!H) (Iv True/\aa [A] (aa [b] (aj (iy A b) (P) (Q)))) (Q)))))))))))
def dz (G:List Gt) (i o g e w:Int):nn ⟨((ct G (G.length-i.toNat) i.toNat []).1:Nat),(o.toNat:Nat),(g.toNat:Nat),e,w⟩=dv G (nn ⟨i,o,g,e,w⟩):=rfl
def pno (s:b7):s.ak.toNat=(nn s).ak:=rfl
def png (s:b7):s.ab.toNat=(nn s).ab:=rfl
def nne (s:b7):(nn s).an=s.an:=rfl
def nnw (s:b7):(nn s).wh=s.wh:=rfl
@[simp] theorem nxw (s:Ps):s.next.wh=s.wh:=rfl
def dgo (G:List Gt) (s:Ps):(dv G s).ak=s.ak:=rfl
def dgg (G:List Gt) (s:Ps):(dv G s).ab=s.ab:=rfl
def dge (G:List Gt) (s:Ps):(dv G s).an=s.an:=rfl
def dgw (G:List Gt) (s:Ps):(dv G s).wh=s.wh:=rfl
def dzi (G:List Gt) (s:Ps):(ct G (G.length-s.i) s.i []).1=(dv G s).i:=rfl
def pni (s:b7):s.i.toNat=(nn s).i:=rfl
def bx.Zq (h:bx y) (hi:y.2.i<y.1.length):ay .i64 y.2.i 1=y.2.i+1/\nn ⟨y.2.i+1,y.2.ak,y.2.ab,y.2.an,y.2.wh⟩=(nn y.2).next/\(nn y.2).i<y.1.length/\gi y.1 (nn y.2) (nn y.2).next/\bx (y.1,⟨y.2.i+1,y.2.ak,y.2.ab,y.2.an,y.2.wh⟩):=by
 obtain⟨a,a2,a3,a4,b⟩:=id h;have hl:(nn y.2).i<y.1.length:=by show y.2.i.toNat<_;omega
 have c:((y.1,(⟨y.2.i+1,y.2.ak,y.2.ab,y.2.an,y.2.wh⟩:b7)):PS).1.length=y.1.length:=rfl;exact⟨ba ω ω,sC a2.1,hl,h.adv.next hl,a,⟨show 0<=y.2.i+1 by omega,show y.2.i+1<=(y.1.length:Int) by omega⟩,a3,a4,b⟩
theorem yl:∀(n i:Nat) (b:By),k_ b->k_ (ct G n i b).2
 | 0,_,_,h=>h
 | n+1,i,b,h=>by
  unfold ct;split
  ·rename_i e
   refine yl n _ _ ?_;split
   ·intro c a;rcases Zax.1 a with d | d
    ·exact h c d
    ·grind [UInt8.toNat_ofNat']
   ·exact h
  ·exact h
theorem qk (G:List Gt) (s:Ps):k_ (gU G s):=yl _ _ _ λc h=>by cases h
theorem QeW (y:PS):gv y.1 (nn y.2)=nK y.1 (nn y.2).i (px y).1 (gU y.1 (nn y.2).next) (px y).2.1 (gJ y.1 (nn y.2).next) (px y).2.2:=by
 grind [gv,px]
theorem Qpk (y:PS) (n:HY.pre y):Tp y:=by
 obtain⟨h0,hi⟩:bx y/\y.2.i<y.1.length:=n;obtain⟨l,f,hl,k,q⟩:=h0.Zq hi;have i0:0<=y.2.i:=h0.2.1.1;have c:=(se k).1;have g:=c.skip 44;have r:=h0.of c;have os:=h0.of g;have e:gi y.1 (nn y.2) (px y).1:=by
  unfold px;split
  ·rename_i h
   exact(se (c.next (da h.2))).1
  ·exact c
 have s:=h0.of e;have d:=h0.of (e.skip 125);have g1:=qk y.1 (nn y.2).next;have g2:k_ (px y).2.1:=by grind [px,qk]
 have x:hI []=0:=rfl;have g0:k_ []:=λ_ h=>nomatch h
 have o:gJ y.1 (nn y.2).next->bb y.1 (dv y.1 (nn y.2).next) 44->px y=(dv y.1 (dv y.1 (nn y.2).next).next,gU y.1 (dv y.1 (nn y.2).next).next,!gJ y.1 (dv y.1 (nn y.2).next).next):=λa b=>Zac ⟨a,b⟩
 have p:¬(gJ y.1 (nn y.2).next/\bb y.1 (dv y.1 (nn y.2).next) 44)->px y=(dv y.1 (nn y.2).next,gU y.1 (nn y.2).next,false):=λa=>Zaa a
 have k1:bb y.1 (dv y.1 (nn y.2).next) 44->bp y.1 (dv y.1 (nn y.2).next) 44=(dv y.1 (nn y.2).next).next:=λh=>Zac h
 have k2:bb y.1 (dv y.1 (nn y.2).next) 44=false->bp y.1 (dv y.1 (nn y.2).next) 44=dv y.1 (nn y.2).next:=λh=>Zaa (by grind)
 have t:(ct y.1 (y.1.length-(y.2.i+1).toNat) (y.2.i+1).toNat []).1=(dv y.1 (nn y.2).next).i:=by rw[<-f];rfl
 have w:(nn y.2).next.wh=y.2.wh:=rfl;have z2:nn ⟨(dv y.1 (nn y.2).next).i,(nn y.2).ak,(nn y.2).ab,y.2.an,y.2.wh⟩=dv y.1 (nn y.2).next:=rfl;unfold Tp;simp only[bC,l,f,dz,ez,ZaX,ZaY,ZaZ,t,z2,Zad,dzi,pni,pno,png,QeW];refine⟨q,?_,?_⟩
 ·clear s d g1 g2
  with_reducible repeat' first | apply And.intro | intro _
  all_goals first
   | assumption
   | (simp_all [dgo,dgg,dge,dgw,nne,nnw];done)
 ·clear o p k1 k2 r os c g;generalize px y=j at*
  have u:bb y.1 j.1 125->bp y.1 j.1 125=j.1.next:=λh=>Zac h
  have v:bb y.1 j.1 125=false->bp y.1 j.1 125=j.1:=λh=>Zaa (by grind)
  generalize gJ y.1 (nn y.2).next=ok at*
  generalize gU y.1 (nn y.2).next=m at*
  with_reducible repeat' first | apply And.intro | intro _
  all_goals first
   | assumption
   | (simp_all [nK,eF];done)
def QiT (a:Ok yk):Ok HY:=okZ [yk,tH,qD,NH,HJ] f246 Qpg ⟨a,AY,uK,Qiz,QiC⟩ Qpk
theorem HZ {n:Nat} {b:Bool} (h:s.an≠0\/bb G s 93):dX G i n s l b=(s,l,b,false):=by
 cases n with
 | zero=>rfl
 | succ n=>
  grind [dX]
theorem NM {one:Bool}:(j3 G l one i s).1.an≠0->(j3 G l one i s).2=[]:=by
 grind [j3]
theorem Zr {G:List Gt} {s:Ps} (h:(ei G s).1.an≠0):(ei G s).2=[]:=by
 grind [ei,NM]
theorem Qpl (y:PS) (B:HW.pre y):To y:=by
 obtain⟨h0,hi⟩:bx y/\y.2.i<y.1.length:=B;obtain⟨r,u,hl,v,E⟩:=h0.Zq hi;have i0:0<=y.2.i:=h0.2.1.1;have e:=v.skip 94;have os:=h0.of e;unfold To;simp only[bL,bC,r,u,dz,ez,ZaX,ZaY,ZaZ,pni,au,aT,br];refine⟨E,⟨⟨zz (bp y.1 (nn y.2).next 94),[],true⟩,rfl,rfl,rfl,rfl,rfl,rfl,rfl,os,e.op,by simp,_,λ_=>?_,rfl⟩,λx A=>?_⟩
 ·have:=e.len;show _<=_+(bp y.1 (nn y.2).next 94).i
  omega
 ·obtain⟨s,l,b⟩:=x;obtain⟨c,k,D,n,d,g⟩:=A;simp only at*
  have a2:gi y.1 (nn s) (nn s):=c.adv;obtain⟨b1,o,p,q,_⟩:y.1.length<=4096/\(0<=s.i/\s.i<=y.1.length)/\(0<=s.ak/\s.ak<=20)/\(0<=s.ab/\s.ab<=4)/\_:=id c;have F:(nn s).i<=y.1.length:=a2.len;have zi:((nn s).i:Int)=s.i:=Zby o.1;have zo:((nn s).ak:Int)=s.ak:=Zby p.1;have zg:((nn s).ab:Int)=s.ab:=Zby q.1;have w:sd y.1 (nn y.2)=(if (dX y.1 (nn y.2).i n (nn s) l b).2.2.2 then((dX y.1 (nn y.2).i n (nn s) l b).1,[]) else if (dX y.1 (nn y.2).i n (nn s) l b).1.an≠0 then((dX y.1 (nn y.2).i n (nn s) l b).1,[]) else if (dX y.1 (nn y.2).i n (nn s) l b).2.2.1 then((dX y.1 (nn y.2).i n (nn s) l b).1.ax y.1 (nn y.2).i 4,[])
   else((dX y.1 (nn y.2).i n (nn s) l b).1.next,[xu (if bb y.1 (nn y.2).next 94 then lH (aU (dX y.1 (nn y.2).i n (nn s) l b).2.1) else aU (dX y.1 (nn y.2).i n (nn s) l b).2.1)])):=by rw[g];rfl
  have cs:s.an≠0\/bb y.1 (nn s) 93->dX y.1 (nn y.2).i n (nn s) l b=(nn s,l,b,false):=λh=>HZ h
  have f:s.an=0->∃m,n=m+1:=λh=>⟨n-1,ω⟩
  have G:y.1.length<=4096:=b1;have H:(aU l).length<=2*l.length:=qd l;have b8:l.length<=40000:=by grind
  have I:bb y.1 (nn s) 93->ay .i64 s.i 1=s.i+1:=λh=>ba ω ω
  refine⟨λa=>⟨c,λz=>⟨λt=>⟨⟨c,i0,hi⟩,?_⟩,λt=>⟨⟨c,t⟩,?_⟩⟩,λz=>?_⟩,λa=>?_⟩
  ·obtain⟨m,rfl⟩:=f a;have:dX y.1 (nn y.2).i (m+1) (nn s) l b=((nn s).ax y.1 (nn y.2).i 4,l,b,true):=by
    unfold dX;rw[Zac ⟨a,by grind⟩,Zac ω]
   grind
  ·obtain⟨m,rfl⟩:=f a;have j:(nn s).i<y.1.length:=ω;obtain⟨c1,c2,c3⟩:=kt a2 j;have c4:(nn s).i<=(ei y.1 (nn s)).1.i:=c1.le;have c5:=c1.len;have c6:=@Zr y.1 (nn s);have C:(l++(ei y.1 (nn s)).2).length<=8*(ei y.1 (nn s)).1.i+(if (ei y.1 (nn s)).1.an=0 then 0 else 8):=by
    grind
   have hlen:(l++(ei y.1 (nn s)).2).length<=40000:=by grind
   refine⟨ω,⟨zz (ei y.1 (nn s)).1,l++(ei y.1 (nn s)).2,false⟩,rfl,rfl,rfl,rfl,rfl,rfl,rfl,⟨c.of c1,c1.op.trans k,C,m,λh=>?_,?_⟩,?_⟩
   ·have:=c2 h;have:=d a;show _<=m+(ei y.1 (nn s)).1.i;omega
   ·rw[<-g]
    conv=>rhs;unfold dX
    rw[Zac ⟨a,by grind⟩,Zaa ω];rfl
   ·show 2*(y.1.length-(ei y.1 (nn s)).1.i)+(if (ei y.1 (nn s)).1.an=0 then 1 else 0)<2*(y.1.length-(nn s).i)+(if s.an=0 then 1 else 0)
    grind
  all_goals
   rw[cs (by first | exact .inl a | exact .inr (by grind))] at w;clear g cs f D d u r e os b1 o p q
   with_reducible repeat' first | apply And.intro | intro _
   all_goals first
    | assumption
    | omega
    | (simp_all [nne,nnw,xu,nd,uG];done)
    | (simp_all [nne,nnw,xu,nd,uG];omega)
def QiU (a:Ok dB):Ok HW:=okZ [tH,XI,qD,Ti,dB,Hs] f265 Qpe ⟨AY,isOk,uK,QiN a,a,Qb8 a⟩ Qpl
def ic (y:PS):Ps->Ps×List Nd:=qZ y.1 (20-(nn y.2).ak)
def lvl (y:PS):Nat:=5*(20-(nn y.2).ak)
def Tq (f:FuncId) (pre:PS->Prop) (F:PS->Ps×List Nd):bh D:=ye f PS (λy=>y) NI pre (λ_=>[]) (λy=>zz (F y).1) λy=>.list 7 (F y).2
def rk (y:PS):Ps×List Nd:=qZ y.1 (21-(nn y.2).ak) (nn y.2)
def mW (y:PS):Ps×List Nd:=mD y.1 (ic y) (nn y.2)
def zF (y:PS):Ps×List Nd:=fv y.1 (ic y) (nn y.2)
def dR (y:PS):Ps×List Nd:=jb y.1 (ic y) (nn y.2)
def mX (y:PS):Ps×List Nd:=ig y.1 (ic y) (nn y.2)
def H_:bh D:=Tq 114 (λ_=>True) rk
def NN:bh D:=Tq 173 (λ_=>True) mW
def NO:bh D:=Tq 213 F6 zF
def Tr:bh D:=Tq 245 F6 dR
def Ts:bh D:=Tq 264 F6 mX
def fmT (n:Nat):s7:=[H_.under (λy=>lvl y+4) n,NN.under (λy=>lvl y+3) n,NO.under (λy=>lvl y+2) n,Tr.under (λy=>lvl y+1) n,Ts.under (λy=>lvl y) n]
def fmW (l:s7) (i:Nat) (fn:Func) (k:bh D) (a:k.Y->cH D) (n:Nat) (y:k.Y):Prop:=vc (fmT (n+i)++l) fn k a y
def Qci (G:List Gt) (s:b7):List (Nat×AO D.E):=psO G s++[(1,.tok 9 138)]
def Zs (y:PS) (x:b7×List (List Nd)):Prop:=bx (y.1,x.1)/\(nn x.1).ak=(nn y.2).ak/\(nn y.2).i<=(nn x.1).i/\0<x.2.length/\total x.2+2*x.2.length<=3*((nn x.1).i-(nn y.2).i)+3/\∃n,(x.1.an=0->y.1.length+2<=n+(nn x.1).i)/\
 gx y.1 (ic y) n (nn x.1) x.2=gx y.1 (ic y) (y.1.length+2-(mW y).1.i) (mW y).1 [(mW y).2]
def EF (y:PS) (x:b7×List (List Nd)):Nat:=2*(y.1.length-(nn x.1).i)+(if x.1.an=0 then 1 else 0)
def QiW (y:H_.Y):cH D:=⟨[],[],[(28,⟨b7×List (List Nd),[0],λx=>[(3,.grow 9 x.2 1)],[],λx=>Qci y.1 x.1,2,Zs y,EF y⟩)],[],1,[]⟩
def Qpm (y:H_.Y):Prop:=fmW [tH,zD] 4 f114 H_ QiW (lvl y) y
def Tu (y:PS) (x:b7×List (List Nd)):Prop:=bx (y.1,x.1)/\(nn x.1).ak=(nn y.2).ak/\(nn y.2).i<=(nn x.1).i/\total x.2<=3*((nn x.1).i-(nn y.2).i)/\x.2.length<=(nn x.1).i-(nn y.2).i+(if x.1.an=0 then 0 else 1)/\∃n,(x.1.an=0->y.1.length+2<=n+(nn x.1).i)/\
 eI y.1 (ic y) n (nn x.1) x.2=eI y.1 (ic y) (y.1.length+2-(nn y.2).i) (nn y.2) []
def QiX (y:NN.Y):cH D:=⟨[],[],[(28,⟨b7×List (List Nd),[0],λx=>[(3,.grow 9 x.2 1)],[],λx=>Qci y.1 x.1,2,Tu y,EF y⟩)],[],1,[]⟩
def Qpn (y:NN.Y):Prop:=fmW [XI,zD] 3 f173 NN QiX (lvl y) y
def py (y:PS):Ps×Int×Int:=if bb y.1 (dR y).1 42 then((dR y).1.next,0,-1) else if bb y.1 (dR y).1 43 then((dR y).1.next,1,-1) else if bb y.1 (dR y).1 63 then((dR y).1.next,0,1) else gv y.1 (dR y).1
def ve (y:PS):Prop:=(dR y).1.an=0/\(bb y.1 (dR y).1 42\/bb y.1 (dR y).1 43\/bb y.1 (dR y).1 63\/bb y.1 (dR y).1 123)
def QiY (y:NO.Y):cH D:=⟨[],[],[],[(31,⟨Unit,[0,3],λ_=>[(4,.ptr 1 0)],[],λ_=>psO y.1 (zz (py y).1)++[(1,.cells [Qvo 5,.dF,Qvo (py y).2.1,Qvo (py y).2.2,.bool false,Qvo 0,Qvo 1] 206 false)],2,λ_=>ve y,λ_=>0⟩)],1,[]⟩
def Qpo (y:NO.Y):Prop:=fmW [tH,XI,HY] 2 f213 NO QiY (lvl y) y
def Qpp (y:Tr.Y):Prop:=fmW [zC,qD,HW,zE,S4,ED] 1 f245 Tr (λ_=>dY ()) (lvl y) y
def Qpq (y:Ts.Y):Prop:=fmW [tH,qD] 0 f264 Ts (λ_=>dY ()) (lvl y) y
def Tv (y:(List (Int×Int))×b7):Prop:=let c:=(rk y).1;let q1:=((c.i:Nat):Int);let o:=((c.ak:Nat):Int);let q:=((c.ab:Nat):Int);let n:=(y.1,y.2);let g:=eI y.1 (ic n) ((y.1.length+2) -y.2.i.toNat) (nn y.2) [];let m:=λp:Prop=>aa [y.1] (aa [bP y.1] p);Iv ((bx n/\True)/\(lvl n+3)<(lvl y+4))/\aa [y.1] (aa [bP y.1] (aa [y.2.i,y.2.ak,y.2.ab,y.2.an,y.2.wh] ((∃z:b7×(List (List Nd)),([bW 3 g.2]:List (List Nd))=z.2/\m (((g.1.i:Nat):Int)=z.1.i/\((g.1.ak:Nat):Int)=z.1.ak/\((g.1.ab:Nat):Int)=z.1.ab/\g.1.an=z.1.an/\g.1.wh=z.1.wh/\(Iv (Zs y z))))/\(∀x:b7×(List (List Nd)),let b:=bp y.1 (nn x.1) 124;let r:=bb y.1 (nn x.1) 124;let l:=((b.i:Nat):Int);let d:=((b.ab:Nat):Int);let e:=((b.ak:Nat):Int);let h:=b7.mk l e d b.an b.wh;let f:=(y.1,h);let a:=eI y.1 (ic f) ((y.1.length+2) -l.toNat) (nn h) [];let j:=bM x.2 [bW 3 a.2];let k:=λp:Prop=>aa ([4]:List Int) (aa [x.2] p);(Iv (Zs y x))->aj (aB x.1.an 0) (Iv (bx (y.1,x.1)/\True)/\aa ([124]:List Int) (aa [y.1] (aa [bP y.1] (aa [x.1.i,x.1.ak,x.1.ab,x.1.an,x.1.wh] (aj r (Iv ((bx f/\True)/\(lvl f+3)<(lvl y+4))/\aa [y.1] (aa [bP y.1] (aa [l,e,d,b.an,b.wh] (bJ (ag j) 24/\∃z:b7×(List (List Nd)),j=z.2/\m (((a.1.i:Nat):Int)=z.1.i/\((a.1.ak:Nat):Int)=z.1.ak/\((a.1.ab:Nat):Int)=z.1.ab/\a.1.an=z.1.an/\a.1.wh=z.1.wh/\(Iv (Zs y z/\EF y z<EF y x))))))) (Iv (total x.2<=100000/\x.2.length<=100000)/\k (bW 4 x.2=(rk y).2/\m (l=q1/\e=o/\d=q/\b.an=c.an/\b.wh=c.wh/\True)))))))) (Iv (total x.2<=100000/\x.2.length<=100000)/\k (bW 4 x.2=(rk y).2/\m (x.1.i=q1/\x.1.ak=o/\x.1.ab=q/\x.1.an=c.an/\x.1.wh=c.wh/\True)))))))
def Zt:∀y,Tv y=Qpm y:=λy=>by kernel_rfl
def Tw (y:(List (Int×Int))×b7):Prop:=let e:=eI y.1 (ic y) ((y.1.length+2) -y.2.i.toNat) (nn y.2) [];let q1:=((e.1.ak:Nat):Int);let k:=((e.1.ab:Nat):Int);let l:=((e.1.i:Nat):Int);let m:=bW 3 e.2;let j:=λp:Prop=>aa [y.1] (aa [bP y.1] p);(∃z:b7×(List (List Nd)),[]=z.2/\j (y.2.i=z.1.i/\y.2.ak=z.1.ak/\y.2.ab=z.1.ab/\y.2.an=z.1.an/\y.2.wh=z.1.wh/\(Iv (Tu y z))))/\(∀x:b7×(List (List Nd)),let n:=!(aw 0 x.1.ak);let o:=aw x.1.i (ag y.1);let c:=(y.1,x.1);let q:=bb y.1 (nn x.1) 41;let h:=!(bb y.1 (nn x.1) 124);let a:=(zF c).1;let f:=bM x.2 [(zF c).2];let d:=λp:Prop=>aa [x.1.an,x.1.i] (aa [y.1] p);let b:Prop:=(Iv (total x.2<=100000/\x.2.length<=100000)/\aa ([3]:List Int) (aa [x.2] (bW 3 x.2=m/\j (x.1.i=l/\x.1.ak=q1/\x.1.ab=k/\x.1.an=e.1.an/\x.1.wh=e.1.wh/\True))));let g:Prop:=(Iv ((bx c/\F6 c)/\(lvl c+2)<(lvl y+3))/\aa [y.1] (aa [bP y.1] (aa [x.1.i,x.1.ak,x.1.ab,x.1.an,x.1.wh] (bJ (ag f) 24/\∃z:b7×(List (List Nd)),f=z.2/\j (((a.i:Nat):Int)=z.1.i/\((a.ak:Nat):Int)=z.1.ak/\((a.ab:Nat):Int)=z.1.ab/\a.an=z.1.an/\a.wh=z.1.wh/\(Iv (Tu y z/\EF y z<EF y x)))))));(Iv (Tu y x))->aj (aB x.1.an 0) (aj o (Iv (bx c/\True)/\aa ([124]:List Int) (aa [y.1] (aa [bP y.1] (aa [x.1.i,x.1.ak,x.1.ab,x.1.an,x.1.wh] (aj h (Iv (bx c/\True)/\aa ([41]:List Int) (aa [y.1] (aa [bP y.1] (aa [x.1.i,x.1.ak,x.1.ab,x.1.an,x.1.wh] (aj q (aa [x.1.an,x.1.i] (aa [y.1] (aa [x.1.ak] (aj n (g) (b))))) (d (g))))))) (d (b))))))) (d (b))) (aa [x.1.an] (b)))
def Zu:∀y,Tw y=Qpn y:=λy=>by kernel_rfl
def Tx (y:(List (Int×Int))×b7):Prop:=let O:=(zF y).2;let q1:=(zF y).1;let e:=(py y).1;let M:=(py y).2.2;let P:=((q1.ak:Nat):Int);let Q:=((q1.i:Nat):Int);let R:=((q1.ab:Nat):Int);let N:=(py y).2.1;let J:=((e.ak:Nat):Int);let K:=((e.ab:Nat):Int);let f:=((e.i:Nat):Int);let h:=(y.1,y.2);let b:=(dR h).1;let s:=(dR h).2;let t:=((b.ab:Nat):Int);let u:=((b.i:Nat):Int);let v:=((b.ak:Nat):Int);let w:=b7.mk f J K e.an e.wh;let j:=bp y.1 (nn w) 63;let A:=b7.mk u v t b.an b.wh;let L:=bM [Nd.mk 5 [] N M (bb y.1 (nn w) 63) 0 1] s;let S:=bb y.1 (nn A) 42;let c:=bp y.1 (nn A) 42;let B:=((c.ak:Nat):Int);let C:=((c.ab:Nat):Int);let D:=((c.i:Nat):Int);let E:=b7.mk D B C c.an c.wh;let d:=bp y.1 (nn E) 43;let T:=bb y.1 (nn E) 43;let F:=((d.ab:Nat):Int);let G:=((d.ak:Nat):Int);let H:=((d.i:Nat):Int);let I:=b7.mk H G F d.an d.wh;let a:=bp y.1 (nn I) 63;let U:=bb y.1 (nn I) 63;let k:=((a.ak:Nat):Int);let l:=((a.ab:Nat):Int);let m:=((a.i:Nat):Int);let n:=b7.mk m k l a.an a.wh;let g:=gv y.1 (nn n);let V:=bb y.1 (nn n) 123;let o:=λp:Prop=>aa [y.1] (aa [bP y.1] p);let q:=λp:Prop=>aa ([0,1]:List Int) (aa [y.1] (aa [bP y.1] p));let r:=λp:Prop=>aa [s] (aa ([5]:List Int) p);Iv ((bx h/\F6 h)/\(lvl h+1)<(lvl y+2))/\aa [y.1] (aa [bP y.1] (aa [y.2.i,y.2.ak,y.2.ab,y.2.an,y.2.wh] (aj (!(aB b.an 0)) ([]=O/\o (u=Q/\v=P/\t=R/\b.an=q1.an/\b.wh=q1.wh/\True)) ((Iv (bx (y.1,A)/\True)/\aa ([42]:List Int) (aa [y.1] (aa [bP y.1] (aa [u,v,t,b.an,b.wh] (aj S (∃z:Unit,r (0=N/\(-1)=M/\false=false/\q (D=f/\B=J/\C=K/\c.an=e.an/\c.wh=e.wh/\(Iv (ve y))))) (Iv (bx (y.1,E)/\True)/\aa ([43]:List Int) (aa [y.1] (aa [bP y.1] (aa [D,B,C,c.an,c.wh] (aj T (∃z:Unit,r (1=N/\(-1)=M/\false=false/\q (H=f/\G=J/\F=K/\d.an=e.an/\d.wh=e.wh/\(Iv (ve y))))) (Iv (bx (y.1,I)/\True)/\aa ([63]:List Int) (aa [y.1] (aa [bP y.1] (aa [H,G,F,d.an,d.wh] (aj U (∃z:Unit,r (0=N/\1=M/\false=false/\q (m=f/\k=J/\l=K/\a.an=e.an/\a.wh=e.wh/\(Iv (ve y))))) (Iv (bx (y.1,n)/\True)/\aa ([123]:List Int) (aa [y.1] (aa [bP y.1] (aa [m,k,l,a.an,a.wh] (aj V (Iv (bx (y.1,n)/\F6 (y.1,n))/\aa [y.1] (aa [bP y.1] (aa [m,k,l,a.an,a.wh] (∃z:Unit,r (g.2.1=N/\g.2.2=M/\false=false/\q (((g.1.i:Nat):Int)=f/\((g.1.ak:Nat):Int)=J/\((g.1.ab:Nat):Int)=K/\g.1.an=e.an/\g.1.wh=e.wh/\(Iv (ve y)))))))) (s=O/\o (m=Q/\k=P/\l=R/\a.an=q1.an/\a.wh=q1.wh/\True))))))))))))))))))))))/\(∀x:Unit,(Iv (ve y))->aj (!(aB e.an 0)) ([]=O/\o (f=Q/\J=P/\K=R/\e.an=q1.an/\e.wh=q1.wh/\True)) (Iv (bx (y.1,w)/\True)/\aa ([63]:List Int) (aa [y.1] (aa [bP y.1] (aa [f,J,K,e.an,e.wh] (bJ (ag L) 72/\L=O/\o (((j.i:Nat):Int)=Q/\((j.ak:Nat):Int)=P/\((j.ab:Nat):Int)=R/\j.an=q1.an/\j.wh=q1.wh/\True)))))))))))
def Zv:∀y,Tx y=Qpo y:=λy=>by kernel_rfl
def Ty (y:(List (Int×Int))×b7):Prop:=let e:=(dR y).1;let q1:=(dR y).2;let s:=y.2.i.toNat;let n:=((e.i:Nat):Int);let o:=((e.ab:Nat):Int);let q:=((e.ak:Nat):Int);let k:=eh y.1 (nn y.2);let l:=sd y.1 (nn y.2);let d:=(y.1,y.2);let r:=(mX d).1;let f:=Ps.ax y.1 (nn y.2) s 4;let a:=(gt (0,0) y.1 s).1;let j:=λp:Prop=>aa [y.1] (aa [bP y.1] (aa [y.2.i,y.2.ak,y.2.ab,y.2.an,y.2.wh] p));let g:=λp:Prop=>aa [y.1] (aa [bP y.1] p);let h:Prop:=(g (ay .i64 y.2.i 1=n/\y.2.ak=q/\y.2.ab=o/\y.2.an=e.an/\y.2.wh=e.wh/\True));let m:Prop:=(g (((k.1.i:Nat):Int)=n/\((k.1.ak:Nat):Int)=q/\((k.1.ab:Nat):Int)=o/\k.1.an=e.an/\k.1.wh=e.wh/\True));let c:Prop:=(Iv True/\aa [a] (([Nd.mk 2 (ew a) 0 0 false 0 0]:List Nd)=q1/\h));let b:Prop:=(Iv (bx d/\0<=y.2.i/\y.2.i<(y.1.length:Int))/\aa ([y.2.i,4]:List Int) (aa [y.1] (aa [bP y.1] (aa [y.2.i,y.2.ak,y.2.ab,y.2.an,y.2.wh] ([]=q1/\g (((f.i:Nat):Int)=n/\((f.ak:Nat):Int)=q/\((f.ab:Nat):Int)=o/\f.an=e.an/\f.wh=e.wh/\True))))));Iv (bx d/\0<=y.2.i/\y.2.i<(y.1.length:Int))/\aa [y.2.i] (aa [y.1] (aa [bP y.1] (aa [y.2.i,y.2.ak,y.2.ab,y.2.an,y.2.wh] (aj (fi y.1 s) (b) (aG 0 y.2.i/\aw y.2.i (ag y.1)/\aj (aB a 40) (Iv ((bx d/\F6 d)/\lvl d<(lvl y+1))/\j ((mX d).2=q1/\g (((r.i:Nat):Int)=n/\((r.ak:Nat):Int)=q/\((r.ab:Nat):Int)=o/\r.an=e.an/\r.wh=e.wh/\True))) (aj (aB a 91) (Iv (bx d/\F6 d)/\j (l.2=q1/\g (((l.1.i:Nat):Int)=n/\((l.1.ak:Nat):Int)=q/\((l.1.ab:Nat):Int)=o/\l.1.an=e.an/\l.1.wh=e.wh/\True))) (aj (aB a 92) (aj (EE d) (Iv (bx d/\HN (d,true))/\j (([Nd.mk 2 [] 0 0 false 0 0]:List Nd)=q1/\m)) (Iv (bx d/\HN (d,false))/\j (([Nd.mk 2 k.2.1 0 0 false 0 0]:List Nd)=q1/\m))) (aj (aB a 46) (Iv True/\([Nd.mk 2 Yk 0 0 false 0 0]:List Nd)=q1/\h) (aj (aB a 94) (([Nd.mk 7 [] 0 0 false 0 0]:List Nd)=q1/\h) (aj (aB a 36) (([Nd.mk 8 [] 0 0 false 0 0]:List Nd)=q1/\h) (aj (aB a 42) (aj (aB a 42) (b) (c)) (aj (aB a 43) (aj (aB a 43) (b) (c)) (aj (aB a 63) (aj (aB a 63) (b) (c)) (aj (aB a 41) (aj (aB a 41) (b) (c)) (aj (aB a 93) (aj (aB a 93) (b) (c)) (aj (aB a 123) (aj (aB a 123) (b) (c)) (aj (aB a 125) (aj (aB a 125) (b) (c)) (aj (aB a 124) (b) (c)))))))))))))))))))
def Zw:∀y,Ty y=Qpp y:=λy=>by kernel_rfl
def Tz (y:(List (Int×Int))×b7):Prop:=let b:=(mX y).1;let q1:=(mX y).2;let V:=y.2.i.toNat;let A:=((b.ak:Nat):Int);let B:=((b.i:Nat):Int);let C:=((b.ab:Nat):Int);let q6:=ay .i64 y.2.i 1;let q7:=b7.mk q6 y.2.ak y.2.ab y.2.an y.2.wh;let j:=bp y.1 (nn q7) 63;let q9:=bb y.1 (nn q7) 63;let k:=((j.ab:Nat):Int);let l:=((j.ak:Nat):Int);let m:=((j.i:Nat):Int);let G:=ay .i64 k 1;let W:=ay .i64 l 1;let h:=b7.mk m l k j.an j.wh;let a:=bp y.1 (nn h) 58;let q17:=!(bb y.1 (nn h) 58);let o:=((a.ab:Nat):Int);let q:=((a.ak:Nat):Int);let r:=((a.i:Nat):Int);let s:=Ps.ax y.1 (nn h) V 10;let t:=Ps.ax y.1 (nn h) V 13;let X:=ay .i64 q 1;let D:=(y.1,b7.mk m W G j.an j.wh);let c:=(rk D).1;let H:=((c.i:Nat):Int);let I:=((c.ab:Nat):Int);let J:=cx .i64 ((c.ak:Nat):Int) 1;let E:=bM [Nd.mk 6 [] 0 0 false G 1] (rk D).2;let F:=b7.mk r q o a.an a.wh;let u:=(y.1,b7.mk r X o a.an a.wh);let v:=Ps.ax y.1 (nn F) V 4;let w:=Ps.ax y.1 (nn F) V 10;let d:=(rk u).1;let K:=((d.ab:Nat):Int);let L:=((d.i:Nat):Int);let M:=cx .i64 ((d.ak:Nat):Int) 1;let N:=b7.mk H J I c.an c.wh;let f:=bp y.1 (nn N) 41;let q40:=!(bb y.1 (nn N) 41);let O:=((f.ab:Nat):Int);let P:=((f.ak:Nat):Int);let Q:=((f.i:Nat):Int);let R:=b7.mk L M K d.an d.wh;let g:=bp y.1 (nn R) 41;let q46:=!(bb y.1 (nn R) 41);let S:=((g.i:Nat):Int);let T:=((g.ak:Nat):Int);let U:=((g.ab:Nat):Int);let Y:=b7.mk Q P O f.an f.wh;let x:=Ps.ax y.1 (nn Y) V 4;let Z:=b7.mk S T U g.an g.wh;let z:=Ps.ax y.1 (nn Z) V 4;let e:=λp:Prop=>aa [y.1] (aa [bP y.1] p);let n:Prop:=(0<=y.2.i/\(y.2.i<(y.1.length:Int)));Iv (bx (y.1,q7)/\True)/\aa ([63]:List Int) (aa [y.1] (aa [bP y.1] (aa [q6,y.2.ak,y.2.ab,y.2.an,y.2.wh] (aj q9 (Iv (bx (y.1,h)/\True)/\aa ([58]:List Int) (aa [y.1] (aa [bP y.1] (aa [m,l,k,j.an,j.wh] (aj q17 (Iv (bx (y.1,F)/\n)/\aa ([y.2.i,4]:List Int) (aa [y.1] (aa [bP y.1] (aa [r,q,o,a.an,a.wh] ([]=q1/\e (((v.i:Nat):Int)=B/\((v.ak:Nat):Int)=A/\((v.ab:Nat):Int)=C/\v.an=b.an/\v.wh=b.wh/\True)))))) (aj (aG 20 q) (Iv (bx (y.1,F)/\n)/\aa ([y.2.i,10]:List Int) (aa [y.1] (aa [bP y.1] (aa [r,q,o,a.an,a.wh] ([]=q1/\e (((w.i:Nat):Int)=B/\((w.ak:Nat):Int)=A/\((w.ab:Nat):Int)=C/\w.an=b.an/\w.wh=b.wh/\True)))))) (Iv ((bx u/\True)/\(lvl u+4)<(lvl y+0))/\aa [y.1] (aa [bP y.1] (aa [r,X,o,a.an,a.wh] (aj (aB d.an 0) (Iv (bx (y.1,R)/\True)/\aa ([41]:List Int) (aa [y.1] (aa [bP y.1] (aa [L,M,K,d.an,d.wh] (aj q46 (Iv (bx (y.1,Z)/\n)/\aa ([y.2.i,4]:List Int) (aa [y.1] (aa [bP y.1] (aa [S,T,U,g.an,g.wh] ([]=q1/\e (((z.i:Nat):Int)=B/\((z.ak:Nat):Int)=A/\((z.ab:Nat):Int)=C/\z.an=b.an/\z.wh=b.wh/\True)))))) ((rk u).2=q1/\e (S=B/\T=A/\U=C/\g.an=b.an/\g.wh=b.wh/\True))))))) ((rk u).2=q1/\e (L=B/\M=A/\K=C/\d.an=b.an/\d.wh=b.wh/\True)))))))))))) (aj (aG 20 l) (Iv (bx (y.1,h)/\n)/\aa ([y.2.i,10]:List Int) (aa [y.1] (aa [bP y.1] (aa [m,l,k,j.an,j.wh] ([]=q1/\e (((s.i:Nat):Int)=B/\((s.ak:Nat):Int)=A/\((s.ab:Nat):Int)=C/\s.an=b.an/\s.wh=b.wh/\True)))))) (aj (aG 4 k) (Iv (bx (y.1,h)/\n)/\aa ([y.2.i,13]:List Int) (aa [y.1] (aa [bP y.1] (aa [m,l,k,j.an,j.wh] ([]=q1/\e (((t.i:Nat):Int)=B/\((t.ak:Nat):Int)=A/\((t.ab:Nat):Int)=C/\t.an=b.an/\t.wh=b.wh/\True)))))) (Iv ((bx D/\True)/\(lvl D+4)<(lvl y+0))/\aa [y.1] (aa [bP y.1] (aa [m,W,G,j.an,j.wh] (aj (aB c.an 0) (Iv (bx (y.1,N)/\True)/\aa ([41]:List Int) (aa [y.1] (aa [bP y.1] (aa [H,J,I,c.an,c.wh] (aj q40 (Iv (bx (y.1,Y)/\n)/\aa ([y.2.i,4]:List Int) (aa [y.1] (aa [bP y.1] (aa [Q,P,O,f.an,f.wh] ([]=q1/\e (((x.i:Nat):Int)=B/\((x.ak:Nat):Int)=A/\((x.ab:Nat):Int)=C/\x.an=b.an/\x.wh=b.wh/\True)))))) (bJ (ag E) 72/\E=q1/\e (Q=B/\P=A/\O=C/\f.an=b.an/\f.wh=b.wh/\True))))))) (bJ (ag E) 72/\E=q1/\e (H=B/\J=A/\I=C/\c.an=b.an/\c.wh=b.wh/\True))))))))))))
def Zx:∀y,Tz y=Qpq y:=λy=>by kernel_rfl
theorem TB {s:b7} (h:(nn s).ak=(nn y.2).ak):ic (y.1,s)=ic y:=by grind [ic]
theorem TC {s:b7} (h:(nn s).ak=(nn y.2).ak):lvl (y.1,s)=lvl y:=by grind [lvl]
def ym (y:PS):mF y.1 (ic y):=vW _
structure PsF (G:List Gt) (s:b7):Prop where
 ok:bx (G,s)
 a:gi G (nn s) (nn s)
 zi:((nn s).i:Int)=s.i
 zo:((nn s).ak:Int)=s.ak
 zg:((nn s).ab:Int)=s.ab
 len:G.length<=4096
 il:(nn s).i<=G.length
 ol:(nn s).ak<=20
 gl:(nn s).ab<=4
variable {G:List Gt} {Z:Nat} {s:Ps} {Y:b7} {y:PS} {A:Ps->Ps×List Nd} {l:List (List Nd)}
def bx.f {s:b7} (h:bx (G,s)):PsF G s:=by
 obtain⟨b1,a,b,c,_⟩:G.length<=4096/\(0<=s.i/\s.i<=G.length)/\(0<=s.ak/\s.ak<=20)/\(0<=s.ab/\s.ab<=4)/\_:=id h;exact⟨h,h.adv,Zby a.1,Zby b.1,Zby c.1,b1,by show s.i.toNat<=_;omega,by show s.ak.toNat<=_;omega,by show s.ab.toNat<=_;omega⟩
theorem Ia (h:s.an≠0\/bb G s 124=false):gx G A Z s l=(s,l):=by
 cases Z with
 | zero=>rfl
 | succ Z=>
  grind [gx]
def Zy (h:bx y):rk y=Ed y.1 (ic y) (nn y.2):=by
 have:=(bx.f (G:=y.1) (s:=y.2) h).ol;unfold rk ic;rw[show 21-(nn y.2).ak=(20-(nn y.2).ak)+1 by omega];rfl
theorem Qps (y:PS) (C:H_.pre y):Tv y:=by
 obtain⟨h0,_⟩:bx y/\True:=C;have f:=bx.f (G:=y.1) (s:=y.2) h0;have⟨c1,c2⟩:=mG (ym y) f.il f.gl;have u:=Zy h0;have q:rk y=((gx y.1 (ic y) (y.1.length+2-(mW y).1.i) (mW y).1 [(mW y).2]).1,bW 4 (gx y.1 (ic y) (y.1.length+2-(mW y).1.i) (mW y).1 [(mW y).2]).2):=u;unfold Tv;simp only[bC,ez,au,aT,br,oo,oq];refine⟨⟨h0,by grind⟩,⟨(zz (mW y).1,[(mW y).2]),rfl,rfl,rfl,rfl,rfl,rfl,h0.of c1,c1.op,c1.le,by simp,?_,_,λ_=>?_,rfl⟩,λx B=>?_⟩
 ·show total [(mW y).2]+2*1<=_
  have e:total [(mW y).2]=(mW y).2.length:=by simp[total]
  have c3:(mW y).2.length<=3*((mW y).1.i-(nn y.2).i)+1:=c2;show _<=3*((mW y).1.i-(nn y.2).i)+3
  omega
 ·have:(mW y).1.i<=y.1.length:=c1.len;show _<=_+(mW y).1.i
  omega
 ·have⟨s,b⟩:=x;have⟨p,c,D,H,I,n,z,r⟩:=B;simp only at*
  have g:=p.f;rw[<-r] at q;have A:b.length<=10000/\total b<=20000:=by have:=g.il;have:=g.len;omega
  have cs:s.an≠0\/bb y.1 (nn s) 124=false->rk y=(nn s,bW 4 b):=λh=>by rw[q,Ia h]
  refine⟨λl=>⟨p,λj=>?_,λj=>?_⟩,λl=>?_⟩
  ·have o:=da j;have a3:=g.a.next o;have hs:bp y.1 (nn s) 124=(nn s).next:=Zac j;have t:bx (y.1,⟨(nn s).next.i,(nn s).next.ak,(nn s).next.ab,(nn s).next.an,(nn s).next.wh⟩):=p.of a3;have d:(nn s).next.ak=(nn y.2).ak:=c;have v:=TB (y:=y) (s:=⟨(nn s).next.i,(nn s).next.ak,(nn s).next.ab,(nn s).next.an,(nn s).next.wh⟩) d;have w:=TC (y:=y) (s:=⟨(nn s).next.i,(nn s).next.ak,(nn s).next.ab,(nn s).next.an,(nn s).next.wh⟩) d;have⟨k,E⟩:=mG (ym y) (s:=(nn s).next) a3.len a3.gm;rw[hs,v,w];have F:(nn s).next.i<=(mD y.1 (ic y) (nn s).next).1.i:=k.le;have J:(nn s).next.i=(nn s).i+1:=rfl;refine⟨⟨t,ω⟩,?_,(zz (mD y.1 (ic y) (nn s).next).1,b++[(mD y.1 (ic y) (nn s).next).2]),rfl,rfl,rfl,rfl,rfl,rfl,⟨t.of k,k.op.trans c,?_,by simp,?_,?_⟩,?_⟩
   ·grind
   ·show _<=(mD y.1 (ic y) (nn s).next).1.i;omega
   ·show total (b++[_])+2*(b++[_]).length<=3*((mD y.1 (ic y) (nn s).next).1.i-_)+3
    grind [gy]
   ·obtain⟨m,rfl⟩:∃m,n=m+1:=⟨n-1,ω⟩;refine⟨m,λ_=>by show _<=m+(mD y.1 (ic y) (nn s).next).1.i;omega,?_⟩;rw[<-r]
    conv=>rhs;unfold gx
    rw[Zac ⟨l,j⟩];rfl
   ·show 2*(y.1.length-(mD y.1 (ic y) (nn s).next).1.i)+(if (mD y.1 (ic y) (nn s).next).1.an=0 then 1 else 0)<2*(y.1.length-(nn s).i)+(if s.an=0 then 1 else 0)
    grind
  ·grind [bp]
  ·rw[cs (.inl l)];exact⟨⟨ω,ω⟩,rfl,g.zi.symm,g.zo.symm,g.zg.symm,rfl,rfl⟩
theorem rp {r:Int} (h:bb G s r):bp G s r=s.next:=Zac h
theorem rq {r:Int} (h:bb G s r=false):bp G s r=s:=Zaa (by grind)
theorem Ib (h:¬(s.an=0/\s.i<G.length/\bb G s 124=false/\¬(bb G s 41/\0<s.ak))):eI G A Z s l=(s,l):=by
 cases Z with
 | zero=>rfl
 | succ Z=>unfold eI;rw[Zaa h]
theorem Qpt (y:PS) (A:NN.pre y):Tw y:=by
 obtain⟨h0,_⟩:bx y/\True:=A;unfold Tw;simp only[bL,bC,ez,au,aT,br,Zan,Zao];refine⟨⟨(y.2,[]),rfl,rfl,rfl,rfl,rfl,rfl,h0,rfl,Zah _,by simp[total],by simp,_,λ_=>?_,rfl⟩,λx w=>?_⟩
 ·grind
 ·have⟨s,a⟩:=x;have⟨e,b,B,H,I,n,u,o⟩:=w;simp only at*
  have g:=e.f;have F:=g.il;have G:=g.len;have zi:=g.zi;have zo:=g.zo;have v:a.length<=10000/\total a<=20000:=by grind
  rw[pni,<-o];have E:=TB (y:=y) (s:=s) b;have q:=TC (y:=y) (s:=s) b;have r:zF (y.1,s)=fv y.1 (ic y) (nn s):=by grind [zF]
  rw[r,q];have stop:¬((nn s).an=0/\(nn s).i<y.1.length/\bb y.1 (nn s) 124=false/\¬(bb y.1 (nn s) 41/\0<(nn s).ak))->(total a<=100000/\a.length<=100000)/\bW 3 a=bW 3 (eI y.1 (ic y) n (nn s) a).2/\s.i=((eI y.1 (ic y) n (nn s) a).1.i:Int)/\s.ak=((eI y.1 (ic y) n (nn s) a).1.ak:Int)/\s.ab=((eI y.1 (ic y) n (nn s) a).1.ab:Int)/\s.an=(eI y.1 (ic y) n (nn s) a).1.an/\s.wh=(eI y.1 (ic y) n (nn s) a).1.wh:=λh=>by
   rw[Ib h];exact⟨⟨ω,ω⟩,rfl,zi.symm,zo.symm,g.zg.symm,rfl,rfl⟩
  have go:s.an=0->s.i<y.1.length->bb y.1 (nn s) 124=false->¬(bb y.1 (nn s) 41/\0<s.ak)->((bx (y.1,s)/\F6 (y.1,s))/\lvl y+2<lvl y+3)/\((a++[(fv y.1 (ic y) (nn s)).2]).length:Int)*(24:Nat)<=140737488355328/\∃z:b7×List (List Nd),a++[(fv y.1 (ic y) (nn s)).2]=z.2/\((fv y.1 (ic y) (nn s)).1.i:Int)=z.1.i/\((fv y.1 (ic y) (nn s)).1.ak:Int)=z.1.ak/\((fv y.1 (ic y) (nn s)).1.ab:Int)=z.1.ab/\(fv y.1 (ic y) (nn s)).1.an=z.1.an/\(fv y.1 (ic y) (nn s)).1.wh=z.1.wh/\Tu y z/\EF y z<EF y (s,a):=λh1 c d j=>by
   have hl:(nn s).i<y.1.length:=ω;have⟨l,p,C⟩:=xz (ym y) hl g.gl;have D:(nn s).i<=(fv y.1 (ic y) (nn s)).1.i:=l.le;refine⟨⟨⟨e,c⟩,ω⟩,?_,(zz (fv y.1 (ic y) (nn s)).1,a++[(fv y.1 (ic y) (nn s)).2]),rfl,rfl,rfl,rfl,rfl,rfl,⟨e.of l,l.op.trans b,?_,?_,?_,?_⟩,?_⟩
   ·grind
   ·show _<=(fv y.1 (ic y) (nn s)).1.i;omega
   ·show total (a++[_])<=3*((fv y.1 (ic y) (nn s)).1.i-_)
    rw[gy];omega
   ·show(a++[_]).length<=(fv y.1 (ic y) (nn s)).1.i-_+(if (fv y.1 (ic y) (nn s)).1.an=0 then 0 else 1)
    grind
   ·obtain⟨m,rfl⟩:∃m,n=m+1:=⟨n-1,ω⟩;refine⟨m,λh=>by have:=p h;show _<=m+(fv y.1 (ic y) (nn s)).1.i;omega,?_⟩;rw[<-o]
    conv=>rhs;unfold eI
    rw[Zac ⟨h1,hl,d,λh=>j ⟨h.1,ω⟩⟩];rfl
   ·show 2*(y.1.length-(fv y.1 (ic y) (nn s)).1.i)+(if (fv y.1 (ic y) (nn s)).1.an=0 then 1 else 0)<2*(y.1.length-(nn s).i)+(if s.an=0 then 1 else 0)
    grind
  refine⟨λh1=>⟨λc=>⟨e,λd=>⟨e,λj=>⟨λt=>go h1 c d ω,λt=>stop λk=>k.2.2.2 ⟨j,ω⟩⟩,λj=>go h1 c d λk=>?_⟩,λd=>stop λk=>?_⟩,λc=>stop λk=>?_⟩,λh1=>stop λk=>h1 k.1⟩
  ·grind
  ·grind
  ·omega
def ez2 (a b c:Nat) (e w:Int):nn ⟨a,b,c,e,w⟩=⟨a,b,c,e,w⟩:=rfl
theorem QeX {y:PS} (h:ve y):zF y=nL y.1 (py y).1 (py y).2.1 (py y).2.2 (dR y).2:=by
 have⟨h1,a⟩:=h;show fv y.1 (ic y) (nn y.2)=_
 unfold fv py;grind [dR]
theorem QeY {y:PS} (h1:(dR y).1.an=0) (a:bb y.1 (dR y).1 42=false) (b:bb y.1 (dR y).1 43=false) (c:bb y.1 (dR y).1 63=false) (d:bb y.1 (dR y).1 123=false):zF y=dR y:=by
 show fv y.1 (ic y) (nn y.2)=_
 grind [fv,dR]
theorem Zz {y:PS} (h1:(dR y).1.an≠0):zF y=((dR y).1,[]):=by
 show fv y.1 (ic y) (nn y.2)=_
 grind [fv,dR]
theorem Qpu (y:PS) (e:NO.pre y):Tx y:=by
 obtain⟨h0,hi⟩:bx y/\y.2.i<y.1.length:=e;have f:=bx.f (G:=y.1) (s:=y.2) h0;have zi:=f.zi;obtain⟨a,a2,a3⟩:gi y.1 (nn y.2) (dR y).1/\((dR y).1.an=0->(nn y.2).i<(dR y).1.i)/\(dR y).2.length<=3*((dR y).1.i-(nn y.2).i):=AG (ym y) ω f.gl;have o:=h0.of a;have a4:=a.len;have len:=f.len;have j:ve y->bx (y.1,⟨(py y).1.i,(py y).1.ak,(py y).1.ab,(py y).1.an,(py y).1.wh⟩):=λ⟨_,h⟩=>h0.of (by
  unfold py;split
  ·exact a.next (da ‹_›)
  ·split
   ·exact a.next (da ‹_›)
   ·split
    ·exact a.next (da ‹_›)
    ·refine(xy a ?_).1;rcases h with h | h | h | h<;>exact da h)
 have i2:∀r,bb y.1 (dR y).1 r->(dR y).1.i<y.1.length:=λr h=>da h
 have L:lvl y+1<lvl y+2:=ω;unfold Tx;simp only[bC,ez,au,aT,br,oo,oq,ZaZ,ZaY,Zan,Zao];have m:=@QeY y;have n:=@Zz y;have g:=@QeX y;refine⟨⟨⟨h0,hi⟩,L⟩,λb=>?_,λb=>⟨?_,λc=>?_⟩⟩
 ·grind
 ·have p:bb y.1 (dR y).1 42->ve y:=λh=>⟨b,.inl h⟩
  have q:bb y.1 (dR y).1 43->ve y:=λh=>⟨b,.inr (.inl h)⟩
  have t:bb y.1 (dR y).1 63->ve y:=λh=>⟨b,.inr (.inr (.inl h))⟩
  have u:bb y.1 (dR y).1 123->ve y:=λh=>⟨b,.inr (.inr (.inr h))⟩
  have l:py y=if bb y.1 (dR y).1 42 then((dR y).1.next,0,-1) else if bb y.1 (dR y).1 43 then((dR y).1.next,1,-1) else if bb y.1 (dR y).1 63 then((dR y).1.next,0,1) else gv y.1 (dR y).1:=rfl
  grind [F6,rp,rq]
 ·rw[g c];have d:=j c;unfold nL;refine⟨λk=>by grind,λk=>?_⟩;rw[Zaa ω];exact⟨d,by grind,rfl,rfl,rfl,rfl,rfl,rfl⟩
theorem Qpv (y:PS) (j:Tr.pre y):Ty y:=by
 obtain⟨h0,hi⟩:bx y/\y.2.i<y.1.length:=j;have⟨d,m,hl,k,o⟩:=h0.Zq hi;have f:=bx.f (G:=y.1) (s:=y.2) h0;have i0:0<=y.2.i:=h0.2.1.1;have zi:=f.zi;have b:y.2.i+1=((nn y.2).next.i:Int):=by simp_all
 have zo:=f.zo;have zg:=f.zg;have a:dR y=jb y.1 (ic y) (nn y.2):=rfl;unfold jb at a;have g:(y.1.getD (nn y.2).i (0,0)).1=aK y.1 (nn y.2).i:=rfl;have l:ig y.1 (ic y) (nn y.2)=mX y:=rfl;have c:EE y=decide ((eh y.1 (nn y.2)).2.1=[]):=rfl;unfold Ty;simp only[bL,bC,ez,au,d,pni,dq,F6];rw[g];generalize aK y.1 (nn y.2).i=r at*
 generalize dR y=at_ at*
 cases e:fi y.1 (nn y.2).i with
 | true=>
  grind []
 | false=>
  simp only[e,ZaE,Za0] at a;simp only[reduceCtorEq,ZbV,ZaX,Zal];refine⟨⟨h0,i0,hi⟩,i0,hi,λk1=>?_,λk1=>⟨λk2=>?_,λk2=>⟨λk3=>?_,λk3=>⟨λk4=>?_,λk4=>⟨λk5=>?_,λk5=>⟨λk6=>?_,λk6=>?_⟩⟩⟩⟩⟩⟩
  ·grind
  ·grind
  ·simp only[k1,k2,k3,Zbv,Za0] at a;subst a;refine⟨λh=>⟨⟨h0,hi,h.symm⟩,?_,rfl,rfl,rfl,rfl,rfl⟩,λh=>⟨⟨h0,hi,h.symm⟩,rfl,rfl,rfl,rfl,rfl,rfl⟩⟩;rw[h] at c;have:=ZaH c.symm;simp only[this];rfl
  ·simp only[k1,k2,k3,k4,Zbv,Za0] at a;subst a;exact⟨rfl,b,zo.symm,zg.symm,rfl,rfl⟩
  ·simp only[k1,k2,k3,k4,k5,Zbv,Za0] at a;subst a;exact⟨rfl,b,zo.symm,zg.symm,rfl,rfl⟩
  ·simp only[k1,k2,k3,k4,k5,k6,Zbv,Za0] at a;subst a;exact⟨rfl,b,zo.symm,zg.symm,rfl,rfl⟩
  ·have w:(r=42\/r=43\/r=63\/r=41\/r=93\/r=123\/r=125\/r=124)->at_=((nn y.2).ax y.1 (nn y.2).i 4,[]):=λh=>by grind
   have n:¬(r=42\/r=43\/r=63\/r=41\/r=93\/r=123\/r=125\/r=124)->at_=((nn y.2).next,[xu (ew r)]):=λh=>by grind
   with_reducible repeat' first | apply And.intro | intro _
   all_goals first
    | assumption
    | (exfalso;omega)
    | (rw[w ω];done)
    | (rw[n ω];done)
    | (rw[n ω];first | rfl | exact b | exact zo.symm | exact zg.symm)
theorem K9 {s:b7} (h:(nn s).ak=(nn y.2).ak+1):rk (y.1,s)=ic y (nn s):=by
 unfold rk ic;grind
theorem TD (h:(nn Y).ak=(nn y.2).ak+1) (a:(nn y.2).ak<20):lvl (y.1,Y)+4<lvl y:=by
 grind [lvl]
theorem K_ {n:Nat} (h:n<=1000000):ay .i64 (n:Int) 1=((n+1:Nat):Int):=by grind
theorem A0 (h:1<=Z) (a:Z<=1000000):cx .i64 (Z:Int) 1=((Z-1:Nat):Int):=by grind
structure Grp (y:PS) (s:Ps):Prop where
 a:gi y.1 (nn y.2) s
 o:s.ak<20
theorem Grp.Qi0 {y:PS} {s:Ps} {g:Nat} (h0:bx y) (h:Grp y s) (f:g=s.ab\/g=s.ab+1/\s.ab<4):bx (y.1,⟨s.i,((s.ak+1:Nat):Int),(g:Int),s.an,s.wh⟩):=by
 obtain⟨b1,c,d,e,b⟩:y.1.length<=4096/\(0<=y.2.i/\y.2.i<=y.1.length)/\(0<=y.2.ak/\y.2.ak<=20)/\(0<=y.2.ab/\y.2.ab<=4)/\Fx y.1:=h0;have:=h.a.len;have:=h.a.gm;have:=h.o;exact⟨b1,⟨ZaF _,by grind⟩,⟨ZaF _,by grind⟩,⟨ZaF _,by grind⟩,b⟩
theorem Grp.out {y:PS} {s:Ps} {g:Nat} (h0:bx y) (h:Grp y s) (j:g=s.ab\/g=s.ab+1/\s.ab<4):∀a,a=ic y ⟨s.i,s.ak+1,g,s.an,s.wh⟩->a.1.ak=s.ak+1/\gi y.1 (nn y.2) { a.1 with ak:=a.1.ak-1 }/\a.2.length<=20000:=λa b=>by
 have h1:=h.a.len;have c:=h.a.gm;have⟨c1,c2⟩:=ym y ⟨s.i,s.ak+1,g,s.an,s.wh⟩ h1 (by grind);rw[<-b] at c1 c2;have c3:a.1.ak=s.ak+1:=c1.op;have c5:=c1.len;have c6:s.i<=a.1.i:=c1.le;have c7:g<=a.1.ab:=c1.gr;have c8:y.1.length<=4096:=h0.1;have d:=h.a.le;have e:=h.a.op;have f:=h.a.gr;exact⟨c3,⟨by grind,c5,by grind,by grind,c1.gm⟩,ω⟩
def A1 (G:List Gt) (c:Nat) (a:Ps×List Nd) (l:List Nd):Ps×List Nd:=
 let b:Ps:={ a.1 with ak:=a.1.ak-1 }
 if b.an=0/\bb G b 41=false then(b.ax G c 4,[]) else(if b.an=0 then b.next else b,l)
theorem Qpw (y:PS) (Q:Ts.pre y):Tz y:=by
  obtain⟨h0,hi⟩:bx y/\y.2.i<y.1.length:=Q;have⟨M,P,hl,w,R⟩:=h0.Zq hi;have i0:0<=y.2.i:=h0.2.1.1;have H:∀free,bb y.1 (nn y.2).next 63=free->mX y=
      (let A:=if free then(nn y.2).next.next else(nn y.2).next
       if free/\bb y.1 A 58=false then(A.ax y.1 (nn y.2).i 4,[])
       else
        let s3:=if free then A.next else A
        if 20<=s3.ak then(s3.ax y.1 (nn y.2).i 10,[])
        else if free=false/\4<=s3.ab then(s3.ax y.1 (nn y.2).i 13,[])
        else
          let g:=if free then s3.ab else s3.ab+1
          let a:=ic y ⟨s3.i,s3.ak+1,g,s3.an,s3.wh⟩
          A1 y.1 (nn y.2).i a (if free then a.2 else { nd 6 with cap:=g,ae:=1 }::a.2)):=λfree h=>by
    show ig y.1 (ic y) (nn y.2)=_
    grind [ig,A1]
  have v:∀(a:Ps) (b:Ps×List Nd),b.1=a->(a.i:Int)=b.1.i/\(a.ak:Int)=b.1.ak/\(a.ab:Int)=b.1.ab/\a.an=b.1.an/\a.wh=b.1.wh:=λa b h=>by grind
  
  have L:∀(s:Ps) (g:Nat) (a:Ps×List Nd) (r l:List Nd),Grp y s->(g=s.ab\/g=s.ab+1/\s.ab<4)->a=ic y ⟨s.i,s.ak+1,g,s.an,s.wh⟩->mX y=A1 y.1 (nn y.2).i a l->r=l->
      cx .i64 (a.1.ak:Int) 1=((a.1.ak-1:Nat):Int)/\((r.length:Int)*(72:Nat)<=140737488355328\/a.2.length+1<r.length)/\
      (a.1.an=0->bx (y.1,⟨a.1.i,((a.1.ak-1:Nat):Int),a.1.ab,a.1.an,a.1.wh⟩)/\
        (bb y.1 { a.1 with ak:=a.1.ak-1 } 41=false->[]=(mX y).2/\(mX y).1=Ps.ax y.1 { a.1 with ak:=a.1.ak-1 } (nn y.2).i 4)/\
        (bb y.1 { a.1 with ak:=a.1.ak-1 } 41->r=(mX y).2/\(mX y).1=Ps.next { a.1 with ak:=a.1.ak-1 }))/\
      (a.1.an≠0->r=(mX y).2/\(mX y).1={ a.1 with ak:=a.1.ak-1 }):=λs g a r l I z p O U=>by
    have⟨c1,c2,c3⟩:=I.out h0 z a p;have c4:=I.o;unfold A1 at O;refine⟨A0 ω ω,ω,λk=>⟨h0.of c2,λk2=>?_,λk2=>?_⟩,λk=>?_⟩
    all_goals grind
  unfold Tz;simp only[bL,bC,M,P,ez,pni,au,aT,br,Zan,Zao,Zbn];generalize (nn y.2).next=c at*
  refine⟨R,λu=>?_,λu=>?_⟩
  · have e:=H true u;have a2:=w.next (da u);have J:=h0.of a2;rw[rp u];refine⟨J,λt=>?_,λt=>?_⟩
    · rw[rq t];rw[show mX y=(c.next.ax y.1 (nn y.2).i 4,[]) by rw[e];exact Zac ⟨rfl,t⟩];exact⟨⟨J,i0,hi⟩,rfl,rfl,rfl,rfl,rfl,rfl⟩
    · have a3:=a2.next (da t);have S:=h0.of a3;have e:=e.trans (Zaa (λq=>by rw[Zac rfl,t] at q;cases q.2));rw[rp t];refine⟨λm=>?_,λm=>?_⟩
      · rw[show mX y=(c.next.next.ax y.1 (nn y.2).i 10,[]) from e.trans (Zac (show 20<=c.next.next.ak by omega))];exact⟨⟨S,i0,hi⟩,rfl,rfl,rfl,rfl,rfl,rfl⟩
      · have G:Grp y c.next.next:=⟨a3,ω⟩;have e:=(e.trans (Zaa (show ¬20<=c.next.next.ak by omega))).trans (Zaa (λq=>by cases q.1));have op:c.next.next.ak+1=(nn y.2).ak+1:=by rw[a3.op]
        rw[K_ ω,K9 (y:=y) (s:=⟨(c.next.next.i:Nat),((c.next.next.ak+1:Nat):Int),(c.next.next.ab:Nat),c.next.next.an,c.next.next.wh⟩) op,ez2];generalize p:ic y ⟨c.next.next.i,c.next.next.ak+1,c.next.next.ab,c.next.next.an,c.next.next.wh⟩=a;have e:mX y=A1 y.1 (nn y.2).i a a.2:=by rw[e,<-p];rfl
        have⟨B,_,C,D⟩:=L _ _ a a.2 a.2 G (.inl rfl) p.symm e rfl;rw[B,ez2];refine⟨⟨G.Qi0 h0 (.inl rfl),TD op ω⟩,λk=>?_,λk=>?_⟩
        · have⟨x,E,F⟩:=C k;refine⟨x,λj=>?_,λj=>?_⟩
          · rw[rq j];have⟨d,f⟩:=E j;exact⟨⟨x,i0,hi⟩,d,v _ _ f⟩
          · rw[rp j];have⟨d,f⟩:=F j;exact⟨d,v _ _ f⟩
        · have⟨d,f⟩:=D k;exact⟨d,v _ _ f⟩
  · have e:=H false u;rw[rq u];refine⟨λm=>?_,λm=>⟨λN=>?_,λN=>?_⟩⟩
    · rw[show mX y=(c.ax y.1 (nn y.2).i 10,[]) from e.trans (Zac (show 20<=c.ak by omega))];exact⟨⟨h0.of w,i0,hi⟩,rfl,rfl,rfl,rfl,rfl,rfl⟩
    · rw[show mX y=(c.ax y.1 (nn y.2).i 13,[]) from(e.trans (Zaa (show ¬20<=c.ak by omega))).trans (Zac ⟨rfl,show 4<=c.ab by omega⟩)];exact⟨⟨h0.of w,i0,hi⟩,rfl,rfl,rfl,rfl,rfl,rfl⟩
    · have G:Grp y c:=⟨w,ω⟩;have e:=(e.trans (Zaa (show ¬20<=c.ak by omega))).trans (Zaa (λq=>by have:4<=c.ab:=q.2;omega));have op:c.ak+1=(nn y.2).ak+1:=by rw[w.op]
      have z:c.ab+1=c.ab\/c.ab+1=c.ab+1/\c.ab<4:=.inr ⟨rfl,ω⟩;rw[K_ (n:=c.ak) ω,K_ (n:=c.ab) ω,K9 (y:=y) (s:=⟨(c.i:Nat),((c.ak+1:Nat):Int),((c.ab+1:Nat):Int),c.an,c.wh⟩) op,ez2];generalize p:ic y ⟨c.i,c.ak+1,c.ab+1,c.an,c.wh⟩=a;have e:mX y=A1 y.1 (nn y.2).i a ({ nd 6 with cap:=((c.ab+1:Nat):Int),ae:=1 }::a.2):=by rw[e,<-p];rfl
      have⟨B,T,C,D⟩:=L _ _ a ([Nd.mk 6 [] 0 0 false ((c.ab+1:Nat):Int) 1]++a.2) _ G z p.symm e rfl;have K:((([Nd.mk 6 [] 0 0 false ((c.ab+1:Nat):Int) 1]++a.2).length:Nat):Int)*(72:Nat)<=140737488355328:=by
        rcases T with h | h
        · exact h
        · rw[Zab,ZbA] at h;omega
      rw[B,ez2];refine⟨⟨G.Qi0 h0 z,TD op ω⟩,λk=>?_,λk=>?_⟩
      · have⟨x,E,F⟩:=C k;refine⟨x,λj=>?_,λj=>?_⟩
        · rw[rq j];have⟨d,f⟩:=E j;exact⟨⟨x,i0,hi⟩,d,v _ _ f⟩
        · rw[rp j];have⟨d,f⟩:=F j;exact⟨K,d,v _ _ f⟩
      · have⟨d,f⟩:=D k;exact⟨K,d,v _ _ f⟩
inductive Fm where
 | aH | cat | rep | zG | vg
variable {G:List Gt}
def fmC:Fm->bh D
 | .aH=>H_ | .cat=>NN | .rep=>NO | .zG=>Tr | .vg=>Ts
def Qpx:∀i,(fmC i).Y->Nat
 | .aH=>λy=>lvl y+4 | .cat=>λy=>lvl y+3 | .rep=>λy=>lvl y+2 | .zG=>λy=>lvl y+1 | .vg=>λy=>lvl y
def fmF:Fm->Func
 | .aH=>f114 | .cat=>f173 | .rep=>f213 | .zG=>f245 | .vg=>f264
def Qi1:Fm->s7
 | .aH=>[tH,zD] | .cat=>[XI,zD] | .rep=>[tH,XI,HY] | .zG=>[zC,qD,HW,zE,S4,ED] | .vg=>[tH,qD]
def fmO:∀i,(fmC i).Y->cH D
 | .aH=>QiW | .cat=>QiX | .rep=>QiY | .zG=>λ_=>dY () | .vg=>λ_=>dY ()
def fmL:List Fm:=[.aH,.cat,.rep,.zG,.vg]
set_option maxRecDepth 100000 in
theorem Qpy (b:Ok dB) (c:Ok yk):∀i,Ok (fmC i):=
 xH fmL fmC Qpx (fn:=fmF) (tab:=Qi1) (fI:=fmO)
  (λi=>match i with
   | .aH=>⟨AY,Qcf⟩ | .cat=>⟨isOk,Qcf⟩ | .rep=>⟨AY,isOk,QiT c⟩ | .zG=>⟨Tc,uK,QiU b,Qch b,okZ [Hs] f267 (λ_=>dY ()) (Qb8 b) Qo0,Qce b⟩ | .vg=>⟨AY,uK⟩)
  (λi=>match i with
   | .aH=>by kernel_rfl | .cat=>by kernel_rfl | .rep=>by kernel_rfl | .zG=>by kernel_rfl | .vg=>by kernel_rfl)
  (λi=>match i with
   | .aH=>by kernel_rfl | .cat=>by kernel_rfl | .rep=>by kernel_rfl | .zG=>by kernel_rfl | .vg=>by kernel_rfl)
  λi=>match i with
   | .aH=>λy a=>Eq.mp (Zt y) (Qps y a) | .cat=>λy a=>Eq.mp (Zu y) (Qpt y a) | .rep=>λy a=>Eq.mp (Zv y) (Qpu y a) | .zG=>λy a=>Eq.mp (Zw y) (Qpv y a) | .vg=>λy a=>Eq.mp (Zx y) (Qpw y a)
def cm (y:By):List Nd×Int×Int:=if 120<y.length then([],2,0) else xw (bg y)
def zH:bh D:=bO 75 By (λa _=>Y5 a) (λ_=>True) (λy=>[.str y]) λy=>.tuple [.list 7 (cm y).1,Qvo (cm y).2.1,Qvo (cm y).2.2]
def ZA (y:By) (x:Nat):Prop:=x<=(bg y).length
def Qpz (y:zH.Y):cH D:=⟨[],[],[(250,⟨Nat,[21,22],λx=>[(5,.ptr 0 0),(6,Qvo (aI (bg y) x)),(23,Qvo x)],[],λx=>[(0,.cells [.list 13 (bg y),.grow 5 ((bP (bg y)).take x) 1,Qvo 0,Qvo 0,Qvo 0,Qvo 0,Qvo 0] 190 false),(1,.tok 5 3)],2,ZA y,λx=>(bg y).length-x⟩)],[],1,[]⟩
def TE (y:List UInt8):Prop:=let a:=bg y;let q1:=bP a;let m:=a.length;let n:=ag a;let o:=(cm y).2.1;let q:=(cm y).2.2;let r:=eI a (qZ a 20) ((m+2) -0) (nn (b7.mk 0 0 0 0 0)) [];let b:=gx a (qZ a 20) ((m+2) -r.1.i) r.1 [bW 3 r.2];let d:=((b.1.i:Nat):Int);let s:=((b.1.ak:Nat):Int);let f:=((b.1.ab:Nat):Int);let g:=aB b.1.an 0;let h:=b7.mk d s f b.1.an b.1.wh;let c:=Ps.ax a (nn h) d.toNat 4;let e:=λp:Prop=>aa ([0,0,0,0,0]:List Int) p;let j:Prop:=(bW 4 b.2=(cm y).1/\0=o/\0=q/\True);let k:Prop:=(aj (!g) (RAH b.1.an b.1.wh ([]=(cm y).1/\b.1.an=o/\b.1.wh=q/\True)) (j));aj (aw 120 (dD y)) ([]=(cm y).1/\2=o/\0=q/\True) (Iv (y.length<=1000000)/\RAG y ((∃z:Nat,aa [a] (aa [n] (0=aI a z/\0=(z:Int)/\aa [a] ([]=List.take z q1/\e ((Iv (ZA y z)))))))/\(∀x:Nat,let l:=bM (List.take x q1) [aI a x];(Iv (ZA y x))->aj (aw (x:Int) n) (aG 0 (x:Int)/\aw (x:Int) n/\bJ (ag l) 8/\∃z:Nat,aa [a] (aa [n] (ay .i64 (aI a x) (gt (0,0) a (x:Int).toNat).2=aI a z/\ay .i64 (x:Int) 1=(z:Int)/\aa [a] (l=List.take z q1/\e ((Iv (ZA y z/\(m-z)<(m-x)))))))) (Iv (bx (a,b7.mk 0 0 0 0 0)/\True)/\aa [a] (List.take x q1=q1/\e (aj g (aa [b.1.an,d] (aa [a] (aj (aw d n) (Iv (bx (a,h)/\0<=d/\d<(m:Int))/\aa ([d,4]:List Int) (aa [a] (aa [q1] (aa [d,s,f,b.1.an,b.1.wh] (aj (!(aB c.an 0)) (aa [c.an,c.wh] ([]=(cm y).1/\c.an=o/\c.wh=q/\True)) (j)))))) (k)))) (aa [b.1.an] (k))))))))
theorem nR:∀(n:Nat) (l:By),(iM n l).length<=l.length/\∀g∈iM n l,1<=g.2/\g.2<=4
 | 0,l=>⟨by grind [iM],λg h=>by grind [iM]⟩
 | n+1,l=>by
  by_cases h:l=[]
  ·grind [mN]
  ·have d:=Zbe.2 h;rcases kX l with h0 | ⟨m,a,h1,b,c⟩
   ·rw[mP h h0];obtain⟨i1,i2⟩:=nR n (l.drop 1);grind
   ·rw[pj h a h1];obtain⟨i1,i2⟩:=nR n (l.drop m);grind
def EG (y:By):(bg y).length<=y.length:=(nR _ y).1
theorem ik {i:Nat} (h:i<G.length):aI G (i+1)=aI G i+(G.getD i (0,0)).2:=by
 grind [aI,List.take_succ]
theorem yn (a:∀g∈G,1<=g.2/\g.2<=4):∀i,i<=G.length->0<=aI G i/\aI G i<=4*i
 | 0,_=>by simp[aI]
 | i+1,h=>by
  have:=yn a i ω;grind [ik]
theorem QpB (y:By) (p:zH.pre y):TE y:=by
 have hl:=EG y;have w:=(nR y.length y).2;have m:=yn (G:=bg y) w;obtain⟨b,_⟩:=vW (G:=bg y) 21 Pe (Zaj _) (Zaj _);have v:=He y;unfold TE;simp only[bL,bC,ez,au,ib,aT,br,Zad,Zan,Zao,dq];obtain⟨c,n⟩:∃c,eI (bg y) (qZ (bg y) 20) ((bg y).length+2-0) (nn ⟨0,0,0,0,0⟩) []=c:=⟨_,rfl⟩;rw[n];obtain⟨d,o⟩:∃d,gx (bg y) (qZ (bg y) 20) ((bg y).length+2-c.1.i) c.1 [bW 3 c.2]=d:=⟨_,rfl⟩;rw[o];have u:qZ (bg y) 21 Pe=(d.1,bW 4 d.2):=by rw[<-o,<-n];rfl
 rw[u] at b;have r:=b.len;have f:=b.op;have t:=b.gm;simp only at r f t;have f:d.1.ak=0:=f;have B:120<y.length->cm y=([],2,0):=λh=>Zac h
 obtain⟨s,hs⟩:∃s,(if d.1.an=0/\d.1.i<(bg y).length then d.1.ax (bg y) d.1.i 4 else d.1)=s:=⟨_,rfl⟩;have k:¬120<y.length->cm y=if s.an≠0 then([],s.an,s.wh) else(bW 4 d.2,0,0):=λh=>by
  grind [cm,xw]
 have A:=fj (G:=bg y) d.1 d.1.i (e:=4) (by decide);refine⟨λh=>by grind,λh=>⟨ω,⟨0,by rfl,rfl,by simp,Zaj _⟩,λx C=>⟨λl=>?_,λl=>?_⟩⟩⟩
 ·have a:x<(bg y).length:=ω;have b1:=m x ω;have q:=m (x+1) ω;rw[ik a] at q;have z:=yf (bg y);refine⟨ω,l,by simp;omega,x+1,?_,ba ω ω,?_,by assumption,ω⟩
  ·rw[ba ω ω,ik a]
  ·rw[ZbE,Zaf ω];have:=K5 a 0;grind
 ·have k:=k ω;have XE:bx (bg y,⟨0,0,0,0,0⟩):=⟨by grind,⟨ZaQ _,by grind⟩,⟨ZaQ _,by grind⟩,⟨ZaQ _,by grind⟩,v⟩;have j:bx (bg y,⟨d.1.i,d.1.ak,d.1.ab,d.1.an,d.1.wh⟩):=XE.of b;refine⟨XE,?_,λg=>⟨λhi=>⟨⟨j,ω,hi⟩,λhw=>?_,λhw=>absurd hw A⟩,λhi=>⟨λhw=>absurd g hw,λ_=>?_⟩⟩,λg=>⟨λ_=>?_,λhw=>absurd hw g⟩⟩
  ·grind [List.take_of_length_le,yf]
  ·grind
  ·grind
  ·grind
def Qcj (b:Ok dB) (a:Ok yk):Ok zH:=okZ [Hh,H_,qD] f75 Qpz ⟨QhR,Qpy b a .aH,uK⟩ QpB
end
end sx
namespace syn
open Go Go.RowKit cls
def iN (x:Nd):Bool:=(x.op==2||x.r.length==0)&&(x.op==5||(x.mn==0&&x.mx==0&&!x.lz))&&(x.op==6||x.cap==0)
def ck (x:Nd) (g:Int):Int×Bool:=
 if iN x=false then(0,false)
 else if x.op=1\/x.op=7\/x.op=8 then(0,x.ae==0)
 else if x.op=2 then(0,x.ae==0&&decide (x.r=aU x.r))
 else if x.op=3\/x.op=4 then(x.ae,decide (2<=x.ae))
 else if x.op=5 then(1,x.ae==1&&decide (0<=x.mn)&&decide (x.mn<=30)&&(x.mx==-1||(decide (x.mn<=x.mx)&&decide (x.mx<=30))))
 else if x.op=6 then(1,x.ae==1&&x.cap==g+1&&decide (x.cap<=4))
 else(0,false)
def fF (f:Nat->Nat->Bool×Nat×Nat):Nat->Nat->Nat->Bool×Nat×Nat
 | 0,a,g=>(true,a,g)
 | k+1,a,g=>if (f a g).1=false then f a g else fF f k (f a g).2.1 (f a g).2.2
def fG (L:List Nd):Nat->Nat->Nat->Bool×Nat×Nat
 | 0,a,g=>(false,a,g)
 | n+1,a,g=>if L.length<=a then(false,a,g) else
  if (ck (L.getD a (nd 0)) g).2=false then(false,a,g) else fF (fG L n) (ck (L.getD a (nd 0)) g).1.toNat (a+1) (if (L.getD a (nd 0)).op=6 then g+1 else g)
section
variable {Z:Nat->Option Nat}
def nS (x:Nd):Option Int:=
 let bare:=λ(r:List Rg) (mn mx:Int) (lz:Bool) (cap ae:Int)=>decide (x.ae=ae)&&decide (x.mn=mn)&&decide (x.mx=mx)&&decide (x.lz=lz)&&decide (x.cap=cap)&&decide (x.r.length=r.length)
 if x.op=1\/x.op=7\/x.op=8 then(if bare [] 0 0 false 0 0 then some 0 else none)
 else if x.op=2 then(if x.r=aU x.r then(if bare x.r 0 0 false 0 0 then some 0 else none) else none)
 else if x.op=3\/x.op=4 then(if x.ae<2 then none else if bare [] 0 0 false 0 x.ae then some x.ae else none)
 else if x.op=5 then(if x.mn<0\/30<x.mn\/30<x.mx\/x.mx< -1\/(0<=x.mx/\x.mx<x.mn) then none else if bare [] x.mn x.mx x.lz 0 1 then some 1 else none)
 else if x.op=6 then(if x.cap<1\/4<x.cap then none else if bare [] 0 0 false x.cap 1 then some 1 else none)
 else none
def mY (f:Nat->Option Nat):Nat->Nat->Option Nat
 | 0,a=>some a
 | k+1,a=>match f a with
  | none=>none
  | some b=>mY f k b
def gC (L:List Nd):Nat->Nat->Option Nat
 | 0,_=>none
 | n+1,a=>if L.length<=a then none else match nS (L.getD a (nd 0)) with
  | none=>none
  | some k=>mY (gC L n) k.toNat (a+1)
def gV:List Nd->Nat->Option Nat
 | [],g=>some g
 | x::l,g=>if x.op=6 then(if x.cap=(g:Int)+1 then gV l (g+1) else none) else gV l g
def dS (L:List Nd):Bool:=decide (1<=L.length)&&decide (L.length<=480)&&(fG L 241 0 0).1&&(fG L 241 0 0).2.1==L.length
def Ic (L:List Nd):Bool:=decide (1<=L.length)&&decide (L.length<=480)&&(gC L 241 0==some L.length)&&(gV L 0).isSome
theorem NP (x:Nd):iN x↔((x.op=2\/x.r=[])/\(x.op=5\/(x.mn=0/\x.mx=0/\x.lz=false))/\(x.op=6\/x.cap=0)):=by
 grind [iN]
theorem NQ (x:Nd) (g:Nat):((ck x g).2↔(∃k,nS x=some k)/\(x.op=6->x.cap=(g:Int)+1))/\((ck x g).2->nS x=some (ck x g).1):=by
 grind [ck,nS,iN]
theorem rr:∀(l m:List Nd) (g:Nat),gV (l++m) g=(gV l g).bind (gV m)
 | [],m,g=>rfl
 | x::l,m,g=>by
  rw[Za1,gV,gV];split
  ·split
   ·exact rr l m _
   ·rfl
  ·exact rr l m g
def gO (L:List Nd) (a b g:Nat):Option Nat:=gV ((L.drop a).take (b-a)) g
def sD (L:List Nd) (a g:Nat):gO L a a g=some g:=by simp[gO,gV]
theorem lY (L:List Nd) {a b c:Nat} (g:Nat) (h1:a<=b) (d:b<=c):gO L a c g=(gO L a b g).bind λg=>gO L b c g:=by
 unfold gO;rw[<-rr];congr 1;rw[show c-a=(b-a)+(c-b) by omega,ZdW,ZbZ,show a+(b-a)=b by omega]
def EH (L:List Nd) {a:Nat} (g:Nat) (h:a<L.length):gO L a (a+1) g=if (L.getD a (nd 0)).op=6 then(if (L.getD a (nd 0)).cap=(g:Int)+1 then some (g+1) else none) else some g:=by
 unfold gO;have e:(L.drop a).take (a+1-a)=[L.getD a (nd 0)]:=by
  rw[show a+1-a=1 by omega,Zaq h,Zag,Zaf h];rfl
 rw[e];rfl
theorem mZ (L:List Nd) (e:∀a b,Z a=some b->a<b/\b<=L.length):∀(k a b:Nat),a<=L.length->mY Z k a=some b->a<=b/\b<=L.length
 | 0,a,b,d,h=>by cases(show some a=some b from h);exact⟨Zah _,d⟩
 | k+1,a,b,d,h=>by
  rw[mY] at h;split at h
  ·cases h
  ·rename_i c g
   have h1:=e a c g;have i:=mZ L e k c b h1.2 h;omega
theorem m_ (L:List Nd):∀(n a b:Nat),gC L n a=some b->a<b/\b<=L.length
 | 0,a,b,h=>nomatch h
 | n+1,a,b,h=>by
  rw[gC] at h;split at h
  ·cases h
  ·split at h
   ·cases h
   ·rename_i hl _ _ _
    have:=mZ L (m_ L n) _ _ _ ω h;omega
def Qi2 (L:List Nd) (f:Nat->Nat->Bool×Nat×Nat) (r:Nat->Option Nat):Prop:=∀a g,
 ((f a g).1->r a=some (f a g).2.1/\gO L a (f a g).2.1 g=some (f a g).2.2)/\(∀b c,r a=some b->gO L a b g=some c->f a g=(true,b,c))
theorem sE (L:List Nd) {f:Nat->Nat->Bool×Nat×Nat} (h:Qi2 L f Z) (l:∀a b,Z a=some b->a<b/\b<=L.length):∀(k a g:Nat),a<=L.length->
  ((fF f k a g).1->mY Z k a=some (fF f k a g).2.1/\gO L a (fF f k a g).2.1 g=some (fF f k a g).2.2)/\(∀b d,mY Z k a=some b->gO L a b g=some d->fF f k a g=(true,b,d))
 | 0,a,g,t=>⟨λ_=>⟨rfl,sD L a g⟩,λb d h1 i=>by
   cases(show some a=some b from h1);rw[sD] at i;cases i;rfl⟩
 | k+1,a,g,t=>by
  obtain⟨q,s⟩:=h a g;rw[fF,mY];constructor
  ·intro h1;by_cases m:(f a g).1=false
   ·grind
   ·rw[Zaa m] at h1 ⊢;obtain⟨q1,u⟩:=q (by grind);have j:=l _ _ q1;obtain⟨p1,p2⟩:=(sE L h l k (f a g).2.1 (f a g).2.2 j.2).1 h1;grind [mZ,lY]
  ·intro b d h1 i;split at h1
   ·cases h1
   ·rename_i c m
    have j:=l _ _ m;have n:=mZ L l _ _ _ j.2 h1;rw[lY L g (Zcx j.1) n.1] at i;obtain⟨g1,o,p⟩:=ZdC.1 i;have e:=s c g1 m o;rw[e];simp only[Zb0,Za0];exact(sE L h l k c g1 j.2).2 b d h1 p
theorem La (L:List Nd):∀n,Qi2 L (fG L n) (gC L n)
 | 0=>λa g=>⟨λh=>(by cases h),λb l h=>(by cases h)⟩
 | n+1=>λa g=>by
  have o:=La L n;rw[fG,gC];by_cases hl:L.length<=a
  ·grind
  rw[Zaa hl,Zaa hl];obtain⟨hs,j⟩:=NQ (L.getD a (nd 0)) g;have c:=EH L g (show a<L.length by omega);generalize L.getD a (nd 0)=x at hs j c ⊢;constructor
  ·intro h1;by_cases r:(ck x g).2=false
   ·grind
   ·rw[Zaa r] at h1 ⊢;have d:(ck x g).2:=by grind
    rw[j d];obtain⟨p1,p2⟩:=(sE L o (m_ L n) _ _ _ ω).1 h1;refine⟨p1,?_⟩;have f:=mZ L (m_ L n) _ _ _ ω p1;rw[lY L g (ZcR a) f.1,c];grind
  ·intro b l h1 m;split at h1
   ·cases h1
   ·rename_i k hk
    have f:=mZ L (m_ L n) _ _ _ ω h1;rw[lY L g (ZcR a) f.1,c] at m;obtain⟨g1,s,p⟩:=ZdC.1 m;have q:x.op=6->x.cap=(g:Int)+1:=λt=>by
     grind
    have d:=hs.2 ⟨⟨k,hk⟩,q⟩;have e:=j d;rw[hk] at e;cases e;rw[Zaa (by grind)];have i:(if x.op=6 then g+1 else g)=g1:=by
     grind
    rw[i];exact(sE L o (m_ L n) _ _ _ ω).2 b l h1 p
theorem NR (L:List Nd):Ic L=dS L:=by
 obtain⟨a,b⟩:=La L 241 0 0;grind [Ic,dS,Option.isSome_iff_exists,gO]
end
end syn
set_option maxRecDepth 100000
set_option maxHeartbeats 4000000
namespace sx
noncomputable section
open Go Go.RowKit cls syn
def Qe0 (v:AV D.E):C Nd:=az (asAgg v) λcs=>uW D 7 cs
def Qi3 (args:List (AV D.E)):C Nd:=match args with
 | [a]=>Qe0 a
 | _=>.fail
def Qi4 (args:List (AV D.E)):C (Nd×Int):=match args with
 | [a,b]=>az (Qe0 a) λx=>aP (cT b) λ_ n=>.ret (x,n)
 | _=>.fail
def iO (x:Nd):Prop:=x.r.length<=1000000
def TG:bh D:=bO 247 Nd (λa _=>Qi3 a) (λ_=>True) (λy=>[.agg (D.a_ 7 y)]) λy=>.bool (iN y)
def TH:bh D:=bO 214 (Nd×Int) (λa _=>Qi4 a) (λy=>iO y.1/\0<=y.2/\y.2<=1000000) (λy=>[.agg (D.a_ 7 y.1),Qvo y.2]) λy=>.tuple [Qvo (ck y.1 y.2).1,.bool (ck y.1 y.2).2]
structure WkS where
 l:List Nd
 at_:Int
 gr:Int
abbrev ZC:=WkS×Int
def wkO (l:List Nd) (a g:Int):List (Nat×AO D.E):=[(0,.cells [.list 7 l,.int .i64 a,.int .i64 g] 281 false)]
def QpE (args:List (AV D.E)) (s:St D.E):C ZC:=match args with
 | [p,d]=>match p with
  | .ptr b _=>az (cR (s.h.get b)) λo=>match o with
   | .cells cs _ _=>match cs with
    | [l,a,g]=>az (aL D s 7 l) λl=>aP (cT a) λ_ a=>aP (cT g) λ_ g=>aP (cT d) λ_ d=>.ret (⟨l,a,g⟩,d)
    | _=>.fail
   | _=>.fail
  | _=>.fail
 | _=>.fail
def WkP (y:ZC):Prop:=(y.1.l.length<=1000000/\∀x∈y.1.l,iO x)/\(0<=y.1.at_/\y.1.at_<=y.1.l.length)/\(0<=y.1.gr/\y.1.gr<=y.1.at_)/\0<=y.2/\y.2<=241
def oH (y:ZC):Bool×Nat×Nat:=fG y.1.l (241-y.2.toNat) y.1.at_.toNat y.1.gr.toNat
def yo:bh D:=⟨176,ZC,QpE,WkP,λy=>[.ptr 0 0,Qvo y.2],λy=>wkO y.1.l y.1.at_ y.1.gr,λy=>.bool (oH y).1,λy=>wkO y.1.l ((oH y).2.1:Nat) ((oH y).2.2:Nat),1,1⟩
def ZD (y:ZC) (x:Int×Int×Int):Prop:=WkP (⟨y.1.l,x.1,x.2.1⟩,y.2)/\y.1.at_<y.1.l.length/\fF (fG y.1.l (240-y.2.toNat)) x.2.2.toNat x.1.toNat x.2.1.toNat=oH y/\(0<x.2.2->y.2<=240)/\x.2.2<=9223372036854775807
def Qe1 (y:ZC):Nd:=y.1.l.getD y.1.at_.toNat (nd 0)
def TI (y:ZC):Int:=if (Qe1 y).op=6 then y.1.gr+1 else y.1.gr
def TJ (y:ZC):Prop:=y.1.at_<y.1.l.length/\y.2<=240/\(ck (Qe1 y) y.1.gr).2
def QpF (y:yo.Y):cH D:=⟨[(5,.fact 6)],[],[(1020,⟨Int×Int×Int,[0,1],λx=>[(6,Qvo x.2.2)],[],λx=>wkO y.1.l x.1 x.2.1,1,ZD y,λx=>x.2.2.toNat⟩)],[(127,⟨Unit,[0,1,6],λ_=>[],[],λ_=>wkO y.1.l (y.1.at_+1) (TI y),1,λ_=>TJ y,λ_=>0⟩)],1,[]⟩
def Qi5 (y:yo.Y):Prop:=vc [yo.under (λy=>241-y.2.toNat) (241-y.2.toNat),TH] f176 yo QpF y
def ZE (args:List (AV D.E)) (s:St D.E):C (List Nd):=match args with
 | [a]=>az (aL D s 7 a) λl=>.ret (l:List Nd)
 | _=>.fail
def cE (y:List Nd):Prop:=∀x∈y,iO x
def Ie:bh D:=bO 116 (List Nd) ZE cE (λy=>[.list 7 y]) λy=>.bool (dS y)
def TK (y:Nd):Prop:=let a:Prop:=(aj (aB y.op 6) (true=iN y/\True) (aB y.cap 0=iN y/\True));let q1:Prop:=(aj (aB y.op 5) (a) (aj (aB y.mn 0) (aj (aB y.mx 0) (aj (!y.lz) (a) (false=iN y/\True)) (false=iN y/\True)) (false=iN y/\True)));aj (aB y.op 2) (q1) (aj (aB (ag y.r) 0) (q1) (false=iN y/\True))
abbrev RAM {T0 T1 T2 T3 T4 T5 T6:Type} (a:T0) (b:T1) (c:T2) (d:T3) (e:T4) (f:T5) (g:T6) (p:Prop):Prop:=aa [a] (aa [b] (aa [c] (aa [d] (aa [e] (aa [f] (aa [g] p))))))
abbrev RA6 (v:Nd) (p:Prop):Prop:=aa [v.op] (aa [v.r] (aa [v.mn] (aa [v.mx] (aa [v.lz] (aa [v.cap] (aa [v.ae] p))))))
def TL (y:Nd×Int):Prop:=let g:=aG y.1.mn y.1.mx;let q1:=aB y.1.ae 0;let a:=(ck y.1 y.2).2;let b:=(ck y.1 y.2).1;let h:=aB y.1.cap (ay .i64 y.2 1);let i:=!(iN (Nd.mk y.1.op y.1.r y.1.mn y.1.mx y.1.lz y.1.cap y.1.ae));let j:Prop:=(RAG y.1.mn (1=b/\false=a/\True));let d:Prop:=(RAG y.1.ae (0=b/\q1=a/\True));let e:Prop:=(RAH y.1.ae y.1.ae (y.1.ae=b/\aG 2 y.1.ae=a/\True));let u:=RAG y.1.ae (1=b/\false=a/\True);let f:Prop:=(aj (aB y.1.op 5) (aj (aB y.1.ae 1) (aj (aG 0 y.1.mn) (aj (aG y.1.mn 30) (aj (aB y.1.mx (-1)) (RAJ y.1.ae y.1.mn y.1.mn y.1.mx (1=b/\true=a/\True)) (aj g (RAM y.1.ae y.1.mn y.1.mn y.1.mx y.1.mx y.1.mn y.1.mx (1=b/\aG y.1.mx 30=a/\True)) (RAL y.1.ae y.1.mn y.1.mn y.1.mx y.1.mx y.1.mn (1=b/\false=a/\True)))) (RAI y.1.ae y.1.mn y.1.mn (1=b/\false=a/\True))) (RAH y.1.ae y.1.mn (1=b/\false=a/\True))) u) (aj (aB y.1.op 6) (aj (aB y.1.ae 1) (aj h (RAI y.1.ae y.1.cap y.1.cap (1=b/\aG y.1.cap 4=a/\True)) (RAH y.1.ae y.1.cap (1=b/\false=a/\True))) u) (0=b/\false=a/\True)));let c:Prop:=(aj (aB y.1.op 2) (aj q1 (Iv (y.1.r.length<=100000000)/\RAG y.1.r (0=b/\decide (y.1.r=aU y.1.r)=a/\True)) (0=b/\false=a/\True)) (aj (aB y.1.op 3) (aj (aB y.1.op 3) (e) (f)) (aj (aB y.1.op 4) (e) (f))));Iv True/\RA6 y.1 (aj i (0=b/\false=a/\True) (aj (aB y.1.op 1) (aj (aB y.1.op 1) (d) (c)) (aj (aB y.1.op 7) (aj (aB y.1.op 7) (d) (c)) (aj (aB y.1.op 8) (d) (c)))))
def If (y:WkS×Int):Prop:=let h:=ay .i64 y.2 1;let q1:=aG (ag y.1.l) y.1.at_;let i:=((oH y).2.2:Int);let j:=((oH y).2.1:Int);let a:=gt (Nd.mk 0 [] 0 0 false 0 0) y.1.l y.1.at_.toNat;let m:=Nd.mk a.op a.r a.mn a.mx a.lz a.cap a.ae;let e:=ck m y.1.gr;let f:=λp:Prop=>RAG y.1.l p;let k:Prop:=(false=(oH y).1/\f (y.1.at_=j/\y.1.gr=i/\True));aj q1 (RAH y.1.at_ y.1.l (k)) (RAH y.1.at_ y.1.l (aj (aw 240 y.2) (k) (aG 0 y.1.at_/\aw y.1.at_ (ag y.1.l)/\aa [y.1.l] (aa [y.1.at_,a.op] (aa [a.r] (aa [a.mn,a.mx] (aa [a.lz] (aa [a.cap,a.ae] (Iv (iO m/\0<=y.1.gr/\y.1.gr<=1000000)/\aa [a.op] (aa [a.r] (aa [a.mn,a.mx] (aa [a.lz] (aa [a.cap,a.ae,y.1.gr,a.op] (aa [a.r] (aa [a.mn,a.mx] (aa [a.lz] (aa [a.cap,a.ae,y.1.gr] ((fK .i64 e.1)->aj (!e.2) (k) ((aj (aB a.op 6) (∃z:Unit,aa [y.2,e.1] (aa [y.1.l] (ay .i64 y.1.at_ 1=(y.1.at_+1)/\ay .i64 y.1.gr 1=TI y/\(Iv (TJ y))))) (∃z:Unit,aa [y.2,e.1] (aa [y.1.l] (ay .i64 y.1.at_ 1=(y.1.at_+1)/\y.1.gr=TI y/\(Iv (TJ y))))))/\(∀x:Unit,(Iv (TJ y))->(∃z:Int×Int×Int,aa [y.2] (e.1=z.2.2/\f ((y.1.at_+1)=z.1/\TI y=z.2.1/\(Iv (ZD y z)))))/\(∀b:Int×Int×Int,let g:=(WkS.mk y.1.l b.1 b.2.1,h);let c:=((oH g).2.2:Int);let d:=((oH g).2.1:Int);(Iv (ZD y b))->aj (aw 0 b.2.2) (Iv (WkP g/\(241-h.toNat)<(241-y.2.toNat))/\aa [h] (aa [y.1.l] (aa [b.1,b.2.1] (aj (!(oH g).1) (false=(oH y).1/\f (d=j/\c=i/\True)) (∃z:Int×Int×Int,aa [y.2] (cx .i64 b.2.2 1=z.2.2/\f (d=z.1/\c=z.2.1/\(Iv (ZD y z/\z.2.2.toNat<b.2.2.toNat))))))))) (true=(oH y).1/\f (b.1=j/\b.2.1=i/\True)))))))))))))))))))))))
def TM:∀y,If y=Qi5 y:=λy=>by kernel_rfl
abbrev RAA (p:Prop):Prop:=aa ([0,0]:List Int) p
def TN (y:List Nd):Prop:=let a:=(WkS.mk y 0 0,(0:Int));aj (aw (ag y) 1) (false=dS y/\True) (aj (aw 480 (ag y)) (false=dS y/\True) (Iv (WkP a)/\RAC (RAG y (RAA (aj (oH a).1 (aB ((oH a).2.1:Int) (ag y)=dS y/\True) (false=dS y/\True))))))
theorem QpH (y:Nd) (a:TG.pre y):TK y:=by
 grind [TK,iN]
def Qi6:Ok TG:=okZ [] f247 (λ_=>dY ()) trivial QpH
theorem QpI (y:Nd×Int) (e:TH.pre y):TL y:=by
 obtain⟨⟨op,r,mn,mx,lz,cap,ae⟩,g⟩:=y;obtain⟨h1,h,i⟩:r.length<=1000000/\0<=g/\g<=1000000:=e;have c:ay IntKind.i64 g 1=g+1:=ba ω ω;have d:∀a b:Int,(a==b)=decide (a=b):=λa b=>by rfl
 unfold TL ck;simp only[bC,au,oo,oq,uG,QhJ,c,d,Zan,Zao,ZaP,Zbi];generalize iN _=f;generalize aU r=k;have j:r.length<=100000000:=ω;cases f
 all_goals
  with_reducible repeat' first | apply And.intro | intro _
  all_goals first
   | assumption
   | (simp_all;done)
   | (simp_all;omega)
   | (exfalso;omega)
def Qi7 (a:Ok dB):Ok TH:=okZ [TG,Eu] f214 (λ_=>dY ()) ⟨Qi6,Qb7 a⟩ QpI
theorem A2 {L:List Nd} {n:Nat} (h:∀a g,a<=L.length->g<=a->a<=(fG L n a g).2.1/\(fG L n a g).2.1<=L.length/\(fG L n a g).2.2<=(fG L n a g).2.1):∀k a g,a<=L.length->g<=a->a<=(fF (fG L n) k a g).2.1/\(fF (fG L n) k a g).2.1<=L.length/\(fF (fG L n) k a g).2.2<=(fF (fG L n) k a g).2.1
 | 0,a,g,h1,b=>⟨Zah _,h1,b⟩
 | k+1,a,g,h1,b=>by
  have:=h a g h1 b;unfold fF;split
  ·exact this
  ·have:=A2 h k _ _ this.2.1 this.2.2;omega
theorem Lb (L:List Nd):∀n a g,a<=L.length->g<=a->a<=(fG L n a g).2.1/\(fG L n a g).2.1<=L.length/\(fG L n a g).2.2<=(fG L n a g).2.1
 | 0,a,g,h1,b=>⟨Zah _,h1,b⟩
 | n+1,a,g,h1,b=>by
  unfold fG;split
  ·grind
  ·split
   ·grind
   ·have:=A2 (Lb L n) (ck (L.getD a (nd 0)) g).1.toNat (a+1) (if (L.getD a (nd 0)).op=6 then g+1 else g) ω (by grind);omega
theorem Qi8 (y:ZC) (B:yo.pre y):If y:=by
 obtain⟨⟨l,a,g⟩,d⟩:=y;obtain⟨⟨h1,e⟩,v,w,c⟩:(l.length<=1000000/\∀x∈l,iO x)/\(0<=a/\a<=l.length)/\(0<=g/\g<=a)/\0<=d/\d<=241:=B;obtain⟨a,rfl⟩:=Zau v.1;obtain⟨g,rfl⟩:=Zau w.1;obtain⟨d,rfl⟩:=Zau c.1;have j:oH (⟨l,a,g⟩,d)=fG l (241-d) a g:=by rfl
 have p:=Lb l;unfold If;simp only[bL,bC,au,ZaX,ZaY,ZaZ,Zan,Zao,dq,Zad,sq];have u:ay .i64 (d:Int) 1=((d+1:Nat):Int):=by grind
 have s:(⟨(l.getD a ⟨0,[],0,0,false,0,0⟩).op,(l.getD a ⟨0,[],0,0,false,0,0⟩).r,(l.getD a ⟨0,[],0,0,false,0,0⟩).mn,(l.getD a ⟨0,[],0,0,false,0,0⟩).mx,(l.getD a ⟨0,[],0,0,false,0,0⟩).lz,(l.getD a ⟨0,[],0,0,false,0,0⟩).cap,(l.getD a ⟨0,[],0,0,false,0,0⟩).ae⟩:Nd)=l.getD a (nd 0):=rfl;have t:(l.getD a ⟨0,[],0,0,false,0,0⟩).op=(l.getD a (nd 0)).op:=rfl;rw[s,t,u,j];have zero:∀(n:Nat),(n=0\/l.length<=a\/(ck (l.getD a (nd 0)) g).2=false)->false=(fG l n a g).1/\(a:Int)=((fG l n a g).2.1:Nat)/\(g:Int)=((fG l n a g).2.2:Nat):=λn h=>by
  cases n with
  | zero=>exact⟨rfl,rfl,rfl⟩
  | succ n=>
   grind [fG]
 have I:ay .i64 (a:Int) 1=(a:Int)+1:=ba ω ω;have J:ay .i64 (g:Int) 1=(g:Int)+1:=ba ω ω;have on:Qe1 (⟨l,a,g⟩,d)=l.getD a (nd 0):=rfl;have C:TI (⟨l,a,g⟩,d)=if (l.getD a (nd 0)).op=6 then(g:Int)+1 else g:=by rfl
 have ok:TJ (⟨l,a,g⟩,d)=((a:Int)<l.length/\(d:Int)<=240/\(ck (l.getD a (nd 0)) g).2):=by rfl
 rw[C,ok];refine⟨λk=>zero _ (.inr (.inl ω)),λk=>⟨λk2=>zero _ (.inl ω),λk2=>⟨ω,ω,⟨e _ ?_,ω,ω⟩,λkf=>⟨λk3=>zero _ (.inr (.inr k3)),λk3=>⟨⟨λk4=>?_,λk4=>?_⟩,λ_=>⟨⟨((a:Int)+1,(if (l.getD a (nd 0)).op=6 then(g:Int)+1 else g),(ck (l.getD a (nd 0)) g).1),rfl,rfl,rfl,?_⟩,λx A=>?_⟩⟩⟩⟩⟩⟩
 ·grind
 ·grind
 ·grind
 ·have M:a<l.length:=ω;have L:d<=240:=ω;have F:241-d=(240-d)+1:=ω;obtain⟨G,K⟩:∃G:Nat,(if (l.getD a (nd 0)).op=6 then g+1 else g)=G:=⟨_,rfl⟩;have i:(if (l.getD a (nd 0)).op=6 then(g:Int)+1 else g)=(G:Int):=by grind
  have z:G<=g+1:=ω;rw[i];refine⟨⟨⟨h1,e⟩,⟨show 0<=(a:Int)+1 by omega,show(a:Int)+1<=(l.length:Int) by omega⟩,⟨show 0<=(G:Int) by omega,show(G:Int)<=(a:Int)+1 by omega⟩,c.1,c.2⟩,show(a:Int)<(l.length:Int) by omega,?_,λ_=>k2,kf.2⟩;grind [fG,Int.toNat_natCast]
 ·obtain⟨b,g1,q⟩:=x;obtain⟨⟨_,i1,i2,_⟩,i3,i4,i5,i6⟩:=A;have i1:0<=b/\b<=(l.length:Int):=i1;have i2:0<=g1/\g1<=b:=i2;have i4:fF (fG l (240-d)) q.toNat b.toNat g1.toNat=fG l (241-d) a g:=i4.trans j;obtain⟨b,rfl⟩:=Zau i1.1;obtain⟨g1,rfl⟩:=Zau i2.1;simp only[Zad] at i4;have f:oH (⟨l,b,g1⟩,((d+1:Nat):Int))=fG l (240-d) b g1:=by
   grind [oH,Int.toNat_natCast]
  simp only;rw[f];obtain⟨b1,D,E⟩:=p (240-d) b g1 ω ω;refine⟨λk4=>⟨⟨⟨⟨h1,e⟩,i1,i2,ω,show((d+1:Nat):Int)<=241 by omega⟩,ω⟩,λk5=>?_,λk5=>?_⟩,λk4=>?_⟩
  ·obtain⟨m,o⟩:∃m,q.toNat=m+1:=⟨q.toNat-1,ω⟩;grind [fF]
  ·obtain⟨m,o⟩:∃m,q.toNat=m+1:=⟨q.toNat-1,ω⟩;rw[o] at i4;unfold fF at i4;rw[Zaa (by grind)] at i4;have e2:cx .i64 q 1=q-1:=jQ ω (by grind);have H:(q-1).toNat=m:=ω;rw[e2];refine⟨(((fG l (240-d) b g1).2.1:Nat),((fG l (240-d) b g1).2.2:Nat),q-1),rfl,rfl,rfl,⟨⟨⟨h1,e⟩,⟨ZaF _,show((fG l (240-d) b g1).2.1:Int)<=(l.length:Int) by omega⟩,⟨ZaF _,show((fG l (240-d) b g1).2.2:Int)<=((fG l (240-d) b g1).2.1:Int) by omega⟩,c.1,c.2⟩,i3,?_,λ_=>k2,by grind⟩,by grind⟩;grind [Int.toNat_natCast]
  ·rw[show q.toNat=0 by omega] at i4;rw[<-i4];exact⟨rfl,rfl,rfl⟩
def Qe2 (a:Ok dB):Ok yo:=RC (λy=>241-y.2.toNat) TM (Qi7 a) Qi8
theorem QpJ (y:List Nd) (c:Ie.pre y):TN y:=by
 have c:∀x∈y,iO x:=c;unfold TN;simp only[bC,au,uG,dA,hU];have e:oH (⟨y,0,0⟩,0)=fG y 241 0 0:=rfl;rw[e];unfold dS;have d:∀a b:Nat,(a==b)=decide ((a:Int)=b):=λa b=>by grind
 rw[d];refine⟨λh=>?_,λh=>⟨λf=>?_,λf=>⟨⟨⟨show y.length<=1000000 by omega,c⟩,⟨ZaQ _,ZaF _⟩,⟨ZaQ _,ZaQ _⟩,ZaQ _,show(0:Int)<=241 by decide⟩,λg=>?_,λg=>?_⟩⟩⟩
 ·grind
 ·grind
 ·grind
 ·grind
def Qck (a:Ok dB):Ok Ie:=okZ [yo] f116 (λ_=>dY ()) (Qe2 a) QpJ
abbrev QL:=List Int×List Int
abbrev QS:=QL×b7
def gq (p:QL):List Gt:=(List.range p.1.length).map λi=>(if p.1.getD i 0= -1 then 65533 else p.1.getD i 0,p.2.getD (i+1) 0-p.2.getD i 0)
structure Cw (p:QL):Prop where
 len:p.1.length<=1000
 r:∀i,i<p.1.length->p.1.getD i 0=if fi (gq p) i then-1 else aK (gq p) i
 a:∀i,i<=p.1.length->p.2.getD i 0=aI (gq p) i
 al:p.2.length=p.1.length+1
 f:Fx (gq p)
 n:∀g∈gq p,1<=g.2/\g.2<=4
 p0:∀i,0<=aK (gq p) i
def fw (y:QS):Prop:=Cw y.1/\(0<=y.2.i/\y.2.i<=100000)/\y.2.ak=0/\0<=y.2.ab/\y.2.ab<=4
def qO (p:QL) (s:b7):List (Nat×AO D.E):=[(0,.cells [.list 14 p.1,.list 5 p.2,.int .i64 s.i,.int .i64 s.ab,.int .i64 s.an,.int .i64 s.wh] 216 false)]
def Qe3 (v:AV D.E) (s:St D.E):C QS:=match v with
 | .ptr b _=>az (cR (s.h.get b)) λo=>match o with
  | .cells cs _ _=>match cs with
   | [r,a,i,g,e,w]=>az (aL D s 14 r) λr=>az (aL D s 5 a) λa=>aP (cT i) λ_ i=>aP (cT g) λ_ g=>aP (cT e) λ_ e=>aP (cT w) λ_ w=>.ret (((r:List Int),(a:List Int)),⟨i,0,g,e,w⟩)
   | _=>.fail
  | _=>.fail
 | _=>.fail
def inQ (args:List (AV D.E)) (s:St D.E):C QS:=match args with
 | [p]=>Qe3 p s
 | _=>.fail
def TO (args:List (AV D.E)) (s:St D.E):C (QS×Int):=match args with
 | [p,a]=>az (Qe3 p s) λy=>aP (cT a) λ_ n=>.ret (y,n)
 | _=>.fail
def Qcl (args:List (AV D.E)) (s:St D.E):C (QS×Int×Int):=match args with
 | [p,a,b]=>az (Qe3 p s) λy=>aP (cT a) λ_ m=>aP (cT b) λ_ n=>.ret (y,m,n)
 | _=>.fail
abbrev yp (f:FuncId) (Y:Type) (qs:Y->QS) (oM:List (AV D.E)->St D.E->C Y) (pre:Y->Prop) (args:Y->List (AV D.E)) (out:Y->b7) (res:Y->AV D.E):bh D:=⟨f,Y,oM,λy=>fw (qs y)/\pre y,λy=>.ptr 0 0::args y,λy=>qO (qs y).1 (qs y).2,res,λy=>qO (qs y).1 (out y),1,1⟩
variable {G:List Gt}
def Qi9 (s:b7) (e a:Int):b7:=⟨s.i,s.ak,s.ab,cy (aB s.an 0) e s.an,cy (aB s.an 0) a s.wh⟩
def sF:bh D:=yp 126 (QS×Int×Int) (·.1) Qcl (λ_=>True) (λy=>[Qvo y.2.1,Qvo y.2.2]) (λy=>Qi9 y.1.2 y.2.1 y.2.2) λ_=>.tuple []
def zJ:bh D:=yp 127 QS (λy=>y) inQ (λy=>y.2.i<=y.1.1.length) (λ_=>[]) (λy=>y.2) λy=>Qvo (aI (gq y.1) (nn y.2).i)
def rv:bh D:=yp 184 (QS×Int) (·.1) TO (λy=>0<=y.2/\y.2<=127) (λy=>[.int .i32 y.2]) (λy=>y.1.2) λy=>.bool (bb (gq y.1.1) (nn y.1.2) y.2)
def TP:bh D:=bO 303 Int (λa _=>in1 a) (λ_=>True) (λy=>[.int .i32 y]) λy=>.bool (iw y)
def A3:bh D:=bO 278 (List Rg) Cr (λ_=>True) (λy=>[.list 6 y]) λy=>.list 7 [xu y]
def TQ:bh D:=bO 302 (List Rg) Cr (λ_=>True) (λy=>[.list 6 y]) λy=>.bool (dk y)
def Cx:bh D:={ zD with f:=185 }
def QpP (y:Cx.Y):cH D:=⟨[],[],[(250,⟨Nat,[1],λx=>[(5,.grow 7 ({ nd y.1 with ae:=y.2.length }::(y.2.take x).flatten) 0),(6,Qvo x)],[],λ_=>[(0,.tok 7 206)],1,λx=>x<=y.2.length,λx=>y.2.length-x⟩)],[],1,[]⟩
def TR:bh D:={ NH with f:=283 }
def NS:bh D:={ HJ with f:=284 }
def QpS (y:NS.Y):cH D:=⟨[],[],[(122,⟨Nat,[0],λx=>[(4,Qvo (hI (y.take x))),(5,Qvo x)],[],λ_=>[],0,λx=>x<=y.length,λx=>y.length-x⟩)],[],1,[]⟩
def NT:bh D:=yp 282 QS (λy=>y) inQ (λ_=>True) (λ_=>[]) (λy=>zz (dv (gq y.1) (nn y.2))) λy=>.tuple [.str (gU (gq y.1) (nn y.2)),.bool (gJ (gq y.1) (nn y.2))]
def NU (y:QS) (x:Int×By×Bool):Prop:=(0<=x.1/\x.1<=100000)/\x.2.1.length<=x.1/\(nn y.2).i<=x.1.toNat/\(x.2.2=decide ((nn y.2).i<x.1.toNat))/\∃n,(gq y.1).length<=n+x.1.toNat/\ct (gq y.1) n x.1.toNat x.2.1=ct (gq y.1) ((gq y.1).length-(nn y.2).i) (nn y.2).i []
def QpU (y:NT.Y):cH D:=⟨[],[],[(28,⟨Int×By×Bool,[0],λx=>[(4,.str x.2.1),(5,.bool x.2.2)],[],λx=>qO y.1 ⟨x.1,0,y.2.ab,y.2.an,y.2.wh⟩,1,NU y,λx=>y.1.1.length-x.1.toNat⟩)],[],1,[]⟩
def TS (y:(((List Int)×(List Int))×b7)×Int×Int):Prop:=let a:=aB y.1.2.an 0;let q1:=cy a y.2.2 y.1.2.wh;let b:=cy a y.2.1 y.1.2.an;let c:=λp:Prop=>aa [y.1.1.1,y.1.1.2] (aa [y.1.2.i,y.1.2.ab] p);aj a (c (y.2.1=b/\y.2.2=q1/\True)) (c (y.1.2.an=b/\y.1.2.wh=q1/\True))
def TT (y:((List Int)×(List Int))×b7):Prop:=let a:=gt 0 y.1.2 y.2.i.toNat;aG 0 y.2.i/\aw y.2.i (ag y.1.2)/\aa [y.1.2] (aa [y.2.i,a] (a=aI (gq y.1) y.2.i.toNat/\aa [y.1.1,y.1.2] (aa [y.2.i,y.2.ab,y.2.an,y.2.wh] (True))))
def TU (y:(((List Int)×(List Int))×b7)×Int):Prop:=let a:=bb (gq y.1.1) (nn y.1.2) y.2;let q1:=aw y.1.2.i (ag y.1.1.1);let b:=gt 0 y.1.1.1 y.1.2.i.toNat;let c:Prop:=(aa [y.1.1.1,y.1.1.2] (aa [y.1.2.i,y.1.2.ab,y.1.2.an,y.1.2.wh] (True)));aj q1 (aG 0 y.1.2.i/\q1/\aa [y.1.2.i] (aa [y.1.1.1,y.1.1.1] (aa [y.1.2.i,b] (aB b y.2=a/\c)))) (aa [y.1.2.i] (aa [y.1.1.1] (false=a/\c)))
def Qcm (y:Int):Prop:=let a:Prop:=(aj (aG 123 y) (aG y 126=iw y/\True) (false=iw y/\True));let q1:Prop:=(aj (aG 91 y) (aj (aG y 96) (true=iw y/\True) (a)) (a));let b:Prop:=(aj (aG 58 y) (aj (aG y 64) (true=iw y/\True) (q1)) (q1));aj (aG 33 y) (aj (aG y 47) (true=iw y/\True) (b)) (b)
def Ig (y:List (Int×Int)):Prop:=
 ([Nd.mk 2 y 0 0 false 0 0]:List Nd)=([xu y]:List Nd)/\
 True
def TW (y:List (Int×Int)):Prop:=let a:=(gt (0,0) y 0).1;let q1:=(gt (0,0) y 0).2;aj (aB (ag y) 1) (Tt 1 (aw 0 (ag y)/\Tt 1 (aw 0 (ag y)/\aa [a,q1] (aB a q1=dk y/\True)))) (false=dk y/\True)
def TX (y:Int×(List (List Nd))):Prop:=let a:=ag y.2;let q1:=y.2.length;let b:=bW y.1 y.2;let c:=Nd.mk y.1 [] 0 0 false 0 (q1:Int);aj (aB a 1) (Tt 1 (aw 0 a/\gt [] y.2 0=b/\True)) (aj (aB a 0) (([Nd.mk 1 [] 0 0 false 0 0]:List Nd)=b/\True) ((∃z:Nat,aa [y.2] (([Nd.mk y.1 [] 0 0 false 0 a]:List Nd)=(c::(List.flatten (List.take z y.2)))/\0=(z:Int)/\(Iv (z<=q1))))/\(∀x:Nat,let d:=(c::(List.flatten (List.take x y.2)));let e:=bM d (gt [] y.2 (x:Int).toNat);(Iv (x<=q1))->aj (aw (x:Int) a) (aG 0 (x:Int)/\aw (x:Int) a/\bJ (ag e) 72/\∃z:Nat,aa [y.2] (e=(c::(List.flatten (List.take z y.2)))/\ay .i64 (x:Int) 1=(z:Int)/\(Iv (z<=q1/\(q1-z)<(q1-x))))) (d=b/\True))))
def TY (y:(List UInt8)×(List UInt8)):Prop:=let a:=!(aB (dD y.1) (dD y.2));aj a (aw (dD y.1) (dD y.2)=iy y.1 y.2/\True) (slt y.1 y.2=iy y.1 y.2/\True)
def TZ (y:List UInt8):Prop:=aj (aw 2 (dD y)) (0=(eF y).1/\false=(eF y).2/\True) ((∃z:Nat,RAG y (0=hI (List.take z y)/\0=(z:Int)/\(Iv (z<=y.length))))/\(∀x:Nat,let a:=y.length;let q1:=hI (List.take x y);let b:=aw (x:Int) (dD y);(Iv (x<=a))->aj b (aG 0 (x:Int)/\b/\∃z:Nat,RAG y (ay .i64 (gG .i64 q1 10) (jP .i64 (cx .u8 (sat y (x:Int)) 48))=hI (List.take z y)/\ay .i64 (x:Int) 1=(z:Int)/\(Iv (z<=a/\(a-z)<(a-x))))) (q1=(eF y).1/\aG q1 30=(eF y).2/\True)))
def T_ (y:((List Int)×(List Int))×b7):Prop:=let a:=y.1.1;let q1:=gU (gq y.1) (nn y.2);let e:=ag a;let j:=gJ (gq y.1) (nn y.2);let k:=((ct (gq y.1) ((gq y.1).length-y.2.i.toNat) y.2.i.toNat []).1:Int);let f:=λp:Prop=>aa [a,y.1.2] p;let g:=λp:Prop=>aa [y.2.ab,y.2.an,y.2.wh] p;let l:Prop:=(y.2.ab=((y.2.ab.toNat:Nat):Int)/\aa [y.2.an,y.2.wh] (True));(∃z:Int×(List UInt8)×Bool,[]=z.2.1/\false=z.2.2/\f (y.2.i=z.1/\g ((Iv (NU y z)))))/\(∀x:Int×(List UInt8)×Bool,let b:=gt 0 a x.1.toNat;let h:=zn x.2.1 (Utf8.encode b).data.toList;let c:Prop:=(x.2.1=q1/\x.2.2=j/\f (x.1=k/\l));let d:Prop:=(aG 0 x.1/\aw x.1 e/\aG (dD h) BIG/\aa [a] (aa [x.1,b] (∃z:Int×(List UInt8)×Bool,h=z.2.1/\true=z.2.2/\f (ay .i64 x.1 1=z.1/\g ((Iv (NU y z/\(a.length-z.1.toNat)<(a.length-x.1.toNat))))))));(Iv (NU y x))->aj (aw x.1 e) (aG 0 x.1/\aw x.1 e/\aj (aG 48 b) (aG 0 x.1/\aw x.1 e/\aa [x.1] (aa [a,a] (aa [x.1,b] (aa [a] (aa [x.1,b] (aj (aG b 57) (aj (!(seq x.2.1 [])) (d) (aG 0 x.1/\aw x.1 e/\aa [a] (aa [x.1,b] (aj (!(aB b 48)) (d) (∃z:Int×(List UInt8)×Bool,x.2.1=z.2.1/\true=z.2.2/\f (ay .i64 x.1 1=z.1/\g ((Iv (NU y z/\(a.length-z.1.toNat)<(a.length-x.1.toNat)))))))))) (c))))))) (aa [x.1] (aa [a,a] (aa [x.1,b] (c))))) (aa [x.1] (aa [a] (c))))
def yq (p:QL):(gq p).length=p.1.length:=by unfold gq;simp
theorem EI {i:Nat} (h:fi G i):aK G i=65533:=by
 grind [aK,fi]
theorem Cw.rune {p:QL} (h:Cw p) {i:Nat} (hi:i<p.1.length):(fi (gq p) i=false/\p.1.getD i 0=aK (gq p) i)\/(fi (gq p) i/\p.1.getD i 0= -1/\aK (gq p) i=65533):=by
 have:=h.r i hi;grind [EI]
def Ih {s:Ps} (r:Int) (h:s.i<G.length):bb G s r=decide (aK G s.i=r):=Tb r h
def QpW (y:QS×Int×Int) (a:sF.pre y):TS y:=by
 unfold TS;simp only[gz];exact⟨λh=>by rw[h];exact⟨rfl,rfl⟩,λh=>by rw[h];exact⟨rfl,rfl⟩⟩
def uL:Ok sF:=okZ [] f126 (λ_=>dY ()) trivial QpW
def QpX (y:QS) (d:zJ.pre y):TT y:=by
 obtain⟨⟨h1,b,_⟩,c⟩:=d;have h1:Cw y.1:=h1;have b:0<=y.2.i/\y.2.i<=100000:=b;have c:y.2.i<=y.1.1.length:=c;have e:=h1.al;unfold TT;simp only[dw,Zai,fm,dA,au,dq];exact⟨b.1,ω,h1.a _ ω⟩
def EJ:Ok zJ:=okZ [] f127 (λ_=>dY ()) trivial QpX
theorem QpY (y:QS×Int) (d:rv.pre y):TU y:=by
 obtain⟨⟨h1,a,_⟩,b,c⟩:=d;have h1:Cw y.1.1:=h1;have a:0<=y.1.2.i/\y.1.2.i<=100000:=a;have b:0<=y.2:=b;have c:y.2<=127:=c;have hl:=yq y.1.1;unfold TU;simp only[gz,fm,dA,hU,au,dq];refine⟨λh=>⟨a.1,h,?_⟩,λh=>(Cv (s:=nn y.1.2) y.2 (show(gq y.1.1).length<=y.1.2.i.toNat by omega)).symm⟩;rw[Ih (s:=nn y.1.2) y.2 (show y.1.2.i.toNat<(gq y.1.1).length by omega)];have e:(nn y.1.2).i=y.1.2.i.toNat:=rfl;rcases h1.rune (i:=y.1.2.i.toNat) ω with⟨_,h⟩ | ⟨_,h,f⟩
 ·grind
 ·grind
def yr:Ok rv:=okZ [] f184 (λ_=>dY ()) trivial QpY
def QpZ (y:Int) (a:TP.pre y):Qcm y:=Qix y trivial
def Qjb:Ok TP:=okZ [] f303 (λ_=>dY ()) trivial QpZ
theorem Qjc (y:List Rg) (a:A3.pre y):Ig y:=by
 unfold Ig
 first
 | exact⟨rfl,trivial⟩
 | (simp only[gz];rfl)
def Qe4:Ok A3:=okZ [] f278 (λ_=>dY ()) trivial Qjc
theorem Qp0 (y:List Rg) (a:TQ.pre y):TW y:=by
 unfold TW;simp only[gz,dA,oo,oq,au,dq];grind [dk]
def Qjd:Ok TQ:=okZ [] f302 (λ_=>dY ()) trivial Qp0
theorem Qp1 (y:By×By) (a:TR.pre y):TY y:=by
 unfold TY;simp only[pd,Zai,ib,Zan,Zao,oo,oq];unfold iy;refine⟨λh=>?_,λh=>?_⟩
 ·grind
 ·rw[ZaN (show ¬y.1.length<y.2.length by omega),show(y.1.length==y.2.length)=true by grind,bytesLess_eq];rfl
def Qje:Ok TR:=okZ [] f283 (λ_=>dY ()) trivial Qp1
theorem Qe5 (a:Int):gG .i64 10 a=gG .i64 a 10:=by grind [gG]
theorem Qp2 (y:By) (a:NS.pre y):TZ y:=by
 have h:=QiB y a;unfold KY at h;unfold TZ;grind [Qe5]
def Qjf:Ok NS:=okZ [] f284 QpS trivial Qp2
theorem Qp3 (y:Int×List (List Nd)) (a:Cx.pre y):TX y:=by
 have h:=QiA y a;unfold KZ at h;unfold TX;simp only[gz] at h ⊢;grind
def Qcn:Ok Cx:=okZ [] f185 QpP trivial Qp3
theorem Cy {n:Int} (h0:0<=n) (h1:n<128):(Utf8.encode n).data.toList=[UInt8.ofNat n.toNat]:=by
 obtain⟨m,rfl⟩:=Zau h0;have:∀k:Nat,k<128->(Utf8.encode (k:Int)).data.toList=[UInt8.ofNat k]:=by decide
 grind
theorem Qp4 (y:QS) (A:NT.pre y):T_ y:=by
 obtain⟨⟨h1,d,D,p⟩,_⟩:=A;have h1:Cw y.1:=h1;have d:0<=y.2.i/\y.2.i<=100000:=d;have p:0<=y.2.ab/\y.2.ab<=4:=p;have hl:=yq y.1;have len:=h1.len;unfold T_;simp only[bL,gz,au,ib,xJ,kU,dq,Zan,Zao];have r:y.2.ab=((y.2.ab.toNat:Nat):Int):=ω;refine⟨⟨(y.2.i,[],false),rfl,rfl,rfl,d,by grind,Zah _,by simp[nn],_,?_,rfl⟩,λx v=>?_⟩
 ·show _<=(gq y.1).length-y.2.i.toNat+y.2.i.toNat;omega
 ·obtain⟨i,b,k⟩:=x;obtain⟨i1,i2,i3,i4,n,i5,i6⟩:=v;simp only at*
  have i3:y.2.i.toNat<=i.toNat:=i3;have i4:k=decide (y.2.i.toNat<i.toNat):=i4;have fin:ct (gq y.1) n i.toNat b=(i.toNat,b)->b=gU (gq y.1) (nn y.2)/\k=gJ (gq y.1) (nn y.2)/\i=((ct (gq y.1) ((gq y.1).length-y.2.i.toNat) y.2.i.toNat []).1:Int)/\y.2.ab=((y.2.ab.toNat:Nat):Int):=λh=>by
   have e:ct (gq y.1) ((gq y.1).length-(nn y.2).i) (nn y.2).i []=(i.toNat,b):=i6.symm.trans h;refine⟨by grind [gU],by grind [gJ],?_,r⟩;have e:ct (gq y.1) ((gq y.1).length-y.2.i.toNat) y.2.i.toNat []=(i.toNat,b):=e;grind
  have stop:¬(i.toNat<(gq y.1).length/\48<=aK (gq y.1) i.toNat/\aK (gq y.1) i.toNat<=57)->ct (gq y.1) n i.toNat b=(i.toNat,b):=λh=>by
   cases n with
   | zero=>rfl
   | succ n=>unfold ct;rw[Zaa h]
  refine⟨λq1=>⟨i1.1,q1,λl=>⟨i1.1,q1,λo=>?_,λo=>fin (stop λw=>?_)⟩,λl=>fin (stop λw=>?_)⟩,λq1=>fin (stop λw=>ω)⟩
  ·have u:fi (gq y.1) i.toNat=false/\y.1.1.getD i.toNat 0=aK (gq y.1) i.toNat:=by
    rcases h1.rune (i:=i.toNat) ω with h | ⟨_,h,_⟩
    ·exact h
    ·omega
   rw[u.2] at l o ⊢;have q:ay .i64 i 1=i+1:=ba ω ω;have e2:(i+1).toNat=i.toNat+1:=ω;have t:y.1.1.length-(i+1).toNat<y.1.1.length-i.toNat:=ω;have f:(gq y.1).length<=n-1+(i+1).toNat:=ω;have g:0<=i+1/\i+1<=100000:=ω;have a:y.2.i.toNat<=(i+1).toNat/\true=decide (y.2.i.toNat<(i+1).toNat):=⟨ω,by grind⟩;have j:(b.length:Int)<=i+1:=ω;rw[Cy ω ω,q];obtain⟨m,rfl⟩:∃m,n=m+1:=⟨n-1,ω⟩;have c:(if i.toNat<(gq y.1).length/\48<=aK (gq y.1) i.toNat/\aK (gq y.1) i.toNat<=57 then ct (gq y.1) m (i.toNat+1) (if 48<aK (gq y.1) i.toNat\/b≠[] then b++[UInt8.ofNat (aK (gq y.1) i.toNat).toNat] else b) else(i.toNat,b))=_:=i6;rw[Zac ⟨ω,l,o⟩] at c;have go:(48<aK (gq y.1) i.toNat\/b≠[])->0<=i/\i<(y.1.1.length:Int)/\((zn b [UInt8.ofNat (aK (gq y.1) i.toNat).toNat]).length:Int)<=BIG/\∃z:Int×By×Bool,zn b [UInt8.ofNat (aK (gq y.1) i.toNat).toNat]=z.2.1/\true=z.2.2/\i+1=z.1/\NU y z/\y.1.1.length-z.1.toNat<y.1.1.length-i.toNat:=λh=>by
    rw[Zac h] at c;have hlen:(zn b [UInt8.ofNat (aK (gq y.1) i.toNat).toNat]).length=b.length+1:=by unfold zn;simp
    refine⟨i1.1,q1,by grind [BIG],(i+1,_,true),rfl,rfl,rfl,⟨⟨ω,ω⟩,by grind,ω,by grind,m,by assumption,?_⟩,by assumption⟩;grind
   refine⟨λB=>go (.inr λh=>by grind),λB=>⟨i1.1,q1,λC=>go (.inl ω),λC=>?_⟩⟩;refine⟨(i+1,b,true),rfl,rfl,rfl,⟨g,j,a.1,a.2,m,f,?_⟩,t⟩;grind
  ·rcases h1.rune (i:=i.toNat) ω with⟨_,h⟩ | ⟨_,h,s⟩<;>omega
  ·rcases h1.rune (i:=i.toNat) ω with⟨_,h⟩ | ⟨_,h,s⟩<;>omega
def Qjg:Ok NT:=okZ [] f282 QpU trivial Qp4
end
end sx
end Go.Proofs.YtiiiphndmbabcaaGreat
