/- PointAny: a part of the proof. -/
import Derived.Test.YtiiiphndmbabcaaGreatC10
import Derived.Test.YtiiiphndmbabcaaGreatC5
import Derived.Test.YtiiiphndmbabcaaGreatC4
import Derived.Test.YtiiiphndmbabcaaGreatC9
set_option linter.all false
namespace Go.Proofs.YtiiiphndmbabcaaGreat
open Go.Proofs.Tryz
set_option maxRecDepth 100000
set_option maxHeartbeats 4000000
namespace sx
noncomputable section
open Go Go.RowKit cls syn
def QcP (y:iC×Int):Prop:=let a:=tX y.1.af y.2;let q1:=gt (aW.mk 0 0 0 []) y.1.af y.2.toNat;aG 0 y.2/\aw y.2 (ag y.1.af)/\aj (aB q1.op 2) (([q1.x,q1.y]:List Int)=a/\True) (aj (aB q1.op 3) (([q1.x]:List Int)=a/\True) (aj (aB q1.op 7) ([]=a/\True) (([ay .i64 y.2 1]:List Int)=a/\True)))
def QcQ (y:iC×Int):Prop:=let d:=ag y.1.af;let q1:=lJ y.1.af (vG y);let e:=oF d false;let m:=aG (ag y.1.av) y.2;let k:=([gt 0 y.1.av y.2.toNat]:List Int);let j:=λp:Prop=>RA3 y.1 p;aG 0 d/\aG d d/\bJ d 1/\aj (aw y.2 0) (e=q1/\True) (aj m (e=q1/\True) (aG 0 y.2/\aw y.2 (ag y.1.av)/\(∃z:sy,ag e=ag z.s/\ag k=ag z.l/\k=z.l/\e=z.s/\j ((Iv (qC (y.1.af,vG y) z))))/\(∀x:sy,let g:=ag x.l;let b:=cx .i64 g 1;let i:=(y.1.af,vG y);let a:=gt 0 x.l b.toNat;let h:=gt false x.s a.toNat;let c:=bM (dE x.l b) (tX y.1.af a);(Iv (qC i x))->aj (aw 0 g) (aG 0 b/\aw b g/\aG 0 b/\aG b g/\aG 0 a/\aw a (ag x.s)/\aj h (∃z:sy,ag x.s=ag z.s/\b=ag z.l/\dE x.l b=z.l/\x.s=z.s/\j ((Iv (qC i z/\z.f<x.f)))) (aG 0 a/\aw a (ag x.s)/\Iv (QfI (y.1,a))/\RA3 y.1 (RAH a (bJ (ag c) 8/\∃z:sy,ag x.s=ag z.s/\ag c=ag z.l/\c=z.l/\cS x.s a.toNat true=z.s/\j ((Iv (qC i z/\z.f<x.f))))))) (x.s=q1/\True))))
def QcR (y:iC×Int):Prop:=let a:=ag y.1.af;let q1:=gt (aW.mk 0 0 0 []) y.1.af y.2.toNat;let c:=ag q1.bm;let i:=aG (ag y.1.av) q1.x;let j:=!(decide (q1.bm=aU q1.bm));let d:Prop:=(aw (ay .i64 y.2 1) a/\True);let e:Prop:=(aj (aB c 0) (True) (False));let f:Prop:=(aj (aB q1.y 0) (aj (aB c 0) (d) (False)) (False));let g:Prop:=(aj (aB q1.x 0) (f) (False));let h:Prop:=(aj (aB q1.x q1.x) (aj (aB q1.y 0) (e) (False)) (False));let b:Prop:=(aj (aB q1.op 7) (aj (aw q1.x 0) (False) (aj i (False) (h))) (False));aG 0 y.2/\aw y.2 a/\aj (aB q1.op 1) (Iv (q1.bm.length<=2000000)/\RAH q1.bm (aj j (False) (aj (aB q1.x 0) (aj (aB q1.y 0) (aj (aB c c) (d) (False)) (False)) (False)))) (aj (aB q1.op 2) (RAJ q1.x q1.y q1.y (aj (aw q1.x 0) (False) (aj (aG a q1.x) (False) (aj (aw q1.y 0) (False) (aj (aG a q1.y) (False) (aj (aB q1.x q1.x) (aj (aB q1.y q1.y) (e) (False)) (False))))))) (aj (aB q1.op 3) (aj (aw q1.x 0) (False) (aj (aG a q1.x) (False) (h))) (aj (aB q1.op 4) (aj (aw q1.x 0) (False) (aj (aG 10 q1.x) (False) (aj (aB q1.x q1.x) (f) (False)))) (aj (aB q1.op 5) (aj (aB q1.op 5) (g) (b)) (aj (aB q1.op 6) (g) (b))))))
def QcS (y:iC):Prop:=let b:=y.af.length;let q1:=ag y.av;let a:=y.av.length;let m:=ag y.af;let h:=λp:Prop=>RA3 y p;let s:Prop:=(∃z:Nat,0=(z:Int)/\h ((Iv (z<=a))));aj (aw 400 m) (False) (aj (aw 8 q1) (False) ((∃z:Nat,0=(z:Int)/\h ((Iv (z<=b))))/\(∀x:Nat,(Iv (x<=b))->aj (aw (x:Int) m) (Iv (QfJ (y,(x:Int)))/\RA3 y (RAH (x:Int) (∃z:Nat,ay .i64 (x:Int) 1=(z:Int)/\h ((Iv (z<=b/\(b-z)<(b-x))))))) ((s)/\(∀i:Nat,let q:=aw (i:Int) q1;let k:=gt 0 y.av (i:Int).toNat;(Iv (i<=a))->aj q (aG 0 (i:Int)/\q/\aj (aw k 0) (RAI y.av k (False)) (aG 0 (i:Int)/\q/\RAL y.av k y.av k y.af (aj (aG m k) (False) (∃z:Nat,ay .i64 (i:Int) 1=(z:Int)/\h ((Iv (z<=a/\(a-z)<(a-i)))))))) ((s)/\(∀e:Nat,let t:=aw (e:Int) q1;let r:=lJ y.af (vG (y,(e:Int)));let l:=λp:Prop=>RAI (e:Int) r p;(Iv (e<=a))->aj t (Iv (Qae (y,(e:Int)))/\RA3 y (RAH (e:Int) (∃z:Nat,(∃d:Nat,l (0=(d:Int)/\h ((Iv (d<=b/\z<a)))))/\(∀c:Nat,let f:=aw (c:Int) m;let n:=gt false r (c:Int).toNat;let j:=gt (aW.mk 0 0 0 []) y.af (c:Int).toNat;let o:=!(aB j.x (e:Int));let g:Prop:=(∃d:Nat,l (ay .i64 (c:Int) 1=(d:Int)/\h ((Iv ((d<=b/\z<a)/\(b-d)<(b-c))))));(Iv (c<=b/\z<a))->aj f (aG 0 (c:Int)/\aw (c:Int) (ag r)/\aj n (aG 0 (c:Int)/\f/\aj (aB j.op 7) (aG 0 (c:Int)/\f/\aj o (False) (g)) (g)) (g)) (∃d:Nat,ay .i64 (e:Int) 1=(d:Int)/\h ((Iv (d<=a/\(a-d)<(a-e))))))))) (True))))))))
theorem Qlm:Ok Qad:=okZ (V:=QcP) [] f238 (λ_=>dY ()) trivial λy a=>by
 have⟨h1,b,c⟩:QfI y:=a;have hi:ay .i64 y.2 1=y.2+1:=ba ω ω;have e:gt (aW.mk 0 0 0 []) y.1.af y.2.toNat=y.1.af.getD y.2.toNat cX:=rfl;unfold QcP tX Qac;rw[hi,e];simp only[bC,bL,au];grind
theorem L4 {af:List aW} {i:Int} (a:tgP af) (h0:0<=i) (h1:i<af.length):(tX af i).length<=2/\∀j∈tX af i,0<=j/\j<(af.length:Int):=by
 obtain⟨n,rfl⟩:=Zau h0;obtain⟨b,c,d⟩:=a.2 n ω;unfold tX;simp only[Zad];generalize af.getD n cX=x at*
 unfold Qac;grind
theorem OS {y:List aW×Int} {f:Nat} {s:List Bool} {l:List Int} {m:Nat} (o:tgP y.1) (r:qC y ⟨f+1,s,l⟩) (q:l.length=m+1):(0<=l.getD m 0/\l.getD m 0<y.1.length)/\(s.getD (l.getD m 0).toNat false->qC y ⟨f,s,l.take m⟩)/\(s.getD (l.getD m 0).toNat false=false->qC y ⟨f,s.set (l.getD m 0).toNat true,l.take m++tX y.1 (l.getD m 0)⟩):=by
 obtain⟨c,e2,g,n,a⟩:=r;simp only at c e2 g n a;have hi:=e2 (l.getD m 0) (by grind);have hk:∀i∈l.take m,0<=i/\i<(y.1.length:Int):=λi hi=>e2 i (Zcg hi)
 have d:(l.take m).length=m:=by grind
 rw[j4,Zaa ω,q,Zde] at a;simp only at a;obtain⟨q1,e⟩:=L4 o hi.1 hi.2;generalize l.getD m 0=i at hi a q1 e ⊢;generalize l.take m=k at hk d a ⊢;have b:=uJ s i.toNat ω;refine⟨hi,λh=>?_,λh=>?_⟩
 ·rw[Zac h] at a;exact⟨c,hk,by show 3*s.count false+k.length<=f;omega,by show f<=_;omega,a⟩
 ·rw[Zaa (by rw[h];decide)] at a;have b:=b h;refine⟨List.length_set.trans c,λj p=>(Zax.1 p).elim (hk j) (e j),?_,by show f<=_;omega,?_⟩
  ·show 3*(s.set i.toNat true).count false+(k++tX y.1 i).length<=f
   rw[Zab];omega
  ·show j4 y.1 f (s.set i.toNat true) (k++tX y.1 i)=_
   rw[<-a];unfold tX Qac;grind
theorem QcT:Ok OQ:=okZ (V:=QcQ) [Qad] f200 Qs4 Qlm λy v=>by
 obtain⟨⟨c1,B,C⟩,w,z⟩:Qae y:=v;have c0:y.1.af.length<=1000:=c1.1;unfold QcQ;simp only[bL,bC,au,cS,br,aT];refine⟨ω,ω,ω,λh=>ω,λ_=>⟨λh=>ω,λ_=>⟨w,z,⟨⟨3*y.1.af.length+1,KR y.1.af.length,[vG y]⟩,rfl,rfl,rfl,rfl,by unfold KR;simp,λi hi=>?_,?_,Zah _,rfl⟩,λx d=>⟨λh=>?_,λh=>?_⟩⟩⟩⟩
 ·grind
 ·unfold KR;simp
 ·obtain⟨f,s,l⟩:=x;simp only at d h ⊢;have⟨p,e2,q,r,c⟩:=d;simp only at p e2 q r c;obtain⟨m,t⟩:∃m,l.length=m+1:=⟨l.length-1,ω⟩;obtain⟨f,rfl⟩:∃g,f=g+1:=⟨f-1,ω⟩;have u:cx .i64 (l.length:Int) 1=(m:Int):=by
   grind
  obtain⟨q1,j,n⟩:=OS c1 d t;have e:dE l (m:Int)=l.take m:=rfl;have a:(l.take m).length=m:=by grind
  rw[u,Zad,dq,e];obtain⟨o,A⟩:=L4 c1 q1.1 q1.2;replace q1:0<=l.getD m 0/\l.getD m 0<(y.1.af.length:Int):=q1;replace o:(tX y.1.af (l.getD m 0)).length<=2:=o;generalize l.getD m 0=i at q1 j n o A ⊢;generalize l.take m=k at j n a ⊢;refine⟨ω,ω,ω,ω,q1.1,ω,λb=>⟨⟨f,s,k⟩,rfl,by rw[a],rfl,rfl,j b,Zbr _⟩,λb=>⟨q1.1,ω,⟨q1.1,q1.2,c0⟩,?_,⟨f,s.set i.toNat true,k++tX y.1.af i⟩,by rw[Zbb],rfl,rfl,rfl,n b,Zbr _⟩⟩;rw[Zab];omega
 ·obtain⟨f,s,l⟩:=x;obtain⟨p,e2,q,r,c⟩:=d;simp only at c h ⊢;rw[<-c];cases f with
  | zero=>rfl
  | succ f=>rw[j4,Zac ω]
theorem Qln (g:Ok gA):Ok Qaf:=okZ (V:=QcR) [x_] f237 (λ_=>dY ()) (SO g) λy i=>by
 obtain⟨⟨h1,e,j,f⟩,c⟩:QfJ y:=i;have hi:ay .i64 y.2 1=y.2+1:=ba ω ω;have h:(gt (aW.mk 0 0 0 []) y.1.af y.2.toNat).bm.length<=1000000:=by
  grind
 have d:HD y.1 y.2=Ez (gt (aW.mk 0 0 0 []) y.1.af y.2.toNat) (aw (y.2+1) (ag y.1.af)) (ag y.1.af) (ag y.1.av):=rfl;have a:aw y.2 (ag y.1.af):=dA.2 e;rw[d] at c;unfold QcR;rw[hi];generalize gt (aW.mk 0 0 0 []) y.1.af y.2.toNat=x at h c ⊢;simp only[bC,fm];refine⟨h1,a,?_⟩;unfold Ez ij at c;clear f d a;generalize ag y.1.af=n at*
 generalize ag y.1.av=m at*
 generalize aw (y.2+1) n=b at*
 have k:(0<x.bm.length)=¬x.bm.length=0:=by grind
 simp only[bL,au] at c ⊢;clear hi
 with_reducible repeat' first | apply And.intro | intro _
 all_goals grind
def Qlo (f:Ok gA):Ok WC:=okZ (V:=QcS) [Qaf,OQ] f198 Qs7 ⟨Qln f,QcT⟩ λ(y:iC) j=>by
 obtain⟨p1,p2,p3,p4,p5,p6⟩:F5 y:=j;unfold QcS;simp only[bL,bC,au,Zad,dq,Zan,Zao];have up:∀{n x:Nat},x<n->n<=1000->∃z:Nat,ay .i64 (x:Int) 1=(z:Int)/\z<=n/\n-z<n-x:=λh m=>⟨_+1,ba ω ω,ω,ω⟩
 refine⟨λh=>ω,λh=>⟨λh=>ω,λh=>⟨⟨0,rfl,Zaj _⟩,λx i=>⟨λk=>?_,λk=>⟨⟨0,rfl,Zaj _⟩,λr g=>⟨λk=>?_,λk=>⟨⟨0,rfl,Zaj _⟩,λr g=>⟨λk=>?_,λk=>trivial⟩⟩⟩⟩⟩⟩⟩⟩
 ·have b:x<y.af.length:=ω;exact⟨⟨⟨by show(0:Int)<=x;omega,k,by show y.af.length<=1000;omega,p4⟩,p3 x b⟩,up b ω⟩
 ·have a:r<y.av.length:=ω;obtain⟨d,a2,a3⟩:=p6 r a;exact⟨ω,k,λh=>ω,λ_=>⟨ω,k,λh=>ω,λ_=>up a ω⟩⟩
 ·have a:r<y.av.length:=ω;obtain⟨d,a2,a3⟩:=p6 r a;have e:vG (y,↑r)=y.av.getD r 0:=rfl;rw[e];refine⟨⟨⟨p5,d,a2⟩,by show(0:Int)<=r;omega,k⟩,r,⟨0,rfl,Zaj _,a⟩,λx i=>⟨λk2=>?_,λ_=>up a ω⟩⟩;have b:x<y.af.length:=ω;obtain⟨z,l,z2,z3⟩:=up b ω;have c:∃z:Nat,ay .i64 (x:Int) 1=(z:Int)/\(z<=y.af.length/\r<y.av.length)/\y.af.length-z<y.af.length-x:=⟨z,l,⟨z2,a⟩,z3⟩;exact⟨ω,by rw[mT];exact k2,λs=>⟨ω,k2,λo=>⟨ω,k2,λh=>h (a3 x b s o),λ_=>c⟩,λ_=>c⟩,λ_=>c⟩
theorem QcU:Ok QfK:=okZ (V:=KL) [] f99 (λ_=>⟨[],[],[],[],11,[]⟩) trivial λy a=>by
 grind [KL]
def Qlp:Ok Qll:=okZ (V:=LD) [] f199 (λ_=>⟨[],[],[],[],11,[]⟩) trivial λy _=>Qkx y
structure C5 where
 v:oN
 h:By
def swA (y:C5):AV D.E:=.agg [.list 0 y.h,.int .i64 y.v.m,.list 2 y.v.L]
def Qlq (p v:AV D.E) (s:St D.E):C C5:=az (Hk p s) λp=>az (asAgg v) λcs=>match cs with
 | [h,m,l]=>az (aL D s 0 h) λh=>aP (cT m) λ_ m=>az (aL D s 2 l) λl=>.ret ⟨⟨p,m,(l:List dd)⟩,(h:By)⟩
 | _=>.fail
def Qs9 (a:List (AV D.E)) (s:St D.E):C C5:=match a with
 | [p,v]=>Qlq p v s
 | _=>.fail
def C6 (h:By):Bool:=decide (h=[])||ji h
def uxC:bh D:=⟨102,By×Bool,λa s=>az (Nt a s) λh=>.split (C6 h) (.ret (h,true)) (.ret (h,false)),λy=>y.2=C6 y.1,λy=>[.list 0 y.1],λ_=>[],λy=>match y.2 with
 | true=>.tuple [.ptr 0 0,.num .i64 0]
 | false=>.tuple [.fT,.num .i64 4],λy=>match y.2 with
 | true=>dcO (uoF y.1)
 | false=>[],0,1⟩
def FM (y:C5):Prop:=sZ y.v
def XM (y:C5):Bool:=gX y.v&&C6 y.h
def WD:bh D:=bO 104 C5 Qs9 FM (λy=>[Hj y.v.p,swA y]) λy=>.bool (XM y)
def mc (y:C5×Int):Bool:=XM y.1&&aB (ay .i64 y.1.v.m (ag y.1.h)) y.2
def WE:bh D:=bO 64 (C5×Int) (λa s=>match a with
 | [p,v,n]=>az (Qlq p v s) λy=>aP (cT n) λ_ n=>.ret (y,n)
 | _=>.fail) (λy=>FM y.1) (λy=>[Hj y.1.v.p,swA y.1,Qvo y.2]) λy=>.bool (mc y)
def WG (y:List UInt8):Prop:=let a:Prop:=(Iv True/\cy (aw 0 (dD y)) (sat y 0) 0=lX y 0/\cy (aw 1 (dD y)) (sat y 1) 0=lX y 1/\cy (aw 2 (dD y)) (sat y 2) 0=lX y 2/\cy (aw 3 (dD y)) (sat y 3) 0=lX y 3/\cM 4 (dD y)=ite (y.length<=4) (y.length:Int) 4/\True);Iv True/\RAH y (aj (!(ji y)) (aj (aw 0 (ag y)) (False) (a)) (a))
def WH (y:List UInt8):Prop:=Iv True/\aa [y] (aj (!(ji y)) (aj (aw 0 (ag y)) (True) (Iv True/\False)) (Iv True/\False))
def QcV (y:C5):Prop:=let a:=C6 y.h;aj a (Iv (true=a)/\RAH y.h (Iv (sZ y.v)/\aa [y.v.p.af] (aa [y.v.p.av] (aa [y.v.m] (aa [y.v.L] (gX y.v=XM y/\True)))))) (Iv (false=a)/\RAH y.h (false=XM y/\True))
def L5 (y:C5×Int):Prop:=Iv (FM y.1)/\RA3 y.1.v.p (RAJ y.1.h y.1.v.m y.1.v.L (aj (XM y.1) (aB (ay .i64 y.1.v.m (ag y.1.h)) y.2=mc y/\True) (false=mc y/\True)))
theorem Qte (y:By) (a:true=C6 y):WG y:=by
 have h:=uoH y (by unfold C6 at a;simpa using a.symm);unfold QeN at h;unfold WG;grind
theorem Qtf (y:By) (a:false=C6 y):WH y:=by
 unfold WH;have h0:y≠[]:=λe=>by rw[e] at a;cases a
 have h1:=Zbe.2 h0;grind [C6]
def Qtg:Ok uxC:=Qo5 (k:=uxC) (T:=WG) (F:=WH) [po,unC] f102 (λ_=>dY ()) id id (λ_=>rfl) ⟨Cq,QoL⟩ Qte Qtf
theorem Qls (b:Ok dB):Ok WD:=okZ (V:=QcV) [uxC,OP] f104 (λ_=>dY ()) ⟨Qtg,Qlk b⟩ λy a=>by
 have a:sZ y.v:=a;unfold QcV;simp only[gz,kU];grind [XM]
theorem Qlt (y:C5×Int) (a:FM y.1):L5 y:=by
 unfold L5;simp only[dw,kU];exact⟨a,λe=>by grind [mc],λe=>by grind [mc]⟩
def Qlu (a:Ok dB):Ok WE:=okZ [WD] f64 (λ_=>dY ()) (Qls a) Qlt
structure Dh where
 h:By
 m:Int
 L:List dd
def XN (y:Dh):List (AV D.E):=[.list 0 y.h,.int .i64 y.m,.list 2 y.L]
def zS (h m l:AV D.E) (s:St D.E):C Dh:=az (aL D s 0 h) λh=>aP (cT m) λ_ m=>az (aL D s 2 l) λl=>.ret ⟨(h:By),m,(l:List dd)⟩
def fb (y:Dh):Bool:=aB (ag y.h) 0&&aB y.m 0&&aB (ag y.L) 0
def OT:bh D:=bO 66 Dh (λa s=>match a with
 | [v]=>az (asAgg v) λcs=>match cs with
  | [h,m,l]=>zS h m l s
  | _=>.fail
 | _=>.fail) (λ_=>True) (λy=>[.agg (XN y)]) λy=>.bool (fb y)
structure OU where
 l:List dd
 n:Int
 z:Int
def edC (d:Bool) (z:Int) (t:aX):Bool:=(oz t).all λx=>decide (-1<=x)&&decide (x<=z)&&(d||decide (x= -1))
def OV (y:OU) (i:Nat):Bool:=decide ((y.l.getD i fu).aJ.length=0)&&edC (y.l.getD i fu).done y.z (OO (y.l.getD i fu))
def mf (y:OU):Nat->Bool
 | 0=>true
 | k+1=>mf y k&&OV y k
def gF (y:OU):Bool:=lk (decide ((y.l.length:Int)=y.n)&&mf y y.l.length)
def OW:bh D:=bO 67 OU (λa s=>match a with
 | [l,n,z]=>az (aL D s 2 l) λl=>aP (cT n) λ_ n=>aP (cT z) λ_ z=>.ret ⟨(l:List dd),n,z⟩
 | _=>.fail) (λy=>y.l.length<=1000) (λy=>[.list 2 y.l,Qvo y.n,Qvo y.z]) λy=>.bool (gF y)
def Qti (y:OW.Y):cH D:=⟨[],[],[(58,⟨Nat,[2,15,16],λk=>[(17,Qvo k)],[],λ_=>[],0,λk=>k<=(OU.l y).length/\mf y k,λk=>(OU.l y).length-k⟩)],[],11,[]⟩
def L6 (y:Dh):Prop:=aj (aB (ag y.h) 0) (aj (aB y.m 0) (aB (ag y.L) 0=fb y/\True) (false=fb y/\True)) (false=fb y/\True)
def WI (y:OU):Prop:=let b:=y.l.length;let q1:=ag y.l;let u:=λp:Prop=>RAJ y.z y.l q1 p;aj (!(aB q1 y.n)) (false=gF y/\True) ((∃z:Nat,u (0=(z:Int)/\(Iv (z<=b/\mf y z))))/\(∀x:Nat,let a:=gt (dd.mk false 0 0 0 0 0 0 0 0 0 0 []) y.l (x:Int).toNat;let v:=aw 0 (ag a.aJ);let w:=!(aB a.c5 (-1));let A:=!(aB a.c4 (-1));let B:=!(aB a.c2 (-1));let C:=!(aB a.c6 (-1));let D:=!(aB a.c3 (-1));let o:=!(aB a.c7 (-1));let q:=!(aB a.c0 (-1));let r:=!(aB a.c1 (-1));let s:=!(aB a.c9 (-1));let t:=!(aB a.c8 (-1));let c:Prop:=(∃z:Nat,u (ay .i64 (x:Int) 1=(z:Int)/\(Iv ((z<=b/\mf y z)/\(b-z)<(b-x)))));let d:Prop:=(aj (aw a.c9 (-1)) (false=gF y/\True) (aj (aw y.z a.c9) (false=gF y/\True) (aj (!a.done) (aj s (false=gF y/\True) (c)) (c))));let e:Prop:=(aj (aw a.c8 (-1)) (false=gF y/\True) (aj (aw y.z a.c8) (false=gF y/\True) (aj (!a.done) (aj t (false=gF y/\True) (d)) (d))));let f:Prop:=(aj (aw a.c7 (-1)) (false=gF y/\True) (aj (aw y.z a.c7) (false=gF y/\True) (aj (!a.done) (aj o (false=gF y/\True) (e)) (e))));let g:Prop:=(aj (aw a.c6 (-1)) (false=gF y/\True) (aj (aw y.z a.c6) (false=gF y/\True) (aj (!a.done) (aj C (false=gF y/\True) (f)) (f))));let h:Prop:=(aj (aw a.c5 (-1)) (false=gF y/\True) (aj (aw y.z a.c5) (false=gF y/\True) (aj (!a.done) (aj w (false=gF y/\True) (g)) (g))));let i:Prop:=(aj (aw a.c4 (-1)) (false=gF y/\True) (aj (aw y.z a.c4) (false=gF y/\True) (aj (!a.done) (aj A (false=gF y/\True) (h)) (h))));let j:Prop:=(aj (aw a.c3 (-1)) (false=gF y/\True) (aj (aw y.z a.c3) (false=gF y/\True) (aj (!a.done) (aj D (false=gF y/\True) (i)) (i))));let k:Prop:=(aj (aw a.c2 (-1)) (false=gF y/\True) (aj (aw y.z a.c2) (false=gF y/\True) (aj (!a.done) (aj B (false=gF y/\True) (j)) (j))));let m:Prop:=(aj (aw a.c1 (-1)) (false=gF y/\True) (aj (aw y.z a.c1) (false=gF y/\True) (aj (!a.done) (aj r (false=gF y/\True) (k)) (k))));(Iv (x<=b/\mf y x))->aj (aw (x:Int) q1) (aG 0 (x:Int)/\aw (x:Int) q1/\aj v (false=gF y/\True) (aj (aw a.c0 (-1)) (false=gF y/\True) (aj (aw y.z a.c0) (false=gF y/\True) (aj (!a.done) (aj q (false=gF y/\True) (m)) (m))))) (true=gF y/\True)))
theorem Qlv (y:Dh) (_:True):L6 y:=by
 grind [L6,fb]
def Qlw:Ok OT:=okZ [] f66 (λ_=>dY ()) trivial Qlv
theorem y6 (y:OU):gF y=(decide ((y.l.length:Int)=y.n)&&mf y y.l.length):=aC _
theorem L7 {y:OU}:∀{n k:Nat},k<=n->mf y n->mf y k
 | 0,k,h,e=>by
  obtain rfl:k=0:=ω;exact e
 | n+1,k,h,e=>by
  rw[mf,ZaW] at e;by_cases hk:k=n+1
  ·grind [mf]
  ·exact L7 ω e.1
theorem QcW {y:OU} {x:Nat} (a:x<y.l.length) (h:OV y x=false):false=gF y:=by
 rw[y6];cases e:mf y y.l.length with
 | false=>simp
 | true=>
  have:=L7 (show x+1<=y.l.length by omega) e;grind [mf]
def L8 (c z:Int) (d:Bool):Bool:=decide (-1<=c)&&decide (c<=z)&&(d||decide (c= -1))
theorem Qaq {c z:Int} {d:Bool} {A q:Prop} (h1:L8 c z d=false->A) (a:L8 c z d->q):aj (aw c (-1)) (A/\True) (aj (aw z c) (A/\True) (aj (!d) (aj (!(aB c (-1))) (A/\True) q) q)):=by
 grind [L8]
theorem Qtk (y:OU) (c:OW.pre y):WI y:=by
 replace c:y.l.length<=1000:=c;unfold WI;rw[pd];refine⟨λk=>?_,λk=>⟨?_,λx g=>?_⟩⟩
 ·grind [y6]
 ·simp only[dw,kU];exact⟨0,rfl,Zaj _,rfl⟩
 ·simp only[kU] at g;rw[pd];refine⟨λh=>?_,λh=>?_⟩
  ·simp only[dA,au] at h;have b:x<y.l.length:=ω;have i:OV y x=false->false=gF y:=QcW b;have f:OV y x->mf y (x+1):=λe=>by grind [mf]
   have a:(⟨false,0,0,0,0,0,0,0,0,0,0,[]⟩:dd)=fu:=rfl;have hu:OV y x=(decide ((y.l.getD x fu).aJ.length=0)&&edC (y.l.getD x fu).done y.z (OO (y.l.getD x fu))):=rfl;have hi:ay .i64 (x:Int) 1=((x+1:Nat):Int):=ba ω ω;simp only[a,dq,Zad,dw,kU,fm,dA,au,hi];generalize y.l.getD x fu=t at*
   have d:edC t.done y.z (OO t)=(L8 t.c0 y.z t.done&&L8 t.c1 y.z t.done&&L8 t.c2 y.z t.done&&L8 t.c3 y.z t.done&&L8 t.c4 y.z t.done&&L8 t.c5 y.z t.done&&L8 t.c6 y.z t.done&&L8 t.c7 y.z t.done&&L8 t.c8 y.z t.done&&L8 t.c9 y.z t.done):=by
    simp[edC,OO,oz,L8,Bool.and_assoc]
   rw[d] at hu;refine⟨ω,h,?_⟩;rw[pd];grind [Qaq]
  ·grind [y6]
def Qlx:Ok OW:=okZ [] f67 Qti trivial Qtk
end
end sx
namespace sx
open Go Go.RowKit cls syn
end sx
set_option maxRecDepth 100000
set_option maxHeartbeats 4000000
namespace sx
noncomputable section
open Go Go.RowKit cls syn
def Qar:bh D:=⟨68,j8,Τ,λ_=>True,λ_=>[.ptr 0 0],IU,λy=>Qvo (ag y.s.r),IU,3,3⟩
structure zl where
 ru:j8
 st:VE
 a8:Dh
 aH:Dh
 aZ:Dh
def OX (p:iC) (s:Dh):C5:=⟨⟨p,s.m,s.L⟩,s.h⟩
def Di (y:zl):Int:=if y.st.ch=true then 0 else cx .i64 y.st.pos y.st.bN
def wsT (p:iC) (s:Dh) (n:Int):Bool:=mc (OX p s,n)
def Pl (y:zl):Bool:=!(aw y.st.bN 0||aw y.st.pos y.st.bN||aw 1099511627776 y.st.pos||!(y.st.ch==aw 200 (cx .i64 y.st.pos y.st.bN)))
def wsM (y:zl):Bool:=wsT y.ru.p y.aH (Di y)&&(if jnR y.ru=true then wsT y.ru.q y.aZ (Di y) else fb y.aZ)
def WJ (y:zl):Bool:=if y.st.jH=false then aB y.st.bj 0&&aB y.st.size 0&&aB (ag y.st.aS) 0&&fb y.a8
   else jnR y.ru&&!y.st.ch&&aG 0 y.st.size&&aG y.st.size 500&&aG 0 y.st.bj&&aB y.st.bj (cx .i64 (cx .i64 y.st.bN y.st.size) 1)&&gF ⟨y.st.aS,ag y.ru.s.r,y.st.size⟩&&wsT y.ru.p y.a8 (ay .i64 (ay .i64 y.st.size 1) (Di y))
def ny (y:zl):Bool:=lk (Pl y&&wsM y&&WJ y)
def WK (y:zl):Prop:=FM (OX y.ru.p y.aH)/\FM (OX y.ru.p y.a8)/\XG y.ru.q/\(jnR y.ru->FM (OX y.ru.q y.aZ))/\y.st.aS.length<=1000
def wsA (y:zl):AV D.E:=Qkw y.st (XN y.a8) (XN y.aH) (XN y.aZ)
def Qtm (r x:AV D.E) (s:St D.E):C zl:=az (Qfx r s) λr=>az (asAgg x) λcs=>match cs with
  | [p,l,g,o,e,z,n,h1,p1,h,b,p2,i,f,p3,j]=>aP (cT p) λ_ p=>aP (cT l) λ_ l=>aP (zh g) λg _=>aP (zh o) λo _=>aP (cT e) λ_ e=>aP (cT z) λ_ z=>az (aL D s 2 n) λn=>az (zS h1 p1 h s) λc=>az (zS b p2 i s) λa=>az (zS f p3 j s) λd=>.ret ⟨r,⟨p,l,g,o,e,z,n⟩,c,a,d⟩
  | _=>.fail
def Qas:bh D:=⟨24,zl,λa s=>match a with
 | [r,x]=>Qtm r x s
 | _=>.fail,WK,λy=>[.ptr 0 0,wsA y],λy=>IU y.ru,λy=>.bool (ny y),λy=>IU y.ru,3,3⟩
def QcY (y:j8):Prop:=aa [ag y.s.r] (sQ y (True))
abbrev RA2 (v:Dh) (p:Prop):Prop:=aa [v.h] (aa [v.m] (aa [v.L] p))
abbrev RA9 (v:zl) (p:Prop):Prop:=aa [v.st.aS] (aa [v.st.aS] (aa [v.st.size] (aa [v.st.size] p)))
def WL (y:zl):Prop:=let B:=ag y.ru.s.r;let q1:=aw y.st.pos y.st.bN;let i:=!(seq y.ru.s.c []);let j:=cx .i64 y.st.pos y.st.bN;let C:=aw 500 y.st.size;let H:=aw 1099511627776 y.st.pos;let D:=ay .i64 y.st.size 1;let E:=aB (ag y.st.aS) 0;let w:=C5.mk (oN.mk y.ru.p y.a8.m y.a8.L) y.a8.h;let x:=C5.mk (oN.mk y.ru.q y.aZ.m y.aZ.L) y.aZ.h;let e:=C5.mk (oN.mk y.ru.p y.aH.m y.aH.L) y.aH.h;let k:=gF (OU.mk y.st.aS B y.st.size);let l:=ay .i64 D 0;let z:=!(oD y.st.ch (aw 200 j));let n:=!(aB y.st.bj (cx .i64 (cx .i64 y.st.bN y.st.size) 1));let o:=ay .i64 D j;let A:=!(mc (e,j));let f:=λp:Prop=>RA2 y.aH (RA2 y.aH (RA3 y.ru.q (RA2 y.aZ p)));let t:=λp:Prop=>RA2 y.aZ (RA2 y.aH (RA2 y.aH (RA2 y.aZ p)));let g:=λp:Prop=>RA2 y.aH (RA2 y.aH p);let u:=λp:Prop=>RAJ y.st.aS B y.st.size p;let v:=λp:Prop=>RA2 y.aZ (RA2 y.aH (RA2 y.aH (RA3 y.ru.q (RA2 y.aZ (RA2 y.aZ p)))));let a:Prop:=(false=ny y/\sQ y.ru (True));let I:=aj (aB y.st.bj 0) (aj (aB y.st.size 0) (aj E (Iv True/\RA2 y.a8 (fb y.a8=ny y/\sQ y.ru (True))) (a)) (a)) (a);let b:Prop:=(aj (!y.st.jH) I (aj (!i) (a) (aj y.st.ch (a) (aj (aw y.st.size 0) (a) (aj C (a) (aj (aw y.st.bj 0) (a) (aj n (a) (Iv True/\sQ y.ru (Iv (y.st.aS.length<=1000)/\u (aj k (Iv (Oy y.ru)/\sQ y.ru (Iv (FM w)/\RA3 y.ru.p (RA2 y.a8 (RAH l (RA9 y (RA2 y.a8 (RA2 y.a8 (RAI y.st.size y.st.size (mc (w,l)=ny y/\sQ y.ru (True)))))))))) (RA9 y (a))))))))))));let d:Prop:=(aj (!y.st.jH) I (aj (!i) (a) (aj y.st.ch (a) (aj (aw y.st.size 0) (a) (aj C (a) (aj (aw y.st.bj 0) (a) (aj n (a) (Iv True/\sQ y.ru (Iv (y.st.aS.length<=1000)/\u (aj k (Iv (Oy y.ru)/\sQ y.ru (Iv (FM w)/\RA3 y.ru.p (RA2 y.a8 (RAH o (RA9 y (RA2 y.a8 (RA2 y.a8 (RAI y.st.size y.st.size (mc (w,o)=ny y/\sQ y.ru (True)))))))))) (RA9 y (a))))))))))));let F:Prop:=(RA2 y.aZ (aj (!(fb y.aZ)) (a) (b)));let G:Prop:=(RA2 y.aZ (aj (!(fb y.aZ)) (a) (d)));aj (aw y.st.bN 0) (a) (aj q1 (a) (aj H (a) (aj z (a) (aj y.st.ch (Iv (Υ y.ru)/\sQ y.ru (Iv (Oy y.ru)/\sQ y.ru (Iv (FM e)/\RA3 y.ru.p (RA2 y.aH (RAD (aj (!(mc (e,0))) (g (a)) (aj i (Iv (FM x)/\aa [y.ru.q.af] (aa [y.ru.q.av] (aa [y.aZ.h] (aa [y.aZ.m] (aa [y.aZ.L] (aa ([0]:List Int) (aj (!(mc (x,0))) (f (a)) (aj (!i) (Iv True/\v (aj (!(fb y.aZ)) (a) (b))) (f (b)))))))))) (aj (!i) (Iv True/\t (aj (!(fb y.aZ)) (a) (b))) (g (b)))))))))) (Iv (Υ y.ru)/\sQ y.ru (Iv (Oy y.ru)/\sQ y.ru (Iv (FM e)/\RA3 y.ru.p (RA2 y.aH (RAH j (aj A (g (a)) (aj i (Iv (FM x)/\aa [y.ru.q.af] (aa [y.ru.q.av] (aa [y.aZ.h] (aa [y.aZ.m] (aa [y.aZ.L] (aa [j] (aj (!(mc (x,j))) (f (a)) (aj (!i) (Iv True/\v (aj (!(fb y.aZ)) (a) (d))) (f (d)))))))))) (aj (!i) (Iv True/\t (aj (!(fb y.aZ)) (a) (d))) (g (d))))))))))))))
def Qly:Ok Qar:=okZ (V:=QcY) [] f68 (λ_=>dY ()) trivial λ(y:j8) _=>by
 unfold QcY;simp only[dw,j9]
theorem WM (a b:Int):aG a b=!(aw b a):=by
 grind
theorem Qto (y:zl) (h:WK y):WL y:=by
 have⟨h1,b,e,a,i⟩:=h;have l:Oy y.ru:=h1.1.pg;have d:ny y=_:=aC _;unfold WL;simp only[gz,j9,kU];unfold Pl wsM WJ wsT Di OX at d;unfold OX at h1 b a;have g:jnR y.ru=!(seq y.ru.s.c []):=rfl;rw[g] at d a;generalize ny y=W at*
 subst d;have j:=h1;have k:=b;have m:Υ y.ru:=e;have f:=a;clear h1 b e a
 with_reducible repeat' first | assumption | apply And.intro | intro _
 all_goals first | (exact f (by assumption)) | (simp_all;done) | skip
 all_goals simp_all [oD,WM]
def Qlz (a:Ok dB):Ok Qas:=okZ [Χ,ϊ,Qar,WE,OT,OW] f24 (λ_=>dY ()) ⟨Qks,Qkt,Qly,Qlu a,Qlw,Qlx⟩ Qto
def wtA (y:zO):Int->Bool:=LC y.p.af (lJ y.p.af (Ϗ y)) y.p.af.length λk=>if k=Ϗ y then true else false
def XO (y:zO) (s:List Bool) (k:Int):Bool:=wtA y k&&!(s.getD k.toNat false)
def Pn (y:oN) (k:Nat):zO:=⟨y.p,k,y.L.getD k fu,y.m⟩
def dwI (y:oN) (k:Nat) (x:List Bool×Nat):Prop:=k<y.L.length/\gh y k/\x.2<=(y.L.getD k fu).aJ.length/\x.1.length=y.p.af.length/\uS y k=XL y.m ((y.L.getD k fu).aJ.drop x.2) (XO (Pn y k) x.1)
def mcO (y:oN):Nat×AO D.E:=(1,.cells [.int .i64 y.m,.list 2 y.L] 31 false)
def WN:bh D:={ OP with f:=160 }
def Qtp (y:WN.Y):cH D:=⟨[],[10],[(58,⟨Nat,[],λk=>[(2,.ptr 0 0),(3,.ptr 1 0),(5,Qvo k)],[],λ_=>[SU (oN.p y),mcO y],2,λk=>k<=(oN.L y).length/\gh y k,λk=>(oN.L y).length-k⟩)],[],1,
 [(59710,⟨Nat,λk=>⟨List Bool×Nat,[5,7],λx=>[(2,.ptr 0 0),(3,.ptr 1 0),(6,.ptr 2 0),(8,.own 3 1 (ag x.1)),(9,Qvo x.2)],[],λx=>[SU (oN.p y),mcO y,(2,.cells (D.a_ 2 ((oN.L y).getD k fu)) 106 false),(3,.arr 17 x.1 4 false)],4,dwI y k,λx=>((oN.L y).getD k fu).aJ.length-x.2⟩,none⟩)]⟩
def Qaw:bh D:={ WD with f:=98 }
def QlA:bh D:={ WE with f:=55 }
def QlB:bh D:={ OT with f:=56 }
def XP (y:j8):List (Nat×AO D.E):=[ruO 0 y.s ⟨y.p.af,y.p.av,y.q.af,y.q.av,0,0⟩]
def QfM (v:AV D.E) (s:St D.E):C j8:=match v with
 | .ptr b _=>az (cR (s.h.get b)) λo=>match o with
  | .cells cs _ _=>match cs with
   | [r,c,p,q,a,b,_]=>az (aL D s 3 r) λr=>az (fY c) λc=>az (aL D s 8 p) λp=>az (aL D s 5 q) λq=>az (aL D s 8 a) λa=>az (aL D s 5 b) λb=>.ret ⟨⟨r,c⟩,⟨p,q⟩,⟨a,b⟩,[]⟩
   | _=>.fail
  | _=>.fail
 | _=>.fail
structure DnY where
 r:j8
 l:List dd
 z:Int
variable {y:oN} {k:Nat} {i:Int} {s:List Bool}
def oA (y:DnY):OU:=⟨y.l,ag y.r.p.av,y.z⟩
def WO:bh D:=⟨57,DnY,λa s=>match a with
 | [r,l,z]=>az (QfM r s) λr=>az (aL D s 2 l) λl=>aP (cT z) λ_ z=>.ret ⟨r,(l:List dd),z⟩
 | _=>.fail,λy=>y.l.length<=1000,λy=>[.ptr 0 0,.list 2 y.l,Qvo y.z],λy=>XP y.r,λy=>.bool (gF (oA y)),λy=>XP y.r,1,1⟩
def Qts (y:WO.Y):cH D:=⟨[],[],[(58,⟨Nat,[0,1,2],λk=>[(7,Qvo k)],[],λ_=>XP (DnY.r y),1,λk=>k<=(DnY.l y).length/\mf (oA y) k,λk=>(DnY.l y).length-k⟩)],[],11,[]⟩
def Qtu (r x:AV D.E) (s:St D.E):C zl:=az (QfM r s) λr=>az (asAgg x) λcs=>match cs with
  | [p,l,g,o,e,z,n,h1,p1,h,b,p2,i,f,p3,j]=>aP (cT p) λ_ p=>aP (cT l) λ_ l=>aP (zh g) λg _=>aP (zh o) λo _=>aP (cT e) λ_ e=>aP (cT z) λ_ z=>az (aL D s 2 n) λn=>az (zS h1 p1 h s) λc=>az (zS b p2 i s) λa=>az (zS f p3 j s) λd=>.ret ⟨r,⟨p,l,g,o,e,z,n⟩,c,a,d⟩
  | _=>.fail
def y7 (y:zl):Prop:=WK y/\y.ru.p.av.length=y.ru.s.r.length
def WQ:bh D:=⟨20,zl,λa s=>match a with
 | [r,x]=>Qtu r x s
 | _=>.fail,y7,λy=>[.ptr 0 0,wsA y],λy=>XP y.ru,λy=>.bool (ny y),λy=>XP y.ru,1,1⟩
def wsO (y:zl):Nat×AO D.E:=(1,.cells ([.int .i64 y.st.pos,.int .i64 y.st.bN,.bool y.st.ch,.bool y.st.jH,.int .i64 y.st.bj,.int .i64 y.st.size,.list 2 y.st.aS]++XN y.a8++XN y.aH++XN y.aZ) 35 false)
def wsE (y:zl):Prop:= -9223372036854775808<=y.st.bj/\y.st.bj<=9223372036854775807
def QlC (y:zl) (p:Prop):iH D:=⟨Unit,[0],λ_=>[(3,.ptr 1 0),(5,.int .i64 (Di y))],[],λ_=>XP y.ru++[wsO y],2,λ_=>p,λ_=>0⟩
def Qtv (y:WQ.Y):cH D:=⟨[(0,.fact 1)],[],[],[(15,QlC y (Pl y/\wsE y)),(31,QlC y (Pl y/\wsM y/\wsE y))],1,[]⟩
def Jv (s:Int):Int:=if aB (lF .u32 s 1) 1=true then F_ .u32 (oC .u32 s 1) 2197175160 else oC .u32 s 1
def WR:Nat->Int->Int
 | 0,s=>s
 | n+1,s=>WR n (Jv s)
def tY (s:Int) (l:By):Nat->Int
 | 0=>s
 | k+1=>WR 8 (F_ .u32 (tY s l k) (jP .u32 ((l.getD k 0).toNat:Int)))
def vH (y:Int×By):Int:=zm .u32 (tY (zm .u32 y.1) y.2 y.2.length)
def Qtx (a:List (AV D.E)) (s:St D.E):C (Int×By):=match a with
 | [c,l]=>aP (cT c) λ_ c=>az (aL D s 0 l) λl=>.ret (c,(l:By))
 | _=>.fail
def Jw:bh D:=bO 85 (Int×By) Qtx (λy=>y.2.length<=1000000000000) (λy=>[.int .u32 y.1,.list 0 y.2]) λy=>.int .u32 (lk (vH y))
def vI (y:Int×By) (k:Nat) (x:Nat×Int):Prop:=k<y.2.length/\x.1<=8/\0<=x.2/\WR (8-x.1) x.2=tY (zm .u32 y.1) y.2 (k+1)
def Qty (y:Jw.Y):cH D:=⟨[],[],[(58,⟨Nat,[11,12],λk=>[(5,.int .u32 (tY (zm .u32 (Prod.fst (α:=Int) y)) (Prod.snd (α:=Int) y) k)),(13,Qvo k)],[],λ_=>[],0,λk=>k<=(Prod.snd (α:=Int) (β:=By) y).length,λk=>(Prod.snd (α:=Int) (β:=By) y).length-k⟩)],[],1,
 [(29902,⟨Nat,λk=>⟨Nat×Int,[11,12,13],λx=>[(5,.int .u32 x.2),(21,Qvo x.1)],[],λ_=>[],0,vI y k,λx=>8-x.1⟩,none⟩)]⟩
def WS:bh D:={ Jw with f:=89 }
def QtA (y:WS.Y):cH D:=⟨[],[],[(58,⟨Nat,[1],λk=>[(5,.int .u32 (tY (zm .u32 (Prod.fst (α:=Int) y)) (Prod.snd (α:=Int) y) k)),(6,Qvo k)],[],λ_=>[],0,λk=>k<=(Prod.snd (α:=Int) (β:=By) y).length,λk=>(Prod.snd (α:=Int) (β:=By) y).length-k⟩)],[],1,
 [(7462,⟨Nat,λk=>⟨Nat×Int,[1,6],λx=>[(5,.int .u32 x.2),(7,Qvo x.1)],[],λ_=>[],0,vI y k,λx=>8-x.1⟩,none⟩)]⟩
def Jx (b:By) (p:iX):By:=gf (gf b p.name) p.text
def iB (b:By) (l:List iX) (k:Nat):By:=(l.take k).foldl Jx (a7 b l.length)
def nr (b:By) (s:cj):By:=gf (iB b s.r s.r.length) s.c
def eO:List iX->Nat
 | []=>0
 | p::l=>p.name.length+p.text.length+20+eO l
def QtC (a:List (AV D.E)) (s:St D.E):C (By×iX):=match a with
 | [b,p]=>az (aL D s 0 b) λb=>az (asAgg p) λcs=>match cs with
  | [n,t]=>az (fY n) λn=>az (fY t) λt=>.ret ((b:By),⟨n,t⟩)
  | _=>.fail
 | _=>.fail
def tk0:List (Nat×AO D.E):=[(0,.tok 0 5)]
def Qax:bh D:=⟨135,By×iX,QtC,λy=>y.1.length+eO [y.2]<=536870912,λy=>[.list 0 y.1,.agg [.str y.2.name,.str y.2.text]],λ_=>[],λy=>.grow 0 (Jx y.1 y.2) 0,λ_=>tk0,0,1⟩
def WT:bh D:=⟨134,By×List iX,λa s=>match a with
 | [b,l,_]=>az (aL D s 0 b) λb=>az (aL D s 3 l) λl=>.ret ((b:By),(l:List iX))
 | _=>.fail,λy=>y.1.length+10+eO y.2<=536870912,λy=>[.list 0 y.1,.list 3 y.2,.func (.func 135) [] []],λ_=>[],λy=>.grow 0 (iB y.1 y.2 y.2.length) 0,λ_=>tk0,0,1⟩
def QtE (y:WT.Y):cH D:=⟨[],[],[(58,⟨Nat,[2,14,15],λk=>[(7,.grow 0 (iB (Prod.fst (α:=By) y) (Prod.snd (β:=List iX) y) k) 0),(16,Qvo k)],[],λ_=>tk0,1,λk=>k<=(Prod.snd (α:=By) (β:=List iX) y).length,λk=>(Prod.snd (α:=By) (β:=List iX) y).length-k⟩)],[],1,[]⟩
def psW (y:By×cj):Prop:=y.1.length+30+eO y.2.r+y.2.c.length<=536870912
def QlD (a:List (AV D.E)) (s:St D.E):C (By×cj):=match a with
 | [b,x]=>az (aL D s 0 b) λb=>az (Lx [x] s) λx=>.ret ((b:By),x)
 | _=>.fail
def WU:bh D:=⟨83,By×cj,QlD,psW,λy=>[.list 0 y.1,CM y.2],λ_=>[],λy=>.grow 0 (nr y.1 y.2) 0,λ_=>tk0,0,1⟩
def WV:bh D:={ WU with f:=88 }
def QtI (y:WV.Y):cH D:=⟨[],[],[(58,⟨Nat,[],λk=>[(3,.ptr 0 0),(0,.grow 0 (iB (Prod.fst (α:=By) y) (Prod.snd (α:=By) (β:=cj) y).r k) 1),(5,Qvo k)],[],λ_=>[dsO (Prod.snd (α:=By) (β:=cj) y),(1,.tok 0 5)],2,λk=>k<=(Prod.snd (α:=By) (β:=cj) y).r.length,λk=>(Prod.snd (α:=By) (β:=cj) y).r.length-k⟩)],[],1,[]⟩
def L9 (y:Int×(List UInt8)):Prop:=let c:=y.2.length;let q1:=zm .u32 y.1;let d:=ag y.2;(∃z:Nat,aa [y.2] (aa [d] (q1=tY q1 y.2 z/\0=(z:Int)/\(Iv (z<=c)))))/\(∀x:Nat,let e:=λp:Prop=>aa [y.2] (aa [d,(x:Int)] p);(Iv (x<=c))->aj (aw (x:Int) d) (aG 0 (x:Int)/\aw (x:Int) d/\∃z:Nat,(∃a:Nat×Int,e (F_ .u32 (tY q1 y.2 x) (jP .u32 ((gt 0 y.2 (x:Int).toNat).toNat:Int))=a.2/\0=(a.1:Int)/\(Iv (vI y z a))))/\(∀b:Nat×Int,let f:=aw (b.1:Int) 8;let g:=aB (lF .u32 b.2 1) 1;(Iv (vI y z b))->aj f (Tt 1 (aG 0 b.2/\aj g (∃a:Nat×Int,e (F_ .u32 (oC .u32 b.2 1) 2197175160=a.2/\ay .i64 (b.1:Int) 1=(a.1:Int)/\(Iv (vI y z a/\(8-a.1)<(8-b.1))))) (∃a:Nat×Int,e (oC .u32 b.2 1=a.2/\ay .i64 (b.1:Int) 1=(a.1:Int)/\(Iv (vI y z a/\(8-a.1)<(8-b.1))))))) (∃a:Nat,aa [y.2] (aa [d] (b.2=tY q1 y.2 a/\ay .i64 (x:Int) 1=(a:Int)/\(Iv (a<=c/\(c-a)<(c-x)))))))) (zm .u32 (tY q1 y.2 x)=lk (vH y)/\True))
def WW (y:Int×(List UInt8)):Prop:=let c:=y.2.length;let q1:=zm .u32 y.1;(∃z:Nat,aa [y.2] (q1=tY q1 y.2 z/\0=(z:Int)/\(Iv (z<=c))))/\(∀x:Nat,let e:=aw (x:Int) (ag y.2);let d:=λp:Prop=>aa [y.2] (aa [(x:Int)] p);(Iv (x<=c))->aj e (aG 0 (x:Int)/\e/\∃z:Nat,(∃a:Nat×Int,d (F_ .u32 (tY q1 y.2 x) (jP .u32 ((gt 0 y.2 (x:Int).toNat).toNat:Int))=a.2/\0=(a.1:Int)/\(Iv (vI y z a))))/\(∀b:Nat×Int,let f:=aw (b.1:Int) 8;let g:=aB (lF .u32 b.2 1) 1;(Iv (vI y z b))->aj f (aj g (Tt 1 (aG 0 b.2/\∃a:Nat×Int,d (F_ .u32 (oC .u32 b.2 1) 2197175160=a.2/\ay .i64 (b.1:Int) 1=(a.1:Int)/\(Iv (vI y z a/\(8-a.1)<(8-b.1)))))) (Tt 1 (aG 0 b.2/\∃a:Nat×Int,d (oC .u32 b.2 1=a.2/\ay .i64 (b.1:Int) 1=(a.1:Int)/\(Iv (vI y z a/\(8-a.1)<(8-b.1))))))) (∃a:Nat,aa [y.2] (b.2=tY q1 y.2 a/\ay .i64 (x:Int) 1=(a:Int)/\(Iv (a<=c/\(c-a)<(c-x))))))) (zm .u32 (tY q1 y.2 x)=lk (vH y)/\True))
def Qc0 (y:(List UInt8)×iX):Prop:=let a:=gf y.1 y.2.name;Iv (y.1.length<=536870912/\y.2.name.length<=536870912)/\aa [y.1] (aa [y.2.name] (Iv (a.length<=536870912/\y.2.text.length<=536870912)/\aa [a] (aa [y.2.text,y.2.name,y.2.text,y.2.text] (gf a y.2.text=Jx y.1 y.2/\True))))
def Qc1 (y:(List UInt8)×(List iX)):Prop:=let a:=ag y.2;let q1:=y.2.length;Iv (y.1.length<=1073741824)/\aa [y.1] (aa [a] ((∃z:Nat,aa [y.2] (aa [a] (a7 y.1 a=iB y.1 y.2 z/\0=(z:Int)/\(Iv (z<=q1)))))/\(∀x:Nat,let b:=iB y.1 y.2 x;let c:=gt (iX.mk [] []) y.2 (x:Int).toNat;(Iv (x<=q1))->aj (aw (x:Int) a) (aG 0 (x:Int)/\aw (x:Int) a/\Iv ((b.length+eO [c])<=536870912)/\aa [b] (aa [c.name,c.text] (∃z:Nat,aa [y.2] (aa [a] (Jx b c=iB y.1 y.2 z/\ay .i64 (x:Int) 1=(z:Int)/\(Iv (z<=q1/\(q1-z)<(q1-x)))))))) (b=iB y.1 y.2 q1/\True))))
def Qc2 (y:(List UInt8)×cj):Prop:=let a:=iB y.1 y.2.r y.2.r.length;Iv (((y.1.length+10)+eO y.2.r)<=536870912)/\aa [y.1] (aa [y.2.r] (Iv (a.length<=536870912/\y.2.c.length<=536870912)/\aa [a,y.2.c] (gf a y.2.c=nr y.1 y.2/\True)))
def Qc3 (y:(List UInt8)×cj):Prop:=let d:=y.2.r.length;let q1:=ag y.2.r;Iv (y.1.length<=1073741824)/\aa [y.1] (aa [q1] ((∃z:Nat,a7 y.1 q1=iB y.1 y.2.r z/\0=(z:Int)/\aa [y.2.r] (aa [y.2.c] ((Iv (z<=d)))))/\(∀x:Nat,let b:=iB y.1 y.2.r x;let a:=gt (iX.mk [] []) y.2.r (x:Int).toNat;let e:=gf b a.name;(Iv (x<=d))->aj (aw (x:Int) q1) (aG 0 (x:Int)/\aw (x:Int) q1/\Iv (b.length<=536870912/\a.name.length<=536870912)/\aa [b] (aa [a.name] (aG 0 (x:Int)/\aw (x:Int) q1/\Iv (e.length<=536870912/\a.text.length<=536870912)/\aa [e] (aa [a.text] (aa [y.2.r] (aa [a.name] (aa [y.2.r,y.2.r] (aa [a.text,a.text] (∃z:Nat,gf e a.text=iB y.1 y.2.r z/\ay .i64 (x:Int) 1=(z:Int)/\aa [y.2.r] (aa [y.2.c] ((Iv (z<=d/\(d-z)<(d-x)))))))))))))) (Iv (b.length<=536870912/\y.2.c.length<=536870912)/\aa [b,y.2.c] (gf b y.2.c=nr y.1 y.2/\True)))))
def WX (y:oN):Prop:=let i:=y.L.length;let q1:=ag y.p.af;let C:=ag y.p.av;let E:=aw 1099511627776 y.m;let F:=!(aB (ag y.L) C);let B:=λp:Prop=>RAI y.m y.L (RA3 y.p p);let G:=dd.mk false 0 0 0 0 0 0 0 0 0 0 [];Iv (F5 y.p)/\RA3 y.p (aj (aw y.m 0) (false=gX y/\True) (aj E (false=gX y/\True) (aj F (false=gX y/\True) ((∃z:Nat,0=(z:Int)/\B ((Iv (z<=i/\gh y z))))/\(∀x:Nat,let D:=aw (x:Int) (ag y.L);let w:=lJ y.p.af (vG (y.p,(x:Int)));let o:=gt 0 y.p.av (x:Int).toNat;let b:=gt G y.L (x:Int).toNat;let r:=!(fq (aX.mk 0 b.c0 b.c1 b.c2 b.c3 b.c4 b.c5 b.c6 b.c7 b.c8 b.c9) y.m);let s:=!((aB b.c0 (-1))&&((aB b.c1 (-1))&&((aB b.c2 (-1))&&((aB b.c3 (-1))&&((aB b.c4 (-1))&&((aB b.c5 (-1))&&((aB b.c6 (-1))&&((aB b.c7 (-1))&&((aB b.c8 (-1))&&(aB b.c9 (-1)))))))))));let q:=λp:Prop=>aa [(x:Int)] (aa [w] p);let n:Prop:=(Iv (Qae (y.p,(x:Int)))/\aa [y.p.af] (aa [y.p.av] (aa [(x:Int)] (aG 0 q1/\aG q1 q1/\bJ q1 1/\∃z:Nat,let c:=List.getD y.L z G;let j:=c.aJ.length;let A:=λp:Prop=>aa [c.aJ] (aa [y.m] (aa [y.L] (aa [y.p.af] (aa [y.p.av] p))));(∃e:(List Bool)×Nat,q (ag (oF q1 false)=ag e.1/\0=(e.2:Int)/\oF q1 false=e.1/\b.done=c.done/\EwC b c (b.aJ=c.aJ/\B ((Iv (dwI y z e))))))/\(∀g:(List Bool)×Nat,let f:=(g.2:Int);let k:=aw f (ag c.aJ);let a:=gt (aX.mk 0 0 0 0 0 0 0 0 0 0 0) c.aJ f.toNat;let d:=cx .i64 a.pc 1;let t:=gt false g.1 a.pc.toNat;let h:=gt false w d.toNat;let u:=!(aB (gt (aW.mk 0 0 0 []) y.p.af d.toNat).op 1);let v:=!(fq (aX.mk 0 a.c0 a.c1 a.c2 a.c3 a.c4 a.c5 a.c6 a.c7 a.c8 a.c9) y.m);let l:Prop:=(aG 0 a.pc/\aw a.pc (ag g.1)/\∃e:(List Bool)×Nat,q (ag g.1=ag e.1/\ay .i64 f 1=(e.2:Int)/\cS g.1 a.pc.toNat true=e.1/\aa [c.done] (SY c (A ((Iv (dwI y z e/\(j-e.2)<(j-g.2))))))));(Iv (dwI y z g))->aj k (aG 0 f/\k/\aj (aw a.pc 0) (false=gX y/\True) (aj (aG q1 a.pc) (false=gX y/\True) (aG 0 a.pc/\aw a.pc (ag g.1)/\aj t (false=gX y/\True) (Iv True/\RwH a (aa [y.m] (aj v (false=gX y/\True) (aG 0 (x:Int)/\aw (x:Int) C/\aj (!(aB a.pc o)) (aj (aB a.pc 0) (aa [a.pc] (aa [y.p.av] (aa [o,a.pc] (false=gX y/\True)))) (aG 0 d/\aw d (ag w)/\aj (!h) (aa [a.pc] (aa [y.p.av] (aa [o,a.pc,a.pc] (aa [h] (false=gX y/\True))))) (aG 0 d/\aw d q1/\aa [a.pc] (aa [y.p.av] (aa [o,a.pc,a.pc] (aa [h] (aa [y.p.af] (aa [a.pc,(gt (aW.mk 0 0 0 []) y.p.af d.toNat).op] (aj u (false=gX y/\True) (l)))))))))) (aa [a.pc] (aa [y.p.av] (aa [o] (l))))))))))) (∃e:Nat,ay .i64 (x:Int) 1=(e:Int)/\B ((Iv ((e<=i/\gh y e)/\(i-e)<(i-x))))))))));(Iv (x<=i/\gh y x))->aj D (aG 0 (x:Int)/\D/\Iv True/\SY b (aa [y.m] (aj r (SY b (aa [y.m] (false=gX y/\True))) (aj (!b.done) (Iv True/\SY b (aa [y.m] (aa [b.done] (SY b (SY b (aj s (false=gX y/\True) (n))))))) (SY b (aa [y.m] (aa [b.done] (n)))))))) (true=gX y/\True))))))
def Qc4 (y:C5):Prop:=Iv (sZ y.v)/\RA3 y.v.p (RAI y.v.m y.v.L (aj (gX y.v) (aj (aB (ag y.h) 0) (true=XM y/\True) (Iv True/\aa [y.h] (ji y.h=XM y/\True))) (false=XM y/\True)))
def WZ (y:DnY):Prop:=let d:=y.l.length;let q1:=ag y.l;let g:=!(seq y.r.s.c []);let j:=!(aB q1 (ag y.r.p.av));let i:=λp:Prop=>RAI y.l y.z p;let h:=λp:Prop=>RA4 y.r.s p;let b:Prop:=(h (IV y.r (RAH g (True))));aj j (false=gF (oA y)/\b) ((∃z:Nat,i (0=(z:Int)/\h (IV y.r (RAH g ((Iv (z<=d/\mf (oA y) z)))))))/\(∀x:Nat,let a:=gt (dd.mk false 0 0 0 0 0 0 0 0 0 0 []) y.l (x:Int).toNat;let k:=aw 0 (ag a.aJ);let m:=!((aB a.c0 (-1))&&((aB a.c1 (-1))&&((aB a.c2 (-1))&&((aB a.c3 (-1))&&((aB a.c4 (-1))&&((aB a.c5 (-1))&&((aB a.c6 (-1))&&((aB a.c7 (-1))&&((aB a.c8 (-1))&&(aB a.c9 (-1)))))))))));let f:=λp:Prop=>RAI a.aJ a.done p;let e:Prop:=(aG 0 (x:Int)/\aw (x:Int) q1/\aj (aw a.c0 (-1)) (false=gF (oA y)/\b) (aG 0 (x:Int)/\aw (x:Int) q1/\aj (aw y.z a.c0) (false=gF (oA y)/\b) (aG 0 (x:Int)/\aw (x:Int) q1/\aj (aw a.c1 (-1)) (false=gF (oA y)/\b) (aG 0 (x:Int)/\aw (x:Int) q1/\aj (aw y.z a.c1) (false=gF (oA y)/\b) (aG 0 (x:Int)/\aw (x:Int) q1/\aj (aw a.c2 (-1)) (false=gF (oA y)/\b) (aG 0 (x:Int)/\aw (x:Int) q1/\aj (aw y.z a.c2) (false=gF (oA y)/\b) (aG 0 (x:Int)/\aw (x:Int) q1/\aj (aw a.c3 (-1)) (false=gF (oA y)/\b) (aG 0 (x:Int)/\aw (x:Int) q1/\aj (aw y.z a.c3) (false=gF (oA y)/\b) (aG 0 (x:Int)/\aw (x:Int) q1/\aj (aw a.c4 (-1)) (false=gF (oA y)/\b) (aG 0 (x:Int)/\aw (x:Int) q1/\aj (aw y.z a.c4) (false=gF (oA y)/\b) (aG 0 (x:Int)/\aw (x:Int) q1/\aj (aw a.c5 (-1)) (false=gF (oA y)/\b) (aG 0 (x:Int)/\aw (x:Int) q1/\aj (aw y.z a.c5) (false=gF (oA y)/\b) (aG 0 (x:Int)/\aw (x:Int) q1/\aj (aw a.c6 (-1)) (false=gF (oA y)/\b) (aG 0 (x:Int)/\aw (x:Int) q1/\aj (aw y.z a.c6) (false=gF (oA y)/\b) (aG 0 (x:Int)/\aw (x:Int) q1/\aj (aw a.c7 (-1)) (false=gF (oA y)/\b) (aG 0 (x:Int)/\aw (x:Int) q1/\aj (aw y.z a.c7) (false=gF (oA y)/\b) (aG 0 (x:Int)/\aw (x:Int) q1/\aj (aw a.c8 (-1)) (false=gF (oA y)/\b) (aG 0 (x:Int)/\aw (x:Int) q1/\aj (aw y.z a.c8) (false=gF (oA y)/\b) (aG 0 (x:Int)/\aw (x:Int) q1/\aj (aw a.c9 (-1)) (false=gF (oA y)/\b) (aG 0 (x:Int)/\aw (x:Int) q1/\aj (aw y.z a.c9) (false=gF (oA y)/\b) (∃z:Nat,i (ay .i64 (x:Int) 1=(z:Int)/\h (IV y.r (RAH g ((Iv ((z<=d/\mf (oA y) z)/\(d-z)<(d-x))))))))))))))))))))))))))));(Iv (x<=d/\mf (oA y) x))->aj (aw (x:Int) q1) (aG 0 (x:Int)/\aw (x:Int) q1/\aj k (RAH a.aJ (false=gF (oA y)/\b)) (aG 0 (x:Int)/\aw (x:Int) q1/\aj (!a.done) (aG 0 (x:Int)/\aw (x:Int) q1/\Iv True/\f (SY a (SY a (aj m (false=gF (oA y)/\b) (e))))) (f (e)))) (true=gF (oA y)/\b)))
abbrev RA5 (v:VE) (p:Prop):Prop:=aa [v.pos] (aa [v.bN] (aa [v.ch] (aa [v.jH] (aa [v.bj] (aa [v.size] (aa [v.aS] p))))))
def W0 (y:zl):Prop:=let v:=aw y.st.pos y.st.bN;let q1:=!(seq y.ru.s.c []);let l:=cx .i64 y.st.pos y.st.bN;let A:=aw 500 y.st.size;let B:=aw 1099511627776 y.st.pos;let C:=aB (ag y.st.aS) 0;let n:=C5.mk (oN.mk y.ru.p y.a8.m y.a8.L) y.a8.h;let o:=C5.mk (oN.mk y.ru.q y.aZ.m y.aZ.L) y.aZ.h;let t:=C5.mk (oN.mk y.ru.p y.aH.m y.aH.L) y.aH.h;let u:=ay .i64 (ay .i64 y.st.size 1) (Di y);let g:=!(aB (ay .i64 (ay .i64 y.st.bj y.st.size) 1) y.st.bN);let i:=!(mc (t,Di y));let j:=!(mc (o,Di y));let k:=gF (oA (DnY.mk (j8.mk y.ru.s y.ru.p y.ru.q []) y.st.aS y.st.size));let a:Prop:=(RA4 y.ru.s (IV y.ru (aa [q1] (True))));let d:Prop:=(RA5 y.st (RA2 y.a8 (RA2 y.aH (RA2 y.aZ (RA4 y.ru.s (IV y.ru (aa [q1] ((Iv (Pl y=true/\wsE y))))))))));let I:=Iv (Pl y=true/\wsM y=true/\wsE y);let b:Prop:=(∃z:Unit,aa [Di y] (RA5 y.st (RA2 y.a8 (RA2 y.aH (RA2 y.aZ (RA4 y.ru.s (IV y.ru (aa [q1] (I)))))))));let G:=aj (!(fb y.aZ)) (false=ny y/\a) (b);let w:Prop:=(RAH q1 (RA2 y.aZ G));let F:=aa [y.aZ.h] (aa [y.aZ.m] (aa [y.aZ.L] G));let e:Prop:=((aj y.st.ch (∃z:Unit,0=Di y/\d) (∃z:Unit,l=Di y/\d))/\(∀x:Unit,(Iv (Pl y=true/\wsE y))->(Iv (FM t)/\RA3 y.ru.p (RA2 y.aH (aa [Di y] (aj i (aa [y.ru.p.af] (aa [y.ru.p.av] (aa [y.aH.h] (aa [y.aH.m] (aa [y.aH.L] (false=ny y/\a)))))) (aj q1 (Iv (FM o)/\aa [y.ru.q.af] (aa [y.ru.q.av] (aa [y.aZ.h] (aa [y.aZ.m] (aa [y.aZ.L] (aa [Di y] (aj j (aa [y.ru.p.af] (aa [y.ru.p.av] (aa [y.aH.h] (aa [y.aH.m] (aa [y.aH.L] (aa [q1] (aa [y.ru.q.af] (aa [y.ru.q.av] (aa [y.aZ.h] (aa [y.aZ.m] (aa [y.aZ.L] (false=ny y/\a)))))))))))) (aj (!q1) (Iv True/\aa [y.aZ.h] (aa [y.aZ.m] (aa [y.aZ.L] (aa [y.ru.p.af] (aa [y.ru.p.av] (aa [y.aH.h] (aa [y.aH.m] (aa [y.aH.L] (aa [q1] (aa [y.ru.q.af] (aa [y.ru.q.av] (aa [y.aZ.h] (aa [y.aZ.m] (aa [y.aZ.L] (aa [q1] F))))))))))))))) (aa [y.ru.p.af] (aa [y.ru.p.av] (aa [y.aH.h] (aa [y.aH.m] (aa [y.aH.L] (aa [q1] (aa [y.ru.q.af] (aa [y.ru.q.av] (aa [y.aZ.h] (aa [y.aZ.m] (aa [y.aZ.L] (aa [q1] (b))))))))))))))))))))) (aj (!q1) (Iv True/\aa [y.aZ.h] (aa [y.aZ.m] (aa [y.aZ.L] (aa [y.ru.p.af] (aa [y.ru.p.av] (aa [y.aH.h] (aa [y.aH.m] (aa [y.aH.L] (aa [q1,q1] F))))))))) (aa [y.ru.p.af] (aa [y.ru.p.av] (aa [y.aH.h] (aa [y.aH.m] (aa [y.aH.L] (aa [q1,q1] (b)))))))))))))/\(∀D:Unit,I->aj (!y.st.jH) (aj (aB y.st.bj 0) (aj (aB y.st.size 0) (aj C (Iv True/\RA2 y.a8 (fb y.a8=ny y/\a)) (false=ny y/\a)) (false=ny y/\a)) (false=ny y/\a)) (aj (!q1) (false=ny y/\a) (aj y.st.ch (false=ny y/\a) (aj (aw y.st.size 0) (false=ny y/\a) (aj A (false=ny y/\a) (aj (aw y.st.bj 0) (false=ny y/\a) (aj g (false=ny y/\a) (Iv (y.st.aS.length<=1000)/\RAI y.st.aS y.st.size (RA4 y.ru.s (IV y.ru (aa [q1] (aj k (Iv (FM n)/\aa [y.ru.p.af] (aa [y.ru.p.av] (aa [y.a8.h] (aa [y.a8.m] (aa [y.a8.L] (aa [u] (aa [y.st.aS] (aa [y.st.size] (aa [y.ru.p.af] (aa [y.ru.p.av] (aa [y.a8.h] (aa [y.a8.m] (aa [y.a8.L] (aa [y.st.size] (mc (n,u)=ny y/\a))))))))))))))) (aa [y.st.aS] (aa [y.st.size] (false=ny y/\a)))))))))))))))));let f:Prop:=(aj y.st.ch (aj (aG l 200) (false=ny y/\a) (e)) (e));(fK .i64 y.st.pos=true/\fK .i64 y.st.bN=true/\True/\True/\fK .i64 y.st.bj=true/\fK .i64 y.st.size=true/\aG (ag y.st.aS) 9223372036854775807=true/\aG (ag y.a8.h) 9223372036854775807=true/\fK .i64 y.a8.m=true/\aG (ag y.a8.L) 9223372036854775807=true/\aG (ag y.aH.h) 9223372036854775807=true/\fK .i64 y.aH.m=true/\aG (ag y.aH.L) 9223372036854775807=true/\aG (ag y.aZ.h) 9223372036854775807=true/\fK .i64 y.aZ.m=true/\aG (ag y.aZ.L) 9223372036854775807=true/\True)->aj (aw y.st.bN 0) (false=ny y/\a) (aj v (false=ny y/\a) (aj B (false=ny y/\a) (aj (!y.st.ch) (aj (aw 200 l) (false=ny y/\a) (f)) (f))))
theorem L' (af:List aW) (f:List Bool) (F:Int->Bool) (k:Int):∀n,LC af f n F k↔F k\/∃j:Nat,j<n/\f.getD j false/\(af.getD j cX).op=1/\k=(j:Int)+1
 | 0=>by simp[LC]
 | n+1=>by
  have i:=L' af f F k n;have e:(⟨0,0,0,[]⟩:aW)=cX:=rfl;rw[LC,e];constructor
  ·intro h;by_cases c:f.getD n false/\(af.getD n cX).op=1
   ·rw[Zac c] at h;by_cases q:k=(n:Int)+1
    ·exact .inr ⟨n,ω,c.1,c.2,q⟩
    ·rw[Zaa q] at h;rcases i.1 h with h | ⟨j,h1,g⟩
     ·exact .inl h
     ·exact .inr ⟨j,ω,g⟩
   ·rw[Zaa c] at h;rcases i.1 h with h | ⟨j,h1,g⟩
    ·exact .inl h
    ·exact .inr ⟨j,ω,g⟩
  ·intro h;have l:(∃j:Nat,j<n/\f.getD j false/\(af.getD j cX).op=1/\k=(j:Int)+1)\/F k->LC af f n F k:=λh=>i.2 h.symm
   have g:k≠(n:Int)+1\/¬(f.getD n false/\(af.getD n cX).op=1)->LC af f n F k:=λq=>l (h.symm.imp_left λ⟨j,a,b,c,d⟩=>⟨j,by
    by_cases e:j=n
    ·subst e;rcases q with q | q
     ·exact absurd d q
     ·exact absurd ⟨b,c⟩ q
    ·omega,b,c,d⟩)
   split
   ·show(if k=(n:Int)+1 then true else LC af f n F k)
    by_cases q:k=(n:Int)+1
    ·rw[Zac q]
    ·rw[Zaa q];exact g (.inl q)
   ·exact g (.inr (by assumption))
def Jy (f:sZ y) (hk:k<y.p.av.length):wtA (Pn y k) i↔(0<=i/\i<y.p.af.length)/\(i=y.p.av.getD k 0\/i≠0/\(lJ y.p.af (y.p.av.getD k 0)).getD (i-1).toNat false/\(y.p.af.getD (i-1).toNat cX).op=1):=by
 obtain⟨m,n,o,q,g,l⟩:=f.1;obtain⟨r,s,_⟩:=l k hk;have hs:Ϗ (Pn y k)=y.p.av.getD k 0:=rfl;unfold wtA;rw[L',hs];show _\/(∃j:Nat,j<y.p.af.length/\(lJ y.p.af (y.p.av.getD k 0)).getD j false/\(y.p.af.getD j cX).op=1/\i=(j:Int)+1)↔_
 generalize y.p.av.getD k 0=a at*
 constructor
 ·rintro(h | ⟨j,h1,b,c,rfl⟩)
  ·have h:i=a:=by simpa using h
   exact⟨ω,.inl h⟩
  ·have:=(g.2 j h1).2.2 ω ω ω;exact⟨ω,.inr ⟨ω,by rw[show(j:Int)+1-1=j by omega];exact⟨b,c⟩⟩⟩
 ·rintro⟨⟨h1,b⟩,h | ⟨c,d,e⟩⟩
  ·exact .inl (by simpa using h)
  ·exact .inr ⟨(i-1).toNat,ω,d,e,ω⟩
theorem QaI (b:sZ y) (hk:k<y.p.av.length) (h0:0<=i) (h1:i<s.length):(λj=>if j=i then false else XO (Pn y k) s j)=XO (Pn y k) (s.set i.toNat true):=by
 funext j;unfold XO;cases a:wtA (Pn y k) j with
 | false=>simp
 | true=>
  have:=((Jy b hk).1 a).1;by_cases e:j=i
  ·subst e;grind
  ·have:j.toNat≠i.toNat:=ω;grind
theorem QfO (y:zO) (n:Nat):XO y (KR n)=wtA y:=by
 funext j;unfold XO KR;grind
theorem QaJ (f:sZ y) {i:Nat} (hk:k<y.p.av.length) (h:dwI y k (s,i)) (hi:i<(y.L.getD k fu).aJ.length):let t:=(y.L.getD k fu).aJ.getD i ⟨0,0,0,0,0,0,0,0,0,0,0⟩
  (XO (Pn y k) s t.pc->fq t y.m->dwI y k (s.set t.pc.toNat true,i+1))/\(XO (Pn y k) s t.pc=false\/fq t y.m=false->false=gX y):=by
 obtain⟨h1,g,j,d,c⟩:=h;simp only at j d c ⊢;have e:(y.L.getD k fu).aJ.getD i ⟨0,0,0,0,0,0,0,0,0,0,0⟩=(y.L.getD k fu).aJ[i]:=by grind
 rw[Zaq hi,XL] at c;rw[e];generalize (y.L.getD k fu).aJ[i]=t at c ⊢;refine⟨λa b=>⟨h1,g,hi,by simpa using d,?_⟩,λa=>Ju h1 ?_⟩
 ·have l:wtA (Pn y k) t.pc:=by
   unfold XO at a;grind
  obtain⟨⟨c1,c2⟩,_⟩:=(Jy f hk).1 l;rw[a,b,QaI f hk c1 ω] at c;simpa using c
 ·rw[c];rcases a with a | a<;>simp[a]
theorem QtK (y:oN) (C:sZ y):WX y:=by
 unfold WX;have⟨F,R,M⟩:=C;have⟨S,T,U,V,Q,H⟩:=F;simp only[bL,bC,SZ,EwC,j9,au,dq,Zad,Zan,Zao,br,cS];refine⟨F,λk1=>?_,λk1=>⟨λk2=>?_,λk2=>⟨λk3=>?_,λk3=>⟨⟨0,rfl,Zaj _,rfl⟩,λx G=>⟨λk4=>?_,λk4=>?_⟩⟩⟩⟩⟩
 ·grind [kn]
 ·grind [kn]
 ·grind [kn]
 ·have j:x<y.L.length:=ω;have g:x<y.p.av.length:=ω;have l:(x:Int)<y.p.av.length:=ω;have hi:ay .i64 ↑x 1=((x+1:Nat):Int):=ba ω ω;have v:(⟨false,0,0,0,0,0,0,0,0,0,0,[]⟩:dd)=fu:=rfl;have k:=Ju j;have hu:uS y x=(!(!(y.L.getD x fu).done&&!wlN (y.L.getD x fu))&&fq (OO (y.L.getD x fu)) y.m&&XL y.m (y.L.getD x fu).aJ (wtA (Pn y x))):=rfl;rw[WA] at hu;unfold OO at hu;simp only[v];refine⟨ω,k4,λc=>k (by rw[hu,c];simp),λc=>(λ(n:uS y x=XL y.m (y.L.getD x fu).aJ (wtA (Pn y x))->_)=>⟨λd=>⟨λe=>k ?a,λe=>n ?b⟩,λd=>n ?c⟩) ?m⟩
  case a=>rw[hu,d];simp only[aB] at e;simp_all
  case b=>
   rw[hu,c,d];have e:decide ((y.L.getD x fu).c0= -1/\(y.L.getD x fu).c1= -1/\(y.L.getD x fu).c2= -1/\(y.L.getD x fu).c3= -1/\(y.L.getD x fu).c4= -1/\(y.L.getD x fu).c5= -1/\(y.L.getD x fu).c6= -1/\(y.L.getD x fu).c7= -1/\(y.L.getD x fu).c8= -1/\(y.L.getD x fu).c9= -1):=by simpa [aB] using e
   rw[e];simp
  case c=>rw[hu,c,d];simp
  case m=>
   intro N;refine⟨⟨⟨Q,(H x g).1,(H x g).2.1⟩,ZaF _,l⟩,ZaF _,ZaQ _,ω,x,⟨(KR y.p.af.length,0),rfl,rfl,rfl,rfl,rfl,rfl,rfl,rfl,rfl,rfl,rfl,rfl,rfl,rfl,rfl,j,G.2,Zaj _,by unfold KR;simp,by rw[QfO];exact N⟩,λz hz=>⟨λk5=>?_,λk5=>⟨x+1,hi,⟨j,?_⟩,ω⟩⟩⟩
   ·obtain⟨s,i⟩:=z;simp only at k5 hz ⊢;have A:i<(y.L.getD x fu).aJ.length:=ω;obtain⟨g1,g2⟩:=QaJ C g hz A;have qX:s.length=y.p.af.length:=hz.2.2.2.1;have B:ay .i64 (i:Int) 1=((i+1:Nat):Int):=by
     have:=M (y.L.getD x fu) (by grind);exact ba ω ω
    have u:=mT y.p.af (vG (y.p,(x:Int)));have K:vG (y.p,(x:Int))=y.p.av.getD x 0:=rfl;rw[K] at u ⊢;have I:(⟨0,0,0,[]⟩:aW)=cX:=rfl;simp only[XO,B,I] at g1 g2 ⊢;generalize (y.L.getD x fu).aJ.getD i ⟨0,0,0,0,0,0,0,0,0,0,0⟩=t at*
    have o:=Jy C g (i:=t.pc);generalize wtA (Pn y x) t.pc=W at*
    have P:fq ⟨0,t.c0,t.c1,t.c2,t.c3,t.c4,t.c5,t.c6,t.c7,t.c8,t.c9⟩ y.m=fq t y.m:=rfl;rw[P];have r:W≠true->false=gX y:=λh=>g2 (.inl (by simp at h;simp[h]))
    by_cases h0:0<=t.pc/\t.pc<y.p.af.length
    ·have O:cx .i64 t.pc 1=t.pc-1:=jQ ω ω;rw[O];refine⟨ω,k5,λh=>ω,λ_=>⟨λh=>ω,λ_=>⟨h0.1,ω,λa=>g2 (.inl (by rw[a];simp)),λa=>⟨λb=>g2 (.inr b),λb=>⟨ω,l,?_⟩⟩⟩⟩⟩;have q:W->(0<=t.pc/\t.pc<(s.length:Int)/\∃z:List Bool×Nat,(s.length:Int)=z.1.length/\((i+1:Nat):Int)=z.2/\s.set t.pc.toNat true=z.1/\dwI y x z/\(y.L.getD x fu).aJ.length-z.2<(y.L.getD x fu).aJ.length-i):=λw=>⟨h0.1,ω,(s.set t.pc.toNat true,i+1),by rw[Zbb],rfl,rfl,g1 (by rw[w,a];rfl) b,by show _-(i+1)<_;omega⟩
     refine⟨λc=>⟨λd=>r λw=>?_,λd=>⟨ω,ω,λe=>r λw=>?_,λe=>⟨ω,ω,λf=>r λw=>?_,λf=>q (o.2 ⟨h0,.inr ⟨d,e,f⟩⟩)⟩⟩⟩,λc=>q (o.2 ⟨h0,.inl c⟩)⟩
     all_goals have w:=(o.1 w).2;grind
    ·have E:=r λw=>h0 (o.1 w).1
     exact⟨ω,k5,λ_=>E,λa=>⟨λ_=>E,λb=>absurd ⟨a,b⟩ h0⟩⟩
   ·have D:=hz.2.2.2.2;have J:z.2=(y.L.getD x fu).aJ.length:=by have:=hz.2.2.1;omega
    rw[J,ZbH,XL] at D;rw[gh,G.2,D];rfl
 ·grind [kn]
def QlE (a:Ok gA):Ok WN:=okZ [WC,Qll,QfK,OQ] f160 Qtp ⟨Qlo a,Qlp,QcU,QcT⟩ QtK
theorem QlF (b:Ok gA):Ok Qaw:=okZ (V:=Qc4) [WN,Nz] f98 (λ_=>dY ()) ⟨QlE b,Qh3⟩ λy a=>by
 have a:sZ y.v:=a;unfold Qc4;simp only[bC];have:aB (ag y.h) 0=decide (y.h=[]):=by unfold aB ag;rw[decide_eq_decide];simp
 rw[this];grind [XM,C6]
def QlG (a:Ok gA):Ok QlA:=okZ (V:=L5) [Qaw] f55 (λ_=>dY ()) (QlF a) Qlt
def QlH:Ok QlB:=okZ (V:=L6) [] f56 (λ_=>dY ()) trivial Qlv
def edP (d:Bool) (z:Int) (t:dd):Prop:=(-1<=t.c0/\t.c0<=z/\(d\/t.c0= -1))/\(-1<=t.c1/\t.c1<=z/\(d\/t.c1= -1))/\(-1<=t.c2/\t.c2<=z/\(d\/t.c2= -1))/\(-1<=t.c3/\t.c3<=z/\(d\/t.c3= -1))/\(-1<=t.c4/\t.c4<=z/\(d\/t.c4= -1))/\(-1<=t.c5/\t.c5<=z/\(d\/t.c5= -1))/\(-1<=t.c6/\t.c6<=z/\(d\/t.c6= -1))/\(-1<=t.c7/\t.c7<=z/\(d\/t.c7= -1))/\(-1<=t.c8/\t.c8<=z/\(d\/t.c8= -1))/\(-1<=t.c9/\t.c9<=z/\(d\/t.c9= -1))
theorem QtL (y:DnY) (j:y.l.length<=1000):WZ y:=by
 unfold WZ;simp only[bL,bC,SZ,j9,au,dq,Zad,Zan,Zao];refine⟨λk=>?_,λk=>⟨⟨0,rfl,Zaj _,rfl⟩,λx i=>⟨λh=>?_,λh=>?_⟩⟩⟩
 ·grind [y6,oA]
 ·have c:x<(oA y).l.length:=by show x<y.l.length;omega
  have f:OV (oA y) x↔(y.l.getD x fu).aJ.length=0/\edP (y.l.getD x fu).done y.z (y.l.getD x fu):=by
   show(decide ((y.l.getD x fu).aJ.length=0)&&edC (y.l.getD x fu).done y.z (OO (y.l.getD x fu)))↔_
   simp[edC,OO,oz,edP,Zdc]
  have d:¬((y.l.getD x fu).aJ.length=0/\edP (y.l.getD x fu).done y.z (y.l.getD x fu))->false=gF (oA y):=λh=>QcW c (by rw[<-f] at h;simpa using h)
  have a:((y.l.getD x fu).aJ.length=0/\edP (y.l.getD x fu).done y.z (y.l.getD x fu))->∃z:Nat,ay .i64 (x:Int) 1=(z:Int)/\(z<=y.l.length/\mf (oA y) z)/\y.l.length-z<y.l.length-x:=λh=>⟨x+1,ba ω ω,⟨c,by rw[mf,i.2,f.2 h];rfl⟩,ω⟩
  have g:(⟨false,0,0,0,0,0,0,0,0,0,0,[]⟩:dd)=fu:=rfl;simp only[g];generalize y.l.getD x fu=t at*
  unfold edP at d a;clear f;have e:∀b:Bool,(aB t.c0 (-1)&&(aB t.c1 (-1)&&(aB t.c2 (-1)&&(aB t.c3 (-1)&&(aB t.c4 (-1)&&(aB t.c5 (-1)&&(aB t.c6 (-1)&&(aB t.c7 (-1)&&(aB t.c8 (-1)&&aB t.c9 (-1))))))))))=b↔decide (t.c0= -1/\t.c1= -1/\t.c2= -1/\t.c3= -1/\t.c4= -1/\t.c5= -1/\t.c6= -1/\t.c7= -1/\t.c8= -1/\t.c9= -1)=b:=λb=>by simp[aB]
  simp only[e,ZaP,Zbi];cases ht:t.done<;>rw[ht] at d a<;>simp only[ht,ZaE,Zdv,true_or,Zai,ZbV,ZaX,Zb0,reduceCtorEq] at d a ⊢
  all_goals
   with_reducible repeat' first | apply And.intro | intro _
   all_goals first | omega | exact d ω | exact a ω | exact trivial
 ·grind [y6,oA]
def QlJ:Ok WO:=okZ [QfK] f57 Qts QcU QtL
def QlK {z l:Int} (b: -9223372036854775808<=i/\i<=9223372036854775807) (hz:0<=z/\z<=500) (hl:0<=l/\l<=1099511627776):aB (ay .i64 (ay .i64 i z) 1) l=aB i (cx .i64 (cx .i64 l z) 1):=by
 rw[jQ (a:=l) ω ω,jQ ω ω];by_cases h:i+z+1<=9223372036854775807
 ·rw[ba (a:=i) ω ω,ba ω ω];unfold aB;rw[decide_eq_decide];omega
 ·have:aB i (l-z-1)=false:=by unfold aB;simp;omega
  rw[this];have hw:ay .i64 (ay .i64 i z) 1<0:=by
   unfold ay IntKind.wrap;simp only[IntKind.bits,IntKind.signed,ZbI,ZaP];split<;>split<;>omega
  unfold aB;simp;omega
theorem QtM (y:zl) (l:y7 y):W0 y:=by
  have⟨⟨h1,f,M,g,O⟩,C⟩:=l;have j:ny y=(Pl y&&wsM y&&WJ y):=aC _;unfold W0;have k:gF (oA ⟨⟨y.ru.s,y.ru.p,y.ru.q,[]⟩,y.st.aS,y.st.size⟩)=gF ⟨y.st.aS,ag y.ru.s.r,y.st.size⟩:=by
    unfold oA ag;rw[C]
  simp only[bC,k,j9,ZaZ,ZaY];rintro⟨u,v,a,w,-⟩;have a:=sq.1 a;have Q:Di y=if y.st.ch=true then 0 else cx .i64 y.st.pos y.st.bN:=rfl
  have d:jnR y.ru=!(seq y.ru.s.c []):=rfl;have i:y.st.size<0\/500<y.st.size\/y.st.bN<0\/1099511627776<y.st.bN\/aB (ay .i64 (ay .i64 y.st.bj y.st.size) 1) y.st.bN=aB y.st.bj (cx .i64 (cx .i64 y.st.bN y.st.size) 1):=by
    by_cases c:(0<=y.st.size/\y.st.size<=500)/\0<=y.st.bN/\y.st.bN<=1099511627776
    · exact .inr (.inr (.inr (.inr (QlK a c.1 c.2))))
    · omega
  have hH:Pl y=!(aw y.st.bN 0||aw y.st.pos y.st.bN||aw 1099511627776 y.st.pos||!(y.st.ch==aw 200 (cx .i64 y.st.pos y.st.bN))):=rfl;have D:wsM y=(mc (⟨⟨y.ru.p,y.aH.m,y.aH.L⟩,y.aH.h⟩,Di y)&&(if jnR y.ru=true then mc (⟨⟨y.ru.q,y.aZ.m,y.aZ.L⟩,y.aZ.h⟩,Di y) else fb y.aZ)):=rfl;have F:WJ y=(if y.st.jH=false then aB y.st.bj 0&&aB y.st.size 0&&aB (ag y.st.aS) 0&&fb y.a8
   else jnR y.ru&&!y.st.ch&&aG 0 y.st.size&&aG y.st.size 500&&aG 0 y.st.bj&&aB y.st.bj (cx .i64 (cx .i64 y.st.bN y.st.size) 1)&&gF ⟨y.st.aS,ag y.ru.s.r,y.st.size⟩&&mc (⟨⟨y.ru.p,y.a8.m,y.a8.L⟩,y.a8.h⟩,ay .i64 (ay .i64 y.st.size 1) (Di y))):=rfl
  have hl:Pl y->0<=y.st.bN/\y.st.bN<=1099511627776:=λh=>by
    rw[hH] at h;simp[aw] at h;omega
  rw[d] at D F;have b:(!(seq y.ru.s.c []))->sZ ⟨y.ru.q,y.aZ.m,y.aZ.L⟩:=λh=>g (d.trans h)
  have x:sZ ⟨y.ru.p,y.aH.m,y.aH.L⟩:=h1;have z:sZ ⟨y.ru.p,y.a8.m,y.a8.L⟩:=f;have P:wsE y:=a;unfold FM;generalize Di y=N at*
  generalize mc (⟨⟨y.ru.p,y.aH.m,y.aH.L⟩,y.aH.h⟩,N)=A at*
  generalize mc (⟨⟨y.ru.q,y.aZ.m,y.aZ.L⟩,y.aZ.h⟩,N)=B at*
  generalize mc (⟨⟨y.ru.p,y.a8.m,y.a8.L⟩,y.a8.h⟩,ay .i64 (ay .i64 y.st.size 1) N)=Z at*
  generalize gF ⟨y.st.aS,ag y.ru.s.r,y.st.size⟩=E at*
  generalize fb y.aZ=G at*
  generalize fb y.a8=I at*
  generalize (!(seq y.ru.s.c []))=J at*
  generalize cx .i64 y.st.pos y.st.bN=K at*
  generalize aB (ay .i64 (ay .i64 y.st.bj y.st.size) 1) y.st.bN=t at*
  generalize aB y.st.bj (cx .i64 (cx .i64 y.st.bN y.st.size) 1)=e2 at*
  clear h1 f g l u v a w;simp only[j];generalize Pl y=n at*
  generalize wsM y=o at*
  generalize WJ y=H at*
  clear j d k
  with_reducible repeat' first | assumption | apply And.intro | intro _
  all_goals first | exact b (by assumption) | (simp_all [oD,WM];done) | skip
  all_goals
    have R:=hU.1 ‹aw y.st.size 0=false›;have S:=hU.1 ‹aw 500 y.st.size=false›;have q:=hl (‹n/\o/\_›).1;have e:t=e2:=by rcases i with h | h | h | h | h<;>first | exact h | (exfalso;omega)
    clear i;simp_all [WM]
def QlL (a:Ok gA):Ok WQ:=okZ [QlA,QlB,WO] f20 Qtv ⟨QlG a,QlH,QlJ⟩ QtM
def snP (y:Dh):Prop:=y.h.length<=1000000/\lsP y.L
structure FN where
 st:VE
 a8:Dh
 aH:Dh
 aZ:Dh
def saA (y:FN):AV D.E:=Qkw y.st (XN y.a8) (XN y.aH) (XN y.aZ)
def QfP (x:AV D.E) (s:St D.E):C FN:=az (asAgg x) λcs=>match cs with
  | [p,l,g,o,e,z,n,h1,p1,h,b,p2,i,f,p3,j]=>aP (cT p) λ_ p=>aP (cT l) λ_ l=>aP (zh g) λg _=>aP (zh o) λo _=>aP (cT e) λ_ e=>aP (cT z) λ_ z=>az (aL D s 2 n) λn=>az (zS h1 p1 h s) λc=>az (zS b p2 i s) λa=>az (zS f p3 j s) λd=>.ret ⟨⟨p,l,g,o,e,z,n⟩,c,a,d⟩
  | _=>.fail
def saP (y:FN):Prop:=lsP y.st.aS/\snP y.a8/\snP y.aH/\snP y.aZ
def QtP (c:Nat) (a:List (AV D.E)) (s:St D.E):C (List (D.E c)):=match a with
 | [l]=>aL D s c l
 | _=>.fail
def OY (a:Bool):oD a a:=by cases a<;>rfl
def QtQ {n x:Nat} (h:x<n) (a:n<=1000000000000):∃z:Nat,ay .i64 (x:Int) 1=(z:Int)/\z<=n/\n-z<n-x:=⟨x+1,ba ω ω,ω,ω⟩
def wrU (n:Int):0<=IntKind.u32.wrap n:=by
 unfold IntKind.wrap;simp only[IntKind.bits,IntKind.signed,Zcw,ZaE,Za0];omega
def QtR {n:Int} (h:0<=n):0<=oC .u32 n 1:=by
 unfold oC;exact Int.ediv_nonneg h (by decide)
def W1 {y:Int×By} {k j:Nat} {s:Int} (h:vI y k (j,s)) (c:j<8):vI y k (j+1,Jv s):=by
 obtain⟨h1,d,a,b⟩:=h;refine⟨h1,c,?_,?_⟩
 ·show 0<=Jv s
  unfold Jv;split
  ·exact wrU _
  ·exact QtR a
 ·rw[<-b];show WR (8-(j+1)) (Jv s)=WR (8-j) s
  rw[show 8-j=(8-(j+1))+1 by omega];rfl
def QlM (y:Int×By) (f:y.2.length<=1000000000000):L9 y:=by
 unfold L9;simp only[bC,bL,au,dq,Zad];refine⟨⟨0,rfl,rfl,Zaj _⟩,λx i=>⟨λk=>⟨ω,k,x,⟨(0,_),rfl,rfl,ω,Zaj _,wrU _,rfl⟩,λz hz=>?_⟩,λk=>?_⟩⟩
 ·obtain⟨j,s⟩:=z;simp only at hz ⊢;refine⟨λa=>?_,λa=>?_⟩
  ·have hs:=W1 hz ω;have hi:ay .i64 (j:Int) 1=((j+1:Nat):Int):=ba ω ω;exact⟨hz.2.2.1,λb=>⟨(j+1,_),rfl,hi,by unfold Jv at hs;rw[Zac (by simp[aB,b])] at hs;exact hs,ω⟩,λb=>⟨(j+1,_),rfl,hi,by unfold Jv at hs;rw[Zaa (by simp[aB,b])] at hs;exact hs,ω⟩⟩
  ·obtain⟨h1,d,h,c⟩:=hz;simp only at d c;obtain⟨z,g,z2,z3⟩:=QtQ h1 f;have e:z=x+1:=by have:=ba (a:=(x:Int)) (b:=1) ω ω;omega
   refine⟨z,?_,g,z2,z3⟩;rw[e,<-c,show 8-j=0 by omega];rfl
 ·rw[show x=y.2.length by omega];exact(aC _).symm
def Qc5:Ok Jw:=okZ [] f85 Qty trivial QlM
theorem QtS (y:Int×By) (a:y.2.length<=1000000000000):WW y:=by
 have h:=QlM y a;unfold L9 at h;unfold WW;simp only[bC] at h ⊢;grind
def QlN:Ok WS:=okZ [] f89 QtA trivial QtS
def pO (b s:By):(gf b s).length<=b.length+9+s.length:=by
 unfold gf;rw[Zab];have:=bX b s.length;omega
def QaK (b:By) (p:iX):(Jx b p).length<=b.length+eO [p]:=by
 unfold Jx;have h1:=pO (gf b p.name) p.text;have a:=pO b p.name;simp only[eO];omega
theorem tZ:∀(l:List iX) (k:Nat),k<l.length->eO (l.take k)+eO [l.getD k ⟨[],[]⟩]<=eO l
 | [],_,h=>absurd h (Zbo _)
 | p::l,0,_=>by simp only[ZcA,eO,List.getD_cons_zero];omega
 | p::l,k+1,h=>by
  have:=tZ l k (by simpa using h);simp only[List.take_succ_cons,eO,List.getD_cons_succ] at this ⊢;omega
theorem t_ {b:By} {l:List iX} {k:Nat} (h:k<l.length):Jx (iB b l k) (l.getD k ⟨[],[]⟩)=iB b l (k+1):=by
 unfold iB;rw[show l.getD k ⟨[],[]⟩=l[k] by grind,<-Zb4 h,Zcd];rfl
theorem qA (b:By) (l:List iX):∀k,k<=l.length->(iB b l k).length<=b.length+9+eO (l.take k)
 | 0,_=>by
  have:=bX b l.length;simp only[iB,ZcA,List.foldl_nil,eO];omega
 | k+1,h=>by
  have h1:=qA b l k ω;have a:=QaK (iB b l k) (l.getD k ⟨[],[]⟩);rw[t_ ω] at a;have e:eO (l.take (k+1))=eO (l.take k)+eO [l.getD k ⟨[],[]⟩]:=by
   rw[show l.getD k ⟨[],[]⟩=l[k] by grind,<-Zb4 h];generalize l.take k=m
   induction m with
   | nil=>simp[eO]
   | cons p m c=>simp only[Za1,eO] at c ⊢;omega
  omega
theorem L_ (l:List iX):l.length<=eO l:=by
 induction l with
 | nil=>exact Zah _
 | cons p l a=>simp only[Zae,eO];omega
def QlO:Ok Qax:=okZ (V:=Qc0) [qN] f135 (λ_=>dY ()) GY λy a=>by
 have a:y.1.length+eO [y.2]<=536870912:=a;have:=pO y.1 y.2.name;simp only[eO] at a;unfold Qc0;simp only[bC];exact⟨⟨ω,ω⟩,⟨ω,ω⟩,rfl⟩
def QlP:Ok WT:=okZ (V:=Qc1) [gb,Qax] f134 QtE ⟨kQ,QlO⟩ λy b=>by
 have b:y.1.length+10+eO y.2<=536870912:=b;have hl:=L_ y.2;unfold Qc1;simp only[bC,bL,au,dq,Zad];refine⟨ω,⟨0,rfl,rfl,Zaj _⟩,λx c=>⟨λk=>?_,λk=>?_⟩⟩
 ·have a:x<y.2.length:=ω;have h1:=qA y.1 y.2 x c;have d:=tZ y.2 x a;exact⟨ω,k,ω,x+1,t_ a,ba ω ω,ω,ω⟩
 ·rw[show x=y.2.length by omega]
def QlQ:Ok WU:=okZ (V:=Qc2) [WT,qN] f83 (λ_=>dY ()) ⟨QlP,GY⟩ λy a=>by
 have a:y.1.length+30+eO y.2.r+y.2.c.length<=536870912:=a;have h1:=qA y.1 y.2.r _ (Zah _);rw[ZaM] at h1;unfold Qc2;simp only[bC];exact⟨ω,⟨ω,ω⟩,rfl⟩
def QlR:Ok WV:=okZ (V:=Qc3) [iz,pf] f88 QtI ⟨nP,KH⟩ λy b=>by
 have b:y.1.length+30+eO y.2.r+y.2.c.length<=536870912:=b;have hl:=L_ y.2.r;unfold Qc3;simp only[bC,bL,au,dq,Zad];refine⟨ω,⟨0,rfl,rfl,Zaj _⟩,λx e=>⟨λk=>?_,λk=>?_⟩⟩
 ·have a:x<y.2.r.length:=ω;have h1:=qA y.1 y.2.r x e;have d:=tZ y.2.r x a;have f:=pO (iB y.1 y.2.r x) (y.2.r.getD x ⟨[],[]⟩).name;simp only[eO] at d;exact⟨ω,k,⟨ω,ω⟩,ω,k,⟨ω,ω⟩,x+1,t_ a,ba ω ω,ω,ω⟩
 ·have h1:=qA y.1 y.2.r _ (Zah _);rw[ZaM] at h1;rw[show x=y.2.r.length by omega];exact⟨⟨ω,ω⟩,rfl⟩
structure WtY where
 n:Int
 lo:Int
 hi:Int
structure TxY where
 l:List Q5
 Qws:Int
variable {Z Y:Nat} {X:Nat->List aW}
def jU (y:cj):cj:=⟨if 3<y.r.length then y.r.take 3 else y.r,y.c⟩
def ldK (y:cj):Bool:=oK (jU y)
def W2 (y:cj×Bool):Prop:=y.2=ldK y.1
def lM (y:cj):j8:=lk ⟨jU y,⟨(b9 (jU y)).af,(b9 (jU y)).st⟩,⟨(b9 (jU y)).cc,(b9 (jU y)).cs⟩,(bs (jU y)).tab⟩
def QlS:bh D:=⟨17,cj×Bool,CO ldK,W2,λy=>[CM y.1],λ_=>[],
 λy=>match y.2 with
  | true=>.tuple [.ptr 0 0,.ptr 3 0,.lit true]
  | false=>.tuple [.fT,.fT,.lit true],
 λy=>match y.2 with
  | true=>IU (lM y.1)++[ruO 3 (jU y.1) (b9 (jU y.1))]
  | false=>[],0,4⟩
def QtT (y:QlS.Y):cH D:=⟨[],[],[],[(3,⟨Unit,[],λ_=>[(1,.ptr 0 0)],[],λ_=>[(0,.cells [.list 3 (jU y.1).r,.str y.1.c] 24 false)],1,λ_=>True,λ_=>0⟩)],1,[]⟩
def Jz (y:cj):Prop:=let e:=b9 (jU y);let q1:=ite (3<y.r.length) (List.take 3 y.r) y.r;let a:=cj.mk q1 y.c;let b:=b9 a;let f:=aB b.an b.an;let d:=λp:Prop=>RAI q1 y.c p;(aj (aw 3 (ag y.r)) (Tt 1 (aG 3 (ag y.r)/\∃z:Unit,dE y.r 3=q1/\RAH y.c ((Iv True)))) (∃z:Unit,y.r=q1/\RAH y.c ((Iv True))))/\(∀x:Unit,(Iv True)->aj (oK a) (Iv (qG (a,true))/\d (aj (oK a) (Iv (qG (a,true))/\d (aj (aB 0 0) (d (b.af=e.af/\b.st=e.st/\b.cc=e.cc/\b.cs=e.cs/\aa [!(seq y.c [])] (q1=(lM y).s.r/\y.c=(lM y).s.c/\b.af=(lM y).p.af/\b.st=(lM y).p.av/\b.cc=(lM y).q.af/\b.cs=(lM y).q.av/\ag (bs a).tab=ag (lM y).t/\(bs a).tab=(lM y).t/\True))) (False))) (Iv (qG (a,false))/\d (aj (aB 0 b.an) (False) (False))))) (Iv (qG (a,false))/\d (aj (oK a) (Iv (qG (a,true))/\d (aj (aB b.an 0) (False) (False))) (Iv (qG (a,false))/\d (aj f (False) (False))))))
def JA (y:cj):Prop:=let b:=ite (3<y.r.length) (List.take 3 y.r) y.r;let q1:=cj.mk b y.c;let d:=aB 0 (b9 q1).an;let e:=aB (b9 q1).an 0;let f:=aB (b9 q1).an (b9 q1).an;let a:=λp:Prop=>RAI b y.c p;(aj (aw 3 (ag y.r)) (Tt 1 (aG 3 (ag y.r)/\∃z:Unit,dE y.r 3=b/\RAH y.c ((Iv True)))) (∃z:Unit,y.r=b/\RAH y.c ((Iv True))))/\(∀x:Unit,(Iv True)->aj (oK q1) (Iv (qG (q1,true))/\a (aj (oK q1) (Iv (qG (q1,true))/\a (aj (aB 0 0) (False) (False))) (Iv (qG (q1,false))/\a (aj d (False) (False))))) (Iv (qG (q1,false))/\a (aj (oK q1) (Iv (qG (q1,true))/\a (aj e (False) (False))) (Iv (qG (q1,false))/\a (aj f (True) (False))))))
theorem Ma (y:cj):(aw 3 (ag y.r)->aG 3 (ag y.r)/\dE y.r 3=(if 3<y.r.length then y.r.take 3 else y.r))/\(aw 3 (ag y.r)=false->y.r=(if 3<y.r.length then y.r.take 3 else y.r)):=by
 rw[dA,hU,fm,au];refine⟨λh=>⟨ω,by rw[Zac ω];rfl⟩,λh=>by grind⟩
theorem C7 (y:cj):(jU y).r.length<=3:=by
 grind [jU]
theorem QlT (y:cj) (a:W2 (y,true)):Jz y:=by
 have a:true=oK (jU y):=a;have hl:=C7 y;grind [Ma,qG,jU,Jz,lM,aC]
theorem QlU (y:cj) (a:W2 (y,false)):JA y:=by
 have a:false=oK (jU y):=a;grind [Ma,qG,jU,JA]
def nt (lo hi:Nat) (x:aW):Prop:=x.bm.length<=1000000/\((x.op=1/\x.x=0/\x.y=0/\x.bm=aU x.bm)\/(x.op=2/\(lo:Int)<=x.x/\x.x<=hi/\(lo:Int)<=x.y/\x.y<=hi/\x.bm=[])\/(x.op=3/\(lo:Int)<=x.x/\x.x<=hi/\x.y=0/\x.bm=[])\/(x.op=4/\0<=x.x/\x.x<10/\x.y=0/\x.bm=[])\/((x.op=5\/x.op=6)/\x.x=0/\x.y=0/\x.bm=[]))
def nt.mono {i g:Nat} {x:aW} (h:nt Z Y x) (h1:i<=Z) (j:Y<=g):nt i g x:=by
 obtain⟨h0,h | ⟨a,b,c,d,e,f⟩ | ⟨a,b,c,d⟩ | h | h⟩:=h
 ·exact⟨h0,.inl h⟩
 ·exact⟨h0,.inr (.inl ⟨a,ω,ω,ω,ω,f⟩)⟩
 ·exact⟨h0,.inr (.inr (.inl ⟨a,ω,ω,d⟩))⟩
 ·exact⟨h0,.inr (.inr (.inr (.inl h)))⟩
 ·exact⟨h0,.inr (.inr (.inr (.inr h)))⟩
theorem FO {b out:Nat} (lz:Bool) (h1:Z<=b) (a:b+1<=Y) (c:Z<=out) (d:out<=Y):nt Z Y (hZ lz b out):=by
 unfold hZ;split<;>exact⟨Zaj _,.inr (.inl ⟨rfl,by grind,by grind,by grind,by grind,rfl⟩)⟩
theorem Mb (a:∀b,∀x∈X b,nt b (b+Z) x):∀(n b:Nat),∀x∈iq X Z n b,nt b (b+n*Z) x
 | 0,b,x,h=>nomatch h
 | n+1,b,x,h=>by
  have e:b+Z+n*Z=b+(n+1)*Z:=by grind
  rcases Zax.1 h with h | h
  ·exact(a b x h).mono ω ω
  ·exact(Mb a n _ x h).mono ω ω
theorem Mc {lz:Bool} (a:∀b,∀x∈X b,nt b (b+Z) x):∀(n b:Nat),b+n*(Z+1)<=Y->∀x∈fp (λi=>hZ lz i Y) X Z n b,nt b Y x
 | 0,b,_,x,h=>nomatch h
 | n+1,b,c,x,h=>by
  have e:b+1+Z+n*(Z+1)=b+(n+1)*(Z+1):=by grind
  rcases Zbf.1 h with rfl | h
  ·grind [FO]
  ·rcases Zax.1 h with h | h
   ·exact(a _ x h).mono ω ω
   ·exact(Mc a n _ ω x h).mono ω ω
def NdT (t:ah):Prop:=∀x∈aD t,iO x
def NdL (l:List ah):Prop:=∀x∈aA l,iO x
mutual
theorem C8:∀(t:ah) (b:Nat),ku t->NdT t->∀x∈bS t b,nt b (b+bt t) x
 | .mk op r mn mx lz cap nk ks,b,h,hn,x,hx=>by
  rw[ku] at h
  obtain⟨⟨g,hw⟩,_,h3⟩:=h
  have hn1:iO ⟨op,r,mn,mx,lz,cap,ks.length⟩:=hn _ (by rw[aD];exact Za8 ..)
  have hn2:NdL ks:=λy hy=>hn y (by rw[aD];exact ZaU _ hy)
  have hl:=λb=>FP ks b h3 hn2
  have hll:=λb=>nh ks b h3
  rw[bS] at hx
  rw[bt]
  unfold pF
  unfold ck at hw
  by_cases h2:op=2
  ·simp[h2] at hx hw ⊢
   subst hx
   refine⟨hn1,.inl ⟨rfl,rfl,rfl,?_⟩⟩
   split at hw
   ·cases hw
   ·exact(by simpa using hw:_/\_).2
  ·by_cases h7:op=7
   ·simp[h7] at hx ⊢
    subst hx
    exact⟨Zaj _,.inr (.inr (.inr (.inr ⟨.inl rfl,rfl,rfl,rfl⟩)))⟩
   ·by_cases h8:op=8
    ·simp[h8] at hx ⊢
     subst hx
     exact⟨Zaj _,.inr (.inr (.inr (.inr ⟨.inr rfl,rfl,rfl,rfl⟩)))⟩
    ·by_cases h3':op=3
     ·simp[h3'] at hx ⊢
      exact hl b x hx
     ·by_cases h4:op=4
      ·simp[h4] at hx ⊢
       exact(Md ks b _ h3 hn2 (Zah _) x hx).mono (Zah _) ω
      ·by_cases h5:op=5
       ·subst h5
        simp only[show ¬((5:Int)=2) by decide,show ¬((5:Int)=7) by decide,show ¬((5:Int)=8) by decide,show ¬((5:Int)=3) by decide,show ¬((5:Int)=4) by decide,show ¬((5:Int)=6) by decide,Za0,Zbv,or_self] at hx ⊢
        unfold IK at hx
        rcases Zax.1 hx with hx | hx
        ·refine(Mb hl _ _ x hx).mono (Zah _) ?_
         split<;>omega
        ·split at hx
         ·rename_i hm
          rw[Zac hm]
          rcases Zbf.1 hx with rfl | hx
          ·exact FO lz ω ω ω ω
          ·rcases Zax.1 hx with hx | hx
           ·exact(hl _ x hx).mono ω ω
           ·rw[ZaI.1 hx]
            exact⟨Zaj _,.inr (.inr (.inl ⟨rfl,by simp only;omega,by simp only;omega,rfl,rfl⟩))⟩
         ·rename_i hm
          rw[Zaa hm]
          unfold lj at hx
          refine(Mc hl _ _ ?_ x hx).mono ω ω
          omega
       ·by_cases h6:op=6
        ·simp[h6] at hx hw ⊢
         have hc:1<=cap/\cap<=4:=by
          split at hw
          ·cases hw
          ·have:=(by simpa using hw:_/\_)
           omega
         rcases hx with rfl | hx | rfl
         ·exact⟨Zaj _,.inr (.inr (.inr (.inl ⟨rfl,by simp only;omega,by simp only;omega,rfl,rfl⟩)))⟩
         ·exact(hl _ x hx).mono ω ω
         ·exact⟨Zaj _,.inr (.inr (.inr (.inl ⟨rfl,by simp only;omega,by simp only;omega,rfl,rfl⟩)))⟩
        ·simp[h2,h7,h8,h3',h4,h5,h6] at hx
theorem FP:∀(l:List ah) (b:Nat),nf l->NdL l->∀x∈bu l b,nt b (b+aQ l) x
 | [],b,_,_,x,hx=>by rw[bu] at hx;cases hx
 | t::l,b,h,hn,x,hx=>by
  rw[nf] at h
  rw[bu] at hx
  rw[aQ]
  rcases Zax.1 hx with hx | hx
  ·exact(C8 t b h.1 (λy hy=>hn y (by rw[aA];exact Zay _ hy)) x hx).mono (Zah _) ω
  ·exact(FP l _ h.2 (λy hy=>hn y (by rw[aA];exact ZaC _ hy)) x hx).mono ω ω
theorem Md:∀(l:List ah) (b e:Nat),nf l->NdL l->b+aQ l+2*(l.length-1)<=e->∀x∈kj l b e,nt b e x
 | [],b,e,_,_,_,x,hx=>by rw[kj] at hx;cases hx
 | t::l,b,e,h,hn,he,x,hx=>by
  rw[nf] at h
  rw[kj] at hx
  rw[aQ] at he
  have ht:=λb=>C8 t b h.1 (λy hy=>hn y (by rw[aA];exact Zay _ hy))
  have hl:=λb=>Md l b e h.2 (λy hy=>hn y (by rw[aA];exact ZaC _ hy))
  cases l with
  | nil=>
   simp only[List.isEmpty_nil,Zbv] at hx
   exact(ht b x hx).mono (Zah _) ω
  | cons u l=>
   simp only[List.isEmpty_cons,ZaE,Za0] at hx
   simp only[Zae] at he hl
   rcases Zbf.1 hx with rfl | hx
   ·exact⟨Zaj _,.inr (.inl ⟨rfl,by simp only;omega,by simp only;omega,by simp only;omega,by simp only;omega,rfl⟩)⟩
   ·rcases Zax.1 hx with hx | hx
    ·exact(ht _ x hx).mono ω ω
    ·rcases Zbf.1 hx with rfl | hx
     ·exact⟨Zaj _,.inr (.inr (.inl ⟨rfl,by simp only;omega,by simp only;omega,rfl,rfl⟩))⟩
     ·exact(hl _ ω x hx).mono ω (Zah _)
end
variable {i:Nat} {c:List aW} {s:cj} {Z:List Int}
def Seg (c:List aW) (q lo hi:Nat):Prop:=lo<=hi/\hi<c.length/\c.getD hi cX=⟨7,q,0,[]⟩/\∀i,lo<=i->i<hi->nt lo hi (c.getD i cX)
def W3 (c:List aW) (s:List Int) (r:Nat):Prop:=s.length=r/\(∀q,q<r->∃lo hi:Nat,s.getD q 0=lo/\Seg c q lo hi)/\∀i,i<c.length->∃q lo hi:Nat,q<r/\Seg c q lo hi/\lo<=i/\i<=hi
theorem W4 {α:Type} (d:α) (a b:List α) (h:i<a.length):(a++b).getD i d=a.getD i d:=by
 grind
theorem OZ {α:Type} (d:α) (a b:List α) (i:Nat):(a++b).getD (a.length+i) d=b.getD i d:=by
 grind
theorem Seg.app {lo hi:Nat} (h:Seg c i lo hi) (d:List aW):Seg (c++d) i lo hi:=by
 have⟨h1,e,f,g⟩:=h;refine⟨h1,by grind,by grind,λq a b=>?_⟩;grind
theorem QaL (c:List aW) {t:ah} (r:Nat) (h:ku t) (e:NdT t):Seg (c++qF t r c.length) r c.length (c.length+bt t+2):=by
 have hl:=iR t (c.length+1) h;have f:qF t r c.length=(⟨4,0,0,[]⟩::(bS t (c.length+1)++[⟨4,1,0,[]⟩]))++[⟨7,r,0,[]⟩]:=by grind [qF]
 have g:((⟨4,0,0,[]⟩:aW)::(bS t (c.length+1)++[⟨4,1,0,[]⟩])).length=bt t+2:=by simp[hl]
 rw[f];refine⟨ω,by grind,?_,λi a b=>?_⟩
 ·grind
 ·obtain⟨k,rfl⟩:∃k,i=c.length+k:=⟨i-c.length,ω⟩;rw[OZ,W4 _ _ _ ω];have d:((⟨4,0,0,[]⟩:aW)::(bS t (c.length+1)++[⟨4,1,0,[]⟩])).getD k cX∈((⟨4,0,0,[]⟩:aW)::(bS t (c.length+1)++[⟨4,1,0,[]⟩])):=by
   grind
  generalize ((⟨4,0,0,[]⟩:aW)::(bS t (c.length+1)++[⟨4,1,0,[]⟩])).getD k cX=x at d ⊢;rcases Zbf.1 d with rfl | d
  ·exact⟨Zaj _,.inr (.inr (.inr (.inl ⟨rfl,by grind,by grind,rfl,rfl⟩)))⟩
  ·rcases Zax.1 d with d | d
   ·exact(C8 t _ h e x d).mono ω ω
   ·rw[ZaI.1 d];exact⟨Zaj _,.inr (.inr (.inr (.inl ⟨rfl,by grind,by grind,rfl,rfl⟩)))⟩
theorem W5 {t:ah} (h:W3 c Z i) (hw:ku t) (m:NdT t):W3 (c++qF t i c.length) (Z++[(c.length:Int)]) (i+1):=by
 have⟨h1,k,l⟩:=h;have n:=QaL c i hw m;have hl:=iR t (c.length+1) hw;refine⟨by simp[h1],λq o=>?_,λr hi=>?_⟩
 ·by_cases j:q<i
  ·have⟨lo,hi,e,hs⟩:=k q j;exact⟨lo,hi,by grind,hs.app _⟩
  ·grind
 ·by_cases g:r<c.length
  ·have⟨q,lo,f,a,b,d,e⟩:=l r g;exact⟨q,lo,f,ω,b.app _,d,e⟩
  ·grind [qF]
theorem Me:∀(l:List (List Nd)) (r:Nat) (c:List aW) (s:List Int),(∀x∈l,∀n∈x,iO n)->W3 c s r->c.length<=400->(ni l r c s).2.1=0->W3 (ni l r c s).1.1 (ni l r c s).1.2 (r+l.length)/\(ni l r c s).1.1.length<=400
 | [],r,c,s,_,h,f,_=>⟨h,f⟩
 | x::l,r,c,s,hn,h,f,he=>by
  rw[ni] at he ⊢;by_cases i:dS x=false
  ·grind
  ·rw[Zaa i] at he ⊢;have⟨t,d,k,m⟩:=jl (L:=x) (by grind);have ht:rC x=t:=by
    have:=ki (a:=0) (r:=[]) d (show x.drop 0=aD t++[] by grind);assumption
   by_cases e:400<c.length+bt (rC x)+3
   ·grind
   ·rw[Zaa e] at he ⊢;rw[ht] at he e ⊢;have b:NdT t:=λn g=>hn x (by simp) n (by grind)
    have hl:=iR t (c.length+1) d;have:=Me l (r+1) _ _ (λy j=>hn y (by simp[j])) (W5 h d b) (by grind [qF]) he;grind
theorem ub {af:List aW} {Q:Int->Prop} (h0:∀i,Q i->0<=i) (b:∀i,Q i->((af.getD i.toNat cX).op=2->Q (af.getD i.toNat cX).x/\Q (af.getD i.toNat cX).y)/\((af.getD i.toNat cX).op=3->Q (af.getD i.toNat cX).x)/\((af.getD i.toNat cX).op≠2->(af.getD i.toNat cX).op≠3->(af.getD i.toNat cX).op≠7->Q (i+1))):
  ∀(f:Nat) (s:List Bool) (l:List Int),(∀i:Nat,s.getD i false->Q i)->(∀i∈l,Q i)->∀i:Nat,(j4 af f s l).getD i false->Q i
 | 0,s,l,hs,_=>hs
 | f+1,s,l,hs,hl=>by
  rw[j4];split
  ·exact hs
  ·have hi:Q (l.getD (l.length-1) 0):=by
    rw[Zag,Zaf ω];grind
   have hk:∀i∈l.take (l.length-1),Q i:=λi hi=>hl i (Zcg hi)
   simp only;generalize l.getD (l.length-1) 0=j at hi ⊢;generalize l.take (l.length-1)=k at hk ⊢;have c:=h0 j hi;have a:∀i:Nat,(s.set j.toNat true).getD i false->Q i:=λi h=>by
    by_cases e:i=j.toNat
    ·subst e;rw[show((j.toNat:Nat):Int)=j by omega];exact hi
    ·grind
   split
   ·exact ub h0 b f s k hs hk
   ·split
    ·refine ub h0 b f _ _ a λi h=>?_
     rcases Zax.1 h with h | h
     ·exact hk i h
     ·simp only[Zbf,Zds,Zdt] at h;rcases h with rfl | rfl
      ·grind
      ·grind
    ·split
     ·refine ub h0 b f _ _ a λi h=>?_
      grind
     ·split
      ·exact ub h0 b f _ k a hk
      ·rename_i d g m
       refine ub h0 b f _ _ a λi h=>?_
       grind
theorem QaM (h:W3 c Z i) (D:i<=8) (z:c.length<=400):F5 ⟨c,Z⟩:=by
 have⟨h1,t,u⟩:=h;have hi:∀r,r<c.length->(∃q:Nat,q<i/\c.getD r cX=⟨7,q,0,[]⟩)\/(r+1<c.length/\nt 0 (c.length-1) (c.getD r cX)):=λr hi=>by
  have⟨q,lo,l,k,⟨p,a2,a3,a4⟩,A,E⟩:=u r hi;by_cases e:r=l
  ·grind
  ·exact .inr ⟨ω,(a4 r A ω).mono ω ω⟩
 refine⟨z,by grind,λr g=>?_,λx j=>?_,⟨by grind,λr g=>?_⟩,λq k=>?_⟩
 ·show Ez (c.getD r cX) (decide ((r:Int)+1<(c.length:Int))) c.length Z.length
  have j:=hi r g;generalize c.getD r cX=x at j ⊢;unfold Ez;rcases j with⟨q,k,e⟩ | ⟨w,h0,⟨o,a,b,d⟩ | ⟨o,a,b,d,e,f⟩ | ⟨o,a,b,d,e⟩ | ⟨o,a,b,d,e⟩ | ⟨o,a,b,d⟩⟩
  ·rw[e];simp[ij,h1];omega
  ·grind
  ·simp[o,f,ij];omega
  ·simp[o,d,e,ij];omega
  ·simp[o,d,e,ij];omega
  ·rcases o with o | o<;>(simp[o,a,b,d];omega)
 ·have⟨r,g,e⟩:=Za3 j;rcases hi r g with⟨q,k,B⟩ | ⟨_,h0,_⟩
  ·grind
  ·grind
 ·have j:=hi r g;show((c.getD r cX).op=2->0<=(c.getD r cX).x/\(c.getD r cX).x<c.length/\0<=(c.getD r cX).y/\(c.getD r cX).y<c.length)/\((c.getD r cX).op=3->0<=(c.getD r cX).x/\(c.getD r cX).x<c.length)/\((c.getD r cX).op≠2->(c.getD r cX).op≠3->(c.getD r cX).op≠7->r+1<c.length)
  rcases j with⟨q,k,e⟩ | ⟨w,h0,⟨o,a,b,d⟩ | ⟨o,a,b,d,e,f⟩ | ⟨o,a,b,d,e⟩ | ⟨o,a,b,d,e⟩ | ⟨o,a,b,d⟩⟩
  ·rw[e];simp
  ·omega
  ·omega
  ·omega
  ·omega
  ·omega
 ·have k:q<i:=by grind
  have⟨lo,l,e,p,a2,a3,a4⟩:=t q k;show 0<=Z.getD q 0/\Z.getD q 0<c.length/\∀r:Nat,r<c.length->(lJ c (Z.getD q 0)).getD r false->(c.getD r cX).op=7->(c.getD r cX).x=q
  rw[e];refine⟨ω,ω,λr g m C=>?_⟩;have v:=ub (af:=c) (Q:=λr=>(lo:Int)<=r/\r<=l) (λr h=>ω) (λr v=>by
   obtain⟨n,rfl⟩:=Zau (show 0<=r by omega);rw[Zad];by_cases en:n=l
   ·rw[en,a3];simp
   ·have j:=a4 n ω ω;generalize c.getD n cX=x at j ⊢;obtain⟨h0,⟨o,a,b,d⟩ | ⟨o,a,b,d,e,f⟩ | ⟨o,a,b,d,e⟩ | ⟨o,a,b,d,e⟩ | ⟨o,a,b,d⟩⟩:=j
    ·omega
    ·omega
    ·omega
    ·omega
    ·rcases o with o | o<;>(simp[o];omega)) (3*c.length+1) (KR c.length) [(lo:Int)] (λr h=>by
    unfold KR at h;rw[Zag,List.getElem?_replicate] at h;split at h<;>simp at h) (λr h=>by grind) r m
  by_cases en:r=l
  ·rw[en,a3]
  ·obtain⟨h0,⟨o,_⟩ | ⟨o,_⟩ | ⟨o,_⟩ | ⟨o,_⟩ | ⟨o | o,_⟩⟩:=a4 r ω ω<;>omega
theorem W6 {l:List (List Nd)} (f:∀x∈l,∀n∈x,iO n) (c:(bZ l).2.1=0):F5 ⟨(bZ l).1.1,(bZ l).1.2⟩/\(bZ l).1.2.length=l.length:=by
 have e:bZ l=IN l:=by grind [bZ,aC]
 rw[e] at c ⊢;unfold IN at c ⊢;split at c
 ·grind
 ·rename_i d
  rw[Zaa d];have⟨a,b⟩:=Me l 0 [] [] f ⟨rfl,λq h=>absurd h ω,λi h=>absurd h (Zbo _)⟩ (Zaj _) c;rw[Za6] at a;exact⟨QaM a ω b,a.1⟩
theorem Mf:∀(l:List iX) (i:Nat) (t:List Row) (o:List (List Nd)),(l3 l i t o).an=0->(l3 l i t o).out.length=o.length+l.length
 | [],i,t,o,_=>rfl
 | x::l,i,t,o,h=>by
  rw[l3] at h ⊢;split at h
  ·grind
  ·rename_i h1
   rw[Zaa h1];split at h
   ·grind
   ·rename_i a
    rw[Zaa a];split at h
    ·grind
    ·rename_i b
     rw[Zaa b,Mf l _ _ _ h];simp;omega
theorem Mg {y:cj} (hl:y.r.length<=1000) (h:oK y):F5 ⟨(b9 y).af,(b9 y).st⟩/\XG ⟨(b9 y).cc,(b9 y).cs⟩/\(y.c≠[]->F5 ⟨(b9 y).cc,(b9 y).cs⟩/\(b9 y).cs.length=1)/\(b9 y).st.length=y.r.length:=by
 have q:b9 y=jm y:=by grind [b9,aC]
 obtain⟨s,t⟩:(∀x∈(bs y).out,cE x)/\(bs y).out.length<=y.r.length:=by
  grind [wo,bs,aC]
 have h0:(jm y).an=0:=by grind [oK]
 rw[q];by_cases h1:8<y.r.length
 ·grind [jm,LB]
 by_cases d:(bs y).an=0
 case neg=>rw[VW h1 d] at h0;exact absurd h0 d
 by_cases i:y.c≠[]/\(cm y.c).2.1≠0
 ·rw[VX h1 d i.1 i.2] at h0;exact absurd h0 i.2
 have f:y.c≠[]->(cm y.c).2.1=0:=λa=>Zch λb=>i ⟨a,b⟩
 by_cases g:(bZ (bs y).out).2.1=0
 case neg=>rw[VY h1 d f g] at h0;exact absurd h0 g
 have m:=W6 s g;have p:(bs y).out.length=y.r.length:=by
  have e:bs y=l3 y.r 0 [] []:=aC _;rw[e] at d ⊢;exact(Mf _ _ _ _ d).trans (Za6 _)
 by_cases j:y.c=[]
 ·rw[V1 h1 d f g j];exact⟨m.1,⟨Zaj _,Zaj _,λx n=>nomatch n⟩,λh=>absurd j h,m.2.trans p⟩
 ·by_cases k:(bZ [cP (cm y.c).1]).2.1=0
  ·rw[V0 h1 d f g j k];have o:=W6 (l:=[cP (cm y.c).1]) (λx n=>by rw[ZaI.1 n];exact wm (ma _)) k;exact⟨m.1,o.1.pg,λ_=>⟨o.1,o.2⟩,m.2.trans p⟩
  ·rw[VZ h1 d f g j k] at h0;exact absurd h0 k
theorem F5.cod {p:iC} (h:F5 p):Qis p.af:=by
 refine⟨by have:=h.1;omega,λx a b=>?_⟩;obtain⟨i,hi,e⟩:=Za3 a;have hs:=h.2.2.1 i hi;have e2:p.af.getD i cX=x:=by grind
 have hs:Ez (p.af.getD i cX) (decide ((i:Int)+1<(p.af.length:Int))) p.af.length p.av.length:=hs;grind [Ez,ij]
theorem QlV (h:ldK s):F5 (lM s).p/\XG (lM s).q/\(jnR (lM s)->F5 (lM s).q/\(lM s).q.av.length=1):=by
 rw[show lM s=_ from aC _];have⟨h1,b,d,_⟩:=Mg (y:=jU s) (by grind [C7]) h;refine⟨h1,b,λa=>d λe=>?_⟩;have a:(!seq (jU s).c []):=a;grind
theorem QfQ (h:ldK s):(lM s).p.av.length=(lM s).s.r.length:=by
 rw[show lM s=_ from aC _];exact(Mg (y:=jU s) (by grind [C7]) h).2.2.2
def XK.Q {s:Dg} {N:Int} (h:XK s N):scQ s:=⟨⟨h.1,by have:=h.2.1;omega⟩,h.2.2.2.1.2⟩
structure WlY where
 s:cj
 x:FN
def vJ (l:List By) (k:Nat):Int:=(l.take k).foldl (λs b=>lk (vH (s,b))) 0
def QlW (y:List By):Prop:=y.length<=1000/\∀k,k<y.length->(y.getD k []).length<=1000000000000
def W7:bh D:=bO 84 (List By) (QtP 21) QlW (λy=>[.list 21 y]) λy=>.int .u32 (vJ y y.length)
def QtV (y:W7.Y):cH D:=⟨[],[],[(58,⟨Nat,[6,7],λk=>[(3,.int .u32 (vJ y k)),(8,Qvo k)],[],λ_=>[],0,λk=>k<=(y:List By).length,λk=>(y:List By).length-k⟩)],[],1,[]⟩
def qJ (s:cj):Int:=FZ .i64 (oO .i64 (jP .i64 (vH (0,nr [] s))) 16) (jP .i64 (lF .u32 (vH (1,nr [] s)) 65535))
def y8 (s:cj):Prop:=30+eO s.r+s.c.length<=536870912
def QaN:bh D:=⟨35,j8,Τ,λy=>y8 y.s,λ_=>[.ptr 0 0],IU,λy=>Qvo (qJ y.s),IU,3,3⟩
def QaO:bh D:=bO 39 cj Lx y8 (λy=>[CM y]) λy=>Qvo (qJ y)
def W8:bh D:={ OT with f:=32 }
def scE (y:Dh):Q6:=⟨y.h,y.m,y.L⟩
def y9 (y:FN):List Q6:=[scE y.a8,scE y.aH,scE y.aZ]
def ud (y:FN) (k:Nat):Bool:=(y9 y).take k |>.all λx=>fb ⟨x.h,x.m,x.L⟩
def rG (y:FN):Bool:=lk (fb y.a8&&fb y.aH&&fb y.aZ&&aB y.st.pos 0&&aB y.st.bN 0&&!y.st.ch&&!y.st.jH&&aB y.st.bj 0&&aB y.st.size 0&&aB (ag y.st.aS) 0)
def O0:bh D:=bO 31 FN (λa s=>match a with
 | [m]=>QfP m s
 | _=>.fail) (λ_=>True) (λy=>[saA y]) λy=>.bool (rG y)
def Qt0 (y:O0.Y):cH D:=⟨[],[],[(58,⟨Nat,[1],λk=>[(3,.bool (ud y k)),(12,.list 20 (y9 y)),(13,.num .i64 3),(14,Qvo k)],[0],λ_=>[],1,λk=>k<=3,λk=>3-k⟩)],[],1,[]⟩
structure lN where
 live:Bool
 a:Int
 b:Int
 c:Int
 d:Int
 x:FN
def O3 (y:lN):List (AV D.E):=[.bool y.live,.int .i64 y.a,.int .i64 y.b,.int .i64 y.c,.int .u32 y.d]++dh (saA y.x)
def QaP (v:AV D.E) (s:St D.E):C lN:=az (asAgg v) λcs=>match cs with
 | l::a::b::c::d::x=>aP (zh l) λl _=>aP (cT a) λ_ a=>aP (cT b) λ_ b=>aP (cT c) λ_ c=>aP (cT d) λ_ d=>az (QfP (.agg x) s) λx=>.ret ⟨l,a,b,c,d,x⟩
 | _=>.fail
def ptN (y:lN):Bool:=!(aw y.a 1||aw 12 y.a||aw y.b 1||aw 1099511627776 y.b)
def ptB (y:lN):Bool:=aB y.c 0&&aB y.d 0&&rG y.x
def C9 (r:j8) (y:lN):zl:=⟨r,y.x.st,y.x.a8,y.x.aH,y.x.aZ⟩
def gE (y:j8×lN):Bool:=lk (ptN y.2&&(if y.2.live=true then aG 0 y.2.c&&aG y.2.c 16&&ny (C9 y.1 y.2) else ptB y.2))
def gP (y:lN):Bool:=lk (ptN y&&!y.live&&ptB y)
def QlX (a:List (AV D.E)) (s:St D.E):C (j8×lN):=match a with
 | [r,x]=>az (Qfx r s) λr=>az (QaP x s) λx=>.ret (r,x)
 | _=>.fail
def QlY (a:List (AV D.E)) (s:St D.E):C (j8×lN):=match a with
 | [r,x]=>az (QfM r s) λr=>az (QaP x s) λx=>.ret (r,x)
 | _=>.fail
def QaQ (a:List (AV D.E)) (s:St D.E):C lN:=match a with
 | [r,x]=>match r with
  | .fT=>QaP x s
  | _=>.fail
 | _=>.fail
def W9:bh D:=⟨9,j8×lN,QlX,λy=>WK (C9 y.1 y.2),λy=>[.ptr 0 0,.agg (O3 y.2)],λy=>IU y.1,λy=>.bool (gE y),λy=>IU y.1,3,3⟩
def W':bh D:=bO 9 lN QaQ (λ_=>True) (λy=>[.fT,.agg (O3 y)]) λy=>.bool (gP y)
def W_:bh D:=⟨10,j8×lN,QlY,λy=>y7 (C9 y.1 y.2),λy=>[.ptr 0 0,.agg (O3 y.2)],λy=>XP y.1,λy=>.bool (gE y),λy=>XP y.1,1,1⟩
def Xa:bh D:=bO 10 lN QaQ (λ_=>True) (λy=>[.fT,.agg (O3 y)]) λy=>.bool (gP y)
def Mh (x:FN):bd:=⟨x.st.pos,x.st.bN,x.st.ch,x.st.jH,x.st.bj,x.st.size,x.st.aS,⟨x.a8.h,x.a8.m,x.a8.L⟩,⟨x.aH.h,x.aH.m,x.aH.L⟩,⟨x.aZ.h,x.aZ.m,x.aZ.L⟩⟩
def Po (y:lN):By:=lk (a7 (a7 (cJ [] y.live) y.a) y.b)
def ptT (y:j8×lN):By:=lk (qP (a7 (a7 (a7 (Po y.2) (qJ y.1.s)) y.2.c) (jP .i64 y.2.d)) (Mh y.2.x))
def nu (y:j8×lN):By:=lk (if gE y=true then if y.2.live=true then ptT y else Po y.2 else[])
def zT (y:lN):By:=lk (if gP y=true then Po y else[])
def ptP (y:j8×lN):Prop:=y8 y.1.s/\(gE y->200+dc y.2.x.st.aS+eB (Mh y.2.x).a8+eB (Mh y.2.x).aH+eB (Mh y.2.x).aZ<=536870912)
def QaR:bh D:=⟨12,j8×lN,QlX,λy=>WK (C9 y.1 y.2)/\ptP y,λy=>[.ptr 0 0,.agg (O3 y.2)],λy=>IU y.1,λy=>.str (nu y),λy=>IU y.1,3,3⟩
def Mi:bh D:=bO 12 lN QaQ (λ_=>True) (λy=>[.fT,.agg (O3 y)]) λy=>.str (zT y)
def QaS:bh D:=⟨13,j8×lN,QlY,λy=>y7 (C9 y.1 y.2)/\ptP y,λy=>[.ptr 0 0,.agg (O3 y.2)],λy=>XP y.1,λy=>.str (nu y),λy=>XP y.1,1,1⟩
def QaT:bh D:=bO 13 lN QaQ (λ_=>True) (λy=>[.fT,.agg (O3 y)]) λy=>.str (zT y)
def QfR:bh D:={ QlS with f:=6 }
def ue (y:FN):Bool:=lk (aw (ag y.st.aS) 12&&aw (ag y.a8.L) 12&&aw (ag y.aH.L) 12&&aw (ag y.aZ.L) 12&&aw (ag y.a8.h) 9&&aw (ag y.aH.h) 9&&aw (ag y.aZ.h) 9)
def QaU:bh D:=bO 7 FN (λa s=>match a with
 | [m]=>QfP m s
 | _=>.fail) (λ_=>True) (λy=>[saA y]) λy=>.bool (ue y)
def QaV:bh D:=bO 11 lN (λa s=>match a with
 | [m]=>QaP m s
 | _=>.fail) (λ_=>True) (λy=>[.agg (O3 y)]) λy=>.agg (O3 y)
def kD (y:QaV.Y):Prop:=vc [] f11 QaV (λ_=>dY ()) y
def XQ (l:dd):Nat:=11*l.aJ.length+10
def pP (l:List dd):Nat:=(l.map XQ).sum
def C_ (y:lN):Nat:=pP y.x.st.aS+(y.x.a8.h.length+pP y.x.a8.L)+(y.x.aH.h.length+pP y.x.aH.L)+(y.x.aZ.h.length+pP y.x.aZ.L)
def QfS:bh D:=bO 8 Unit (λ_ _=>.ret ()) (λ_=>True) (λ_=>[]) λ_=>.lit true
end
end sx
namespace sx
open Go Go.RowKit Go.ChangeShapes Go.WideShapes Go.ChangeAt cls syn
set_option maxRecDepth 100000
variable {Z:Type}
theorem y_ {f:Z->Nat}:∀(xs:List Z) (g:Nat->Nat),(∀i (hi:i<xs.length),f xs[i]<=g i)->(xs.map f).sum<=((List.range xs.length).map g).sum
 | [],g,_=>by simp
 | x::xs,g,h=>by
  have h0:=h 0 (by simp);have h1:=y_ xs (λi=>g (i+1)) λi hi=>h (i+1) (by simp;omega)
  rw[Zae,List.range_succ_eq_map,Zbl,Zco,Zbl,Zco,Zdq];show f x+_<=g 0+((List.range xs.length).map (λi=>g (i+1))).sum
  have h0:f x<=g 0:=h0;omega
theorem QaW (xs:List Z):(xs.map λ_=>1).sum=xs.length:=by induction xs with
 | nil=>rfl
 | cons x xs a=>simp[a];omega
theorem FQ (d:DataW Z):1<=Rows.uptoBulk d:=by
 cases d with
 | lit l=>cases l<;>simp[Rows.uptoBulk]
 | nil=>simp[Rows.uptoBulk]
 | ptr d=>simp[Rows.uptoBulk]
 | slice elems spare=>simp[Rows.uptoBulk]
 | agg parts=>simp[Rows.uptoBulk]
 | iface t d=>simp[Rows.uptoBulk]
 | map entries=>simp[Rows.uptoBulk]
 | held h=>simp[Rows.uptoBulk]
section
variable {H:Type} {a_:TypeId×Value->H} {P:Program} {W:World} {held:Bool} {M:Pm D}
def iW (M:Pm D) (W:World) (l:List (AV D.E)) (cs:List Value):Prop:=l.length=cs.length/\∀(j:Nat) (u:AV D.E) (v:Value),l[j]?=some u->cs[j]?=some v->∀b o,W.cell? ⟨b,o,none⟩=some v->M.sg b o=some u
theorem iW.nil:iW M W [] []:=⟨rfl,λj u v h=>by simp at h⟩
def iW.cons {u:AV D.E} {v:Value} {l:List (AV D.E)} {cs:List Value} (h:∀b o,W.cell? ⟨b,o,none⟩=some v->M.sg b o=some u) (k:iW M W l cs):iW M W (u::l) (v::cs):=
 ⟨by simp[k.1],λj c d e a=>by
  cases j with
  | zero=>simp at e a;subst e;subst a;exact h
  | succ j=>exact k.2 j c d (by simpa using e) (by simpa using a)⟩
def Da {c:Nat} {e:TypeId} {v:Value} {w:Nat} {Q:D.E c->Nat->Prop} (L:P.cellsOf e=D.size c) (C:0<D.size c)
  (l:∀n cs x,Pf a_ P W held n e cs=some x->∃y:D.E c,iW M W (D.a_ c y) cs/\Q y (Rows.uptoBulk x.1)) (h:Nj a_ P W held (.sl e) v w):
  ∃(xs:List (D.E c)) (g:Nat->Nat),VR M (.list c xs) v/\((List.range xs.length).map g).sum<=w/\∀i (hi:i<xs.length),Q xs[i] (g i):=by
 rcases h with rfl | ⟨a,len,cap,n,rfl,hl,N,t,k,R⟩
 ·exact⟨[],λ_=>0,.ed,by simp,λi hi=>by simp at hi⟩
 ·by_cases h0:len=0
  ·subst h0;exact⟨[],λ_=>0,.ed,by simp,λi hi=>by simp at hi⟩
  have O:∀i,i<len->∃y:D.E c,∃cs,W.cells? 0 (a.add (i*D.size c)) (D.size c)=some cs/\iW M W (D.a_ c y) cs/\Q y (Rows.uptoBulk (t i)):=λi hi=>by
   obtain⟨cs,x,h1,K⟩:=R i hi;rw[L] at h1;obtain⟨y,S,r⟩:=l n cs _ K;exact⟨y,cs,h1,S,r⟩
  haveI:Inhabited (D.E c):=⟨D.XU c⟩
  obtain⟨f,m⟩:=Go.Deep.choose_lt O;obtain⟨b,o,sp⟩:=a;obtain⟨G,c1,c2,_⟩:=m 0 ω;have I:((⟨b,o,sp⟩:Addr).add (0*D.size c)).add 0=⟨b,o,sp⟩:=by simp[Addr.add]
  have d:=(World.cells?_some c1).2.2 0 C;rw[I] at d;have q:(D.a_ c (f 0)).length=D.size c:=fL.len c _;rw[Zaf (by rw[<-c2.1,q];exact C)] at d;obtain rfl:sp=none:=by
   cases sp with
   | none=>rfl
   | some s=>
    simp only[World.cell?] at d;split at d<;>simp at d
  have hlen:((List.range len).map f).length=len:=by simp
  refine⟨(List.range len).map f,λi=>Rows.uptoBulk (t i),?_,by rw[hlen];exact k,λi hi=>?_⟩
  ·have F:VR M (.list c ((List.range len).map f)) (.slice (some ⟨b,o,none⟩) ((List.range len).map f).length cap):=by
    refine .list (λi hi j u hu=>?_) (by rw[hlen];unfold maxLen at N;omega) (by rw[hlen];exact hl);have p:i<len:=by simpa using hi
    simp only[ZcD,Zdf] at hu;obtain⟨cs,H,z,_⟩:=m i p;have B:j<D.size c:=by rw[<-fL.len c (f i)];exact(Zam.1 hu).1
    have A:=(World.cells?_some H).2.2 j B;have J:((⟨b,o,none⟩:Addr).add (i*D.size c)).add j=⟨b,o+i*D.size c+j,none⟩:=by
     rw[Addr.add_lit,Addr.add_lit]
    rw[J,Zaf (by rw[<-z.1,fL.len];exact B)] at A;exact z.2 j u _ hu (Zaf _) _ _ A
   rw[hlen] at F;exact F
  ·simp only[ZcD,Zdf];obtain⟨_,_,_,r⟩:=m i (by simpa using hi);exact r
end
def jr {k:IntKind} {n:Int} (h:(Lit.int k n).wf):fK k n:=by
 rw[cL];cases k<;>simp[Lit.wf,IntKind.min,IntKind.max,IntKind.signed,IntKind.bits] at h<;>simp[De,s9]<;>omega
section
variable {H:Type} {a_:TypeId×Value->H} {W:World} {held:Bool} {M:Pm D}
variable {w:Nat} {s:ByteArray} {Z:List Value} {x:DataW H×List MemPlace}
def dp {k:IntKind} {n:Int} (a:zq (lV W) M) (h:(Lit.int k n).wf):∀b o,W.cell? ⟨b,o,none⟩=some (.int k n)->M.sg b o=some (.int k n):=λb o c=>a b o _ (by
 show(W.cell? ⟨b,o,none⟩).bind kO=_
 rw[c];show kO (.int k n)=_
 simp only[kO,jr h,cond_true])
def Xb {v:Bool} (a:zq (lV W) M):∀b o,W.cell? ⟨b,o,none⟩=some (.bool v)->M.sg b o=some (.bool v):=λb o c=>a b o _ (by
 show(W.cell? ⟨b,o,none⟩).bind kO=_
 rw[c];rfl)
def BB (h:s.size<=maxLen):s.data.toList.length<=9223372036854775807:=by
 have:s.data.toList.length=s.size:=by rw[Zba];rfl
 unfold maxLen at h;omega
def Mj (a:zq (lV W) M) (h:s.size<=maxLen):∀b o,W.cell? ⟨b,o,none⟩=some (.string s)->M.sg b o=some (.str s.data.toList):=λb o c=>a b o _ (by
 show(W.cell? ⟨b,o,none⟩).bind kO=_
 rw[c];show kO (.string s)=_
 simp only[kO];rw[Zac (BB h)])
def QaX (b:zq (lV W) M) (n:Nat) (cs:List Value) (x:DataW H×List MemPlace) (h:Pf a_ prog W held n 5 cs=some x):∃y:D.E 0,iW M W (D.a_ 0 y) cs/\1<=Rows.uptoBulk x.1:=by
 have hl:=pe 8 5 [.int .u8] cs n x (by kernel_rfl) h;obtain⟨v,r,d,c,rfl,⟨m,rfl,hw,_⟩,a,_⟩:=hl.aM;obtain rfl:=a.jA;refine⟨b8 m,?_,FQ _⟩;have e:D.a_ 0 (b8 m)=[.int .u8 m]:=by
  show[AV.int .u8 ((b8 m).toNat:Int)]=_
  rw[mI (jr hw)];rfl
 rw[e];exact .cons (dp b hw) .nil
def Xc (a:zq (lV W) M) (n:Nat) (cs:List Value) (x:DataW H×List MemPlace) (h:Pf a_ prog W held n 179 cs=some x):∃y:D.E 1,iW M W (D.a_ 1 y) cs/\11<=Rows.uptoBulk x.1:=by
 have g0:=pe 8 179 [.int .i64,.int .i64,.int .i64,.int .i64,.int .i64,.int .i64,.int .i64,.int .i64,.int .i64,.int .i64,.int .i64] cs n x (by kernel_rfl) h;obtain⟨v,r,U,q,rfl,⟨m0,rfl,w0,a0⟩,g1,L⟩:=g0.aM;obtain⟨v,r,V,s,rfl,⟨m1,rfl,g,G⟩,g2,N⟩:=g1.aM;obtain⟨v,r,X,t,rfl,⟨m2,rfl,i,a2⟩,g3,e2⟩:=g2.aM;obtain⟨v,r,Y,u,rfl,⟨m3,rfl,j,a3⟩,g4,O⟩:=g3.aM;obtain⟨v,r,Z,w,rfl,⟨m4,rfl,w4,a4⟩,g5,P⟩:=g4.aM;obtain⟨v,r,u5,z,rfl,⟨m5,rfl,k,a5⟩,g6,Q⟩:=g5.aM;obtain⟨v,r,u6,A,rfl,⟨m6,rfl,l,I⟩,g7,R⟩:=g6.aM;obtain⟨v,r,u7,B,rfl,⟨m7,rfl,m,J⟩,g8,S⟩:=g7.aM;obtain⟨v,r,u8,C,rfl,⟨m8,rfl,o,K⟩,g9,e8⟩:=g8.aM;obtain⟨v,r,u9,F,rfl,⟨m9,rfl,p,a9⟩,g10,T⟩:=g9.aM;obtain⟨v,r,f,c,rfl,⟨m10,rfl,b,d⟩,g11,e⟩:=g10.aM;obtain rfl:=g11.jA;exact⟨(⟨m0,m1,m2,m3,m4,m5,m6,m7,m8,m9,m10⟩:aX),.cons (dp a w0) (.cons (dp a g) (.cons (dp a i) (.cons (dp a j) (.cons (dp a w4) (.cons (dp a k) (.cons (dp a l) (.cons (dp a m) (.cons (dp a o) (.cons (dp a p) (.cons (dp a b) (.nil))))))))))),ω⟩
def QaY (x y:D.E 1) (h:D.a_ 1 x=D.a_ 1 y):x=y:=by
 have e:∀z:aX,xE (dj 1 z)=some z:=λz=>rfl
 have a:xE (dj 1 x)=xE (dj 1 y):=ZaR xE h;exact ZbN ((e x).symm.trans (a.trans (e y)))
theorem QaZ {α:Type} (xs:List α):(xs.map λ_=>11).sum=11*xs.length:=by induction xs with
 | nil=>rfl
 | cons x xs a=>simp[a];omega
def Xd (n:Nat) (cs:List Value) (x:DataW H×List MemPlace) (h:Pf a_ prog W held n 106 cs=some x):∃y:D.E 2,iW (mJ 1 W) W (D.a_ 2 y) cs/\XQ y<=Rows.uptoBulk x.1:=by
 have g0:=pe 8 106 [.bool,.int .i64,.int .i64,.int .i64,.int .i64,.int .i64,.int .i64,.int .i64,.int .i64,.int .i64,.int .i64,.sl 179] cs n x (by kernel_rfl) h;have a:=(Cl 1 W).2;obtain⟨v,r,u0,J,rfl,⟨m0,rfl⟩,g1,e0⟩:=g0.aM;obtain⟨v,r,u1,K,rfl,⟨m1,rfl,w,V⟩,g2,e1⟩:=g1.aM;obtain⟨v,r,u2,L,rfl,⟨m2,rfl,z,a2⟩,g3,e2⟩:=g2.aM;obtain⟨v,r,u3,N,rfl,⟨m3,rfl,A,a3⟩,g4,e3⟩:=g3.aM;obtain⟨v,r,u4,O,rfl,⟨m4,rfl,w4,a4⟩,g5,e4⟩:=g4.aM;obtain⟨v,r,u5,P,rfl,⟨m5,rfl,B,a5⟩,g6,e5⟩:=g5.aM;obtain⟨v,r,u6,R,rfl,⟨m6,rfl,C,X⟩,g7,e6⟩:=g6.aM;obtain⟨v,r,u7,S,rfl,⟨m7,rfl,F,Y⟩,g8,e7⟩:=g7.aM;obtain⟨v,r,u8,T,rfl,⟨m8,rfl,G,Z⟩,g9,e8⟩:=g8.aM;obtain⟨v,r,u9,U,rfl,⟨m9,rfl,I,a9⟩,g10,e9⟩:=g9.aM;obtain⟨v,r,t,e,rfl,⟨m10,rfl,d,j⟩,g11,l⟩:=g10.aM;obtain⟨v,r,u,i,rfl,hs,g12,m⟩:=g11.aM;obtain rfl:=g12.jA;obtain⟨xs,g,s,hg,q⟩:=Da (c:=1) (M:=lV W) (Q:=λ(_:D.E 1) n=>11<=n) (by kernel_rfl) (by exact ZcY (by kernel_rfl)) (λn cs x h=>Xc (λ_ _ _ h=>h) n cs x h) hs;have k:=y_ (f:=λ(_:D.E 1)=>11) xs g q;rw[QaZ] at k;refine⟨(⟨m0,m1,m2,m3,m4,m5,m6,m7,m8,m9,m10,xs⟩:dd),.cons (Xb a) (.cons (dp a w) (.cons (dp a z) (.cons (dp a A) (.cons (dp a w4) (.cons (dp a B) (.cons (dp a C) (.cons (dp a F) (.cons (dp a G) (.cons (dp a I) (.cons (dp a d) (.cons (λb o p=>Ek QaY s p) .nil))))))))))),?_⟩;show 11*xs.length+10<=_
 omega
def JB {v:Value} (h:Nj a_ prog W held (.sl 5) v w):∃xs:By,VR (mJ 1 W) (.list 0 (xs:List (D.E 0))) v/\xs.length<=w:=by
 obtain⟨xs,g,h1,a,b⟩:=Da (c:=0) (Q:=λ(_:D.E 0) n=>1<=n) (by kernel_rfl) (by exact ZcY (by kernel_rfl)) (λn cs x h=>QaX (Cl 1 W).2 n cs x h) h;have k:=y_ (f:=λ(_:D.E 0)=>1) xs g b;rw[QaW] at k;exact⟨xs,h1,Zav k a⟩
def wy {v:Value} (h:Nj a_ prog W held (.sl 106) v w):∃xs:List dd,VR (mJ 1 W) (.list 2 (xs:List (D.E 2))) v/\pP xs<=w:=by
 obtain⟨xs,g,h1,a,b⟩:=Da (c:=2) (Q:=λ(y:D.E 2) n=>XQ y<=n) (by kernel_rfl) (by exact ZcY (by kernel_rfl)) (λn cs x h=>Xd n cs x h) h;exact⟨xs,h1,Zav (y_ (f:=XQ) xs g b) a⟩
def Xe (h:Pf a_ prog W held w 39 Z=some x):∃y:lN,LR (mJ 1 W) (O3 y) Z/\C_ y<=Rows.uptoBulk x.1:=by
 have g0:=pe 8 39 [.bool,.int .i64,.int .i64,.int .i64,.int .u32,.int .i64,.int .i64,.bool,.bool,.int .i64,.int .i64,.sl 106,.sl 5,.int .i64,.sl 106,.sl 5,.int .i64,.sl 106,.sl 5,.int .i64,.sl 106] Z w x (by kernel_rfl) h;obtain⟨v,r,u0,T0,rfl,⟨m0,rfl⟩,g1,q0⟩:=g0.aM;obtain⟨v,r,u1,T1,rfl,⟨m1,rfl,w1,_⟩,g2,q1⟩:=g1.aM;obtain⟨v,r,u2,T2,rfl,⟨m2,rfl,w2,_⟩,g3,q2⟩:=g2.aM;obtain⟨v,r,u3,T3,rfl,⟨m3,rfl,w3,_⟩,g4,q3⟩:=g3.aM;obtain⟨v,r,u4,T4,rfl,⟨m4,rfl,w4,_⟩,g5,q4⟩:=g4.aM;obtain⟨v,r,u5,T5,rfl,⟨m5,rfl,w5,_⟩,g6,q5⟩:=g5.aM;obtain⟨v,r,u6,T6,rfl,⟨m6,rfl,w6,_⟩,g7,q6⟩:=g6.aM;obtain⟨v,r,u7,T7,rfl,⟨m7,rfl⟩,g8,q7⟩:=g7.aM;obtain⟨v,r,u8,T8,rfl,⟨m8,rfl⟩,g9,q8⟩:=g8.aM;obtain⟨v,r,u9,T9,rfl,⟨m9,rfl,w9,_⟩,g10,q9⟩:=g9.aM;obtain⟨v,r,u10,n,rfl,⟨m10,rfl,q,_⟩,g11,R⟩:=g10.aM;obtain⟨v,r,u11,z,rfl,i,g12,S⟩:=g11.aM;obtain⟨m11,a,K⟩:=wy i;obtain⟨v,r,u12,A,rfl,j,g13,T⟩:=g12.aM;obtain⟨m12,b,L⟩:=JB j;obtain⟨v,r,u13,B,rfl,⟨m13,rfl,s,_⟩,g14,U⟩:=g13.aM;obtain⟨v,r,u14,C,rfl,k,g15,V⟩:=g14.aM;obtain⟨m14,c,M⟩:=wy k;obtain⟨v,r,u15,D,rfl,l,g16,X⟩:=g15.aM;obtain⟨m15,d,N⟩:=JB l;obtain⟨v,r,u16,E,rfl,⟨m16,rfl,t,_⟩,g17,Y⟩:=g16.aM;obtain⟨v,r,u17,F,rfl,m,g18,cs⟩:=g17.aM;obtain⟨m17,e,O⟩:=wy m;obtain⟨v,r,u18,G,rfl,o,g19,q18⟩:=g18.aM;obtain⟨m18,f,P⟩:=JB o;obtain⟨v,r,u19,I,rfl,⟨m19,rfl,u,_⟩,g20,q19⟩:=g19.aM;obtain⟨v,r,u20,J,rfl,p,g21,q20⟩:=g20.aM;obtain⟨m20,g,Q⟩:=wy p;obtain rfl:=g21.jA;refine⟨⟨m0,m1,m2,m3,m4,⟨⟨m5,m6,m7,m8,m9,m10,m11⟩,⟨m12,m13,m14⟩,⟨m15,m16,m17⟩,⟨m18,m19,m20⟩⟩⟩,.cons (.bool m0) (.cons (.int (jr w1)) (.cons (.int (jr w2)) (.cons (.int (jr w3)) (.cons (.int (jr w4)) (.cons (.int (jr w5)) (.cons (.int (jr w6)) (.cons (.bool m7) (.cons (.bool m8) (.cons (.int (jr w9)) (.cons (.int (jr q)) (.cons a (.cons b (.cons (.int (jr s)) (.cons c (.cons d (.cons (.int (jr t)) (.cons e (.cons f (.cons (.int (jr u)) (.cons g (.nil))))))))))))))))))))),?_⟩;show pP m11+(m12.length+pP m14)+(m15.length+pP m17)+(m18.length+pP m20)<=_
 omega
def Xf (c:zq (lV W) M) (n:Nat) (cs:List Value) (x:DataW H×List MemPlace) (h:Pf a_ prog W held n 77 cs=some x):∃y:D.E 3,iW M W (D.a_ 3 y) cs/\(iX.name y).length+(iX.text y).length+20<=21*Rows.uptoBulk x.1:=by
 have g0:=pe 8 77 [.str,.str] cs n x (by kernel_rfl) h;obtain⟨v,r,k,e,rfl,⟨a,rfl,q1,i⟩,g1,g⟩:=g0.aM;obtain⟨v,r,l,f,rfl,⟨b,rfl,d,j⟩,g2,e2⟩:=g1.aM;obtain rfl:=g2.jA;refine⟨(⟨a.data.toList,b.data.toList⟩:iX),.cons (Mj c q1) (.cons (Mj c d) .nil),?_⟩;have:=FQ x.1;show a.data.toList.length+b.data.toList.length+20<=_
 omega
theorem Xg (l:List iX):eO l=(l.map λp=>p.name.length+p.text.length+20).sum:=by
 induction l with
 | nil=>rfl
 | cons p l a=>simp only[eO,Zbl,Zco,a]
def Xh (h:Pf a_ prog W held w 24 Z=some x):∃y:cj,LR (mJ 1 W) [.list 3 y.r,.str y.c] Z/\eO y.r+y.c.length<=21*Rows.uptoBulk x.1:=by
 have g0:=pe 8 24 [.sl 77,.str] Z w x (by kernel_rfl) h;obtain⟨v,r,t,j,rfl,s0,g1,o⟩:=g0.aM;obtain⟨a0,g,e,q,b⟩:=Da (c:=3) (M:=mJ 1 W) (Q:=λ(y:D.E 3) w=>(iX.name y).length+(iX.text y).length+20<=21*w) (by kernel_rfl) (by exact ZcY (by kernel_rfl)) (λw Z x h=>Xf (Cl 1 W).2 w Z x h) s0;obtain⟨v,r,u,m,rfl,⟨a,rfl,q1,s⟩,g2,e2⟩:=g1.aM;obtain rfl:=g2.jA;have k:=y_ (f:=λ(p:D.E 3)=>(iX.name p).length+(iX.text p).length+20) a0 (λi=>21*g i) b;have k2:((List.range a0.length).map λi=>21*g i).sum=21*((List.range a0.length).map g).sum:=by
  induction (List.range a0.length) with
  | nil=>rfl
  | cons x l d=>simp only[Zbl,Zco,d];omega
 refine⟨⟨a0,a.data.toList⟩,.cons e (.cons (.str (BB q1)) .nil),?_⟩;rw[Xg];show(a0.map λ(p:iX)=>p.name.length+p.text.length+20).sum+a.data.toList.length<=_
 rw[k2] at k;have k:(a0.map λ(p:iX)=>p.name.length+p.text.length+20).sum<=_:=k;omega
end
end sx
set_option maxRecDepth 100000
set_option maxHeartbeats 4000000
namespace sx
noncomputable section
open Go Go.RowKit cls syn
def QfT (s:cj):Prop:=eO s.r+s.c.length<=22020096
def Qua (y:cj×lN):Prop:=QfT y.1/\C_ y.2<=1048576
def Qa0:bh D:=bO 3 (cj×lN) (λ_ _=>.fail) Qua (λy=>[CM y.1,.agg (O3 y.2)]) λ_=>.lit true
def Qub:s7:=[QfR,QaU,QaV,QfS,QaR,Mi,W9,W',W_,Xa,QaS,QaT]
abbrev RA0 (v:lN) (p:Prop):Prop:=aa [v.live] (aa [v.a] (aa [v.b] (aa [v.c] (aa [v.d] (aa [v.x.st.pos] (aa [v.x.st.bN] (aa [v.x.st.ch] (aa [v.x.st.jH] (aa [v.x.st.bj] (aa [v.x.st.size] (aa [v.x.st.aS] (aa [v.x.a8.h] (aa [v.x.a8.m] (aa [v.x.a8.L] (aa [v.x.aH.h] (aa [v.x.aH.m] (aa [v.x.aH.L] (aa [v.x.aZ.h] (aa [v.x.aZ.m] (aa [v.x.aZ.L] p))))))))))))))))))))
def Qc8 (y:cj×lN):Prop:=let e:=b9 (jU y.1);let q1:=oD (gP y.2) (gP y.2);let k:=(lM y.1,y.2);let l:=ite (3<y.1.r.length) (List.take 3 y.1.r) y.1.r;let g:=j8.mk (cj.mk l y.1.c) (iC.mk e.af e.st) (iC.mk e.cc e.cs) [];let q:=oD (gE k) (gE (g,y.2));let s:=seq (nu k) (nu (g,y.2));let n:=λp:Prop=>RA0 y.2 (RAO l y.1.c e.af e.st e.cc e.cs (!(seq y.1.c [])) p);let f:=λp:Prop=>RA0 y.2 p;let o:=λp:Prop=>RA0 y.2 (RA0 y.2 (RA0 y.2 (RA0 y.2 (RA0 y.2 (RA0 y.2 (RA0 y.2 (RA0 y.2 (RA0 y.2 p))))))));let u:=RA0 y.2 (RA0 y.2 (RA0 y.2 (False)));let i:Prop:=u;let j:Prop:=(RA0 y.2 (RA0 y.2 (RA0 y.2 u)));aj (ldK y.1) (Iv (W2 (y.1,true))/\RA4 y.1 (Iv True/\aa [y.2.x.st.pos,y.2.x.st.bN] (aa [y.2.x.st.ch,y.2.x.st.jH] (aa [y.2.x.st.bj,y.2.x.st.size] (aa [y.2.x.st.aS] (aa [y.2.x.a8.h] (aa [y.2.x.a8.m] (aa [y.2.x.a8.L] (aa [y.2.x.aH.h] (aa [y.2.x.aH.m] (aa [y.2.x.aH.L] (aa [y.2.x.aZ.h] (aa [y.2.x.aZ.m] (aa [y.2.x.aZ.L] (aj (!(ue y.2.x)) (Iv True/\True) (Iv (WK (C9 (lM y.1) y.2))/\f (sQ (lM y.1) (Iv True/\f (Iv (y7 (C9 g y.2))/\n (aj q (Iv (WK (C9 (lM y.1) y.2)/\ptP k)/\f (sQ (lM y.1) (Iv True/\f (Iv (y7 (C9 g y.2)/\ptP (g,y.2))/\n (aj s (Iv True/\f (Iv True/\f (Iv True/\f (aj q1 (Iv True/\o (True)) (o (False)))))) (j)))))) (i))))))))))))))))))))) (Iv (W2 (y.1,false))/\RA4 y.1 (Iv True/\True))
def Qc9 (y:j8×lN):Prop:=let i:=aw 1099511627776 y.2.b;let q1:=(aB y.2.c 0)&&(aB y.2.d 0);let f:=zl.mk y.1 y.2.x.st y.2.x.a8 y.2.x.aH y.2.x.aZ;let g:=λp:Prop=>RA5 y.2.x.st (RA2 y.2.x.a8 (RA2 y.2.x.aH (RA2 y.2.x.aZ p)));let e:Prop:=(false=gE y/\sQ y.1 (True));aj (aw y.2.a 1) (e) (aj (aw 12 y.2.a) (e) (aj (aw y.2.b 1) (e) (aj i (e) (aj (!y.2.live) (aj q1 (Iv True/\g (rG y.2.x=gE y/\sQ y.1 (True))) (e)) (aj (aG 0 y.2.c) (aj (aG y.2.c 16) (Iv (WK f)/\g (sQ y.1 (ny f=gE y/\sQ y.1 (True)))) (e)) (e))))))
def Qda (y:lN):Prop:=let e:=aw 1099511627776 y.b;let q1:=(aB y.c 0)&&(aB y.d 0);aj (aw y.a 1) (false=gP y/\True) (aj (aw 12 y.a) (false=gP y/\True) (aj (aw y.b 1) (false=gP y/\True) (aj e (false=gP y/\True) (aj (!y.live) (aj q1 (Iv True/\RA5 y.x.st (RA2 y.x.a8 (RA2 y.x.aH (RA2 y.x.aZ (rG y.x=gP y/\True))))) (false=gP y/\True)) (false=gP y/\True)))))
def Qdb (y:j8×lN):Prop:=let f:=!(seq y.1.s.c []);let q1:=aw 1099511627776 y.2.b;let i:=aB y.2.x.st.size 0;let j:=aB y.2.x.st.pos 0;let k:=aB y.2.x.st.bN 0;let l:=aB y.2.x.st.bj 0;let n:=aB (ag y.2.x.st.aS) 0;let o:=(aB y.2.c 0)&&(aB y.2.d 0);let g:=zl.mk (j8.mk y.1.s y.1.p y.1.q []) y.2.x.st y.2.x.a8 y.2.x.aH y.2.x.aZ;let e:Prop:=(RA4 y.1.s (IV y.1 (aa [f] (True))));aj (aw y.2.a 1) (false=gE y/\e) (aj (aw 12 y.2.a) (false=gE y/\e) (aj (aw y.2.b 1) (false=gE y/\e) (aj q1 (false=gE y/\e) (aj y.2.live (aj (aG 0 y.2.c) (aj (aG y.2.c 16) (Iv (y7 g)/\RA5 y.2.x.st (RA2 y.2.x.a8 (RA2 y.2.x.aH (RA2 y.2.x.aZ (RA4 y.1.s (IV y.1 (aa [f] (ny g=gE y/\e)))))))) (false=gE y/\e)) (false=gE y/\e)) (aj o (aj j (aj k (aj (!y.2.x.st.ch) (aj (!y.2.x.st.jH) (aj l (aj i (aj n (Iv True/\RA2 y.2.x.a8 (aj (fb y.2.x.a8) (Iv True/\aa [y.2.x.aH.h] (aa [y.2.x.aH.m] (aa [y.2.x.aH.L] (aj (fb y.2.x.aH) (Iv True/\aa [y.2.x.aZ.h] (aa [y.2.x.aZ.m] (aa [y.2.x.aZ.L] (fb y.2.x.aZ=gE y/\e)))) (false=gE y/\e))))) (false=gE y/\e))) (false=gE y/\e)) (false=gE y/\e)) (false=gE y/\e)) (false=gE y/\e)) (false=gE y/\e)) (false=gE y/\e)) (false=gE y/\e)) (false=gE y/\e))))))
def Qdc (y:lN):Prop:=let e:=aw 1099511627776 y.b;let q1:=aB y.x.st.bN 0;let f:=aB y.x.st.size 0;let g:=aB y.x.st.bj 0;let i:=aB (ag y.x.st.aS) 0;let j:=(aB y.c 0)&&(aB y.d 0);aj (aw y.a 1) (false=gP y/\True) (aj (aw 12 y.a) (false=gP y/\True) (aj (aw y.b 1) (false=gP y/\True) (aj e (false=gP y/\True) (aj y.live (false=gP y/\True) (aj j (aj (aB y.x.st.pos 0) (aj q1 (aj (!y.x.st.ch) (aj (!y.x.st.jH) (aj g (aj f (aj i (Iv True/\RA2 y.x.a8 (aj (fb y.x.a8) (Iv True/\aa [y.x.aH.h] (aa [y.x.aH.m] (aa [y.x.aH.L] (aj (fb y.x.aH) (Iv True/\aa [y.x.aZ.h] (aa [y.x.aZ.m] (aa [y.x.aZ.L] (fb y.x.aZ=gP y/\True)))) (false=gP y/\True))))) (false=gP y/\True))) (false=gP y/\True)) (false=gP y/\True)) (false=gP y/\True)) (false=gP y/\True)) (false=gP y/\True)) (false=gP y/\True)) (false=gP y/\True)) (false=gP y/\True))))))
def Qdd (y:j8×lN):Prop:=let l:=qJ y.1.s;let q1:=jP .i64 y.2.d;let i:=cJ [] y.2.live;let q:=!(gE (y.1,y.2));let j:=a7 i y.2.a;let g:=a7 j y.2.b;let n:=dM.mk y.2.x.aZ.h y.2.x.aZ.m y.2.x.aZ.L;let o:=dM.mk y.2.x.a8.h y.2.x.a8.m y.2.x.a8.L;let p:=dM.mk y.2.x.aH.h y.2.x.aH.m y.2.x.aH.L;let k:=a7 g l;let e:=a7 k y.2.c;let f:=a7 e q1;Iv (WK (C9 y.1 y.2))/\RA0 y.2 (sQ y.1 (aj q ([]=nu y/\sQ y.1 (True)) (Iv (([]:By).length<=1073741824)/\aa ([[]]:List (List UInt8)) (aa [y.2.live] (Iv (i.length<=1073741824)/\aa [i] (aa [y.2.a] (Iv (j.length<=1073741824)/\aa [j] (aa [y.2.b] (aa [y.2.live] (aa [y.2.a,y.2.a,y.2.b,y.2.b,y.2.b] (aj y.2.live (Iv (y8 y.1.s)/\sQ y.1 (Iv (g.length<=1073741824)/\aa [g] (aa [l] (Iv (k.length<=1073741824)/\aa [k] (aa [y.2.c] (Iv (e.length<=1073741824)/\aa [e] (aa [q1,y.2.c,y.2.c,y.2.c,y.2.d,y.2.d,y.2.d,y.2.d] (Iv ((((((f.length+63)+dc y.2.x.st.aS)+eB o)+eB p)+eB n)<=536870912)/\aa [f] (aa [y.2.x.st.pos,y.2.x.st.bN] (aa [y.2.x.st.ch,y.2.x.st.jH] (aa [y.2.x.st.bj,y.2.x.st.size] (aa [y.2.x.st.aS] (aa [y.2.x.a8.h] (aa [y.2.x.a8.m] (aa [y.2.x.a8.L] (aa [y.2.x.aH.h] (aa [y.2.x.aH.m] (aa [y.2.x.aH.L] (aa [y.2.x.aZ.h] (aa [y.2.x.aZ.m] (aa [y.2.x.aZ.L] (qP f (bd.mk y.2.x.st.pos y.2.x.st.bN y.2.x.st.ch y.2.x.st.jH y.2.x.st.bj y.2.x.st.size y.2.x.st.aS o p n)=nu y/\sQ y.1 (True))))))))))))))))))))))) (g=nu y/\sQ y.1 (True)))))))))))))
def Xi (y:lN):Prop:=let e:=cJ [] y.live;let q1:=a7 e y.a;Iv True/\RA0 y (aj (!(gP y)) ([]=zT y/\True) (Iv (([]:By).length<=1073741824)/\aa ([[]]:List (List UInt8)) (aa [y.live] (Iv (e.length<=1073741824)/\aa [e] (aa [y.a] (Iv (q1.length<=1073741824)/\aa [q1] (aa [y.b] (aa [y.live] (aa [y.a,y.a,y.b,y.b,y.b] (aj y.live (False) (a7 q1 y.b=zT y/\True)))))))))))
def Qde (y:j8×lN):Prop:=let o:=qJ y.1.s;let q1:=jP .i64 y.2.d;let l:=cJ [] y.2.live;let t:=!(seq y.1.s.c []);let n:=a7 l y.2.a;let u:=j8.mk y.1.s y.1.p y.1.q [];let j:=a7 n y.2.b;let v:=dM.mk y.2.x.aH.h y.2.x.aH.m y.2.x.aH.L;let w:=dM.mk y.2.x.aZ.h y.2.x.aZ.m y.2.x.aZ.L;let z:=dM.mk y.2.x.a8.h y.2.x.a8.m y.2.x.a8.L;let e:=a7 j o;let k:=!(gE (u,y.2));let f:=a7 e y.2.c;let g:=a7 f q1;let i:Prop:=(RA4 y.1.s (IV y.1 (aa [t] (True))));Iv (y7 (C9 u y.2))/\RA0 y.2 (RA4 y.1.s (IV y.1 (aa [t] (aj k ([]=nu y/\i) (Iv (([]:By).length<=1073741824)/\aa ([[]]:List (List UInt8)) (aa [y.2.live] (Iv (l.length<=1073741824)/\aa [l] (aa [y.2.a] (Iv (n.length<=1073741824)/\aa [n] (aa [y.2.b] (aa [y.2.live] (aa [y.2.a,y.2.a,y.2.b,y.2.b,y.2.b] (aj y.2.live (Iv (y8 y.1.s)/\aa [y.1.s.r] (aa [y.1.s.c] (Iv (j.length<=1073741824)/\aa [j] (aa [o] (Iv (e.length<=1073741824)/\aa [e] (aa [y.2.c] (Iv (f.length<=1073741824)/\aa [f] (aa [q1] (Iv ((((((g.length+63)+dc y.2.x.st.aS)+eB z)+eB v)+eB w)<=536870912)/\aa [g] (aa [y.2.x.st.pos,y.2.x.st.bN] (aa [y.2.x.st.ch,y.2.x.st.jH] (aa [y.2.x.st.bj,y.2.x.st.size] (aa [y.2.x.st.aS] (aa [y.2.x.a8.h] (aa [y.2.x.a8.m] (aa [y.2.x.a8.L] (aa [y.2.x.aH.h] (aa [y.2.x.aH.m] (aa [y.2.x.aH.L] (aa [y.2.x.aZ.h] (aa [y.2.x.aZ.m] (aa [y.2.x.aZ.L] (aa [y.2.c,y.2.d,y.2.d,y.2.x.st.pos,y.2.x.st.bN] (aa [y.2.x.st.ch,y.2.x.st.jH] (aa [y.2.x.st.bj,y.2.x.st.size] (aa [y.2.x.st.aS] (aa [y.2.x.a8.h] (aa [y.2.x.a8.m] (aa [y.2.x.a8.L] (aa [y.2.x.aH.h] (aa [y.2.x.aH.m] (aa [y.2.x.aH.L] (aa [y.2.x.aZ.h] (aa [y.2.x.aZ.m] (aa [y.2.x.aZ.L] (aa [y.2.x.st.pos,y.2.x.st.bN] (aa [y.2.x.st.ch,y.2.x.st.jH] (aa [y.2.x.st.bj,y.2.x.st.size] (aa [y.2.x.st.aS] (aa [y.2.x.a8.h] (aa [y.2.x.a8.m] (aa [y.2.x.a8.L] (aa [y.2.x.aH.h] (aa [y.2.x.aH.m] (aa [y.2.x.aH.L] (aa [y.2.x.aZ.h] (aa [y.2.x.aZ.m] (aa [y.2.x.aZ.L] (aa [y.2.x.st.pos,y.2.x.st.bN] (aa [y.2.x.st.ch,y.2.x.st.jH] (aa [y.2.x.st.bj,y.2.x.st.size] (aa [y.2.x.st.aS] (aa [y.2.x.a8.h] (aa [y.2.x.a8.m] (aa [y.2.x.a8.L] (aa [y.2.x.aH.h] (aa [y.2.x.aH.m] (aa [y.2.x.aH.L] (aa [y.2.x.aZ.h] (aa [y.2.x.aZ.m] (aa [y.2.x.aZ.L] (qP g (bd.mk y.2.x.st.pos y.2.x.st.bN y.2.x.st.ch y.2.x.st.jH y.2.x.st.bj y.2.x.st.size y.2.x.st.aS z v w)=nu y/\i)))))))))))))))))))))))))))))))))))))))))))))))))))))))))))))) (j=nu y/\i))))))))))))))
def Qdf (y:lN):Prop:=let e:=cJ [] y.live;let q1:=a7 e y.a;Iv True/\RA0 y (aj (!(gP y)) ([]=zT y/\True) (Iv (([]:By).length<=1073741824)/\aa ([[]]:List (List UInt8)) (aa [y.live] (Iv (e.length<=1073741824)/\aa [e] (aa [y.a] (Iv (q1.length<=1073741824)/\aa [q1] (aa [y.b] (aa [y.live] (aa [y.a,y.a,y.b,y.b,y.b] (aj y.live (False) (a7 q1 y.b=zT y/\True)))))))))))
end
end sx
end Go.Proofs.YtiiiphndmbabcaaGreat
