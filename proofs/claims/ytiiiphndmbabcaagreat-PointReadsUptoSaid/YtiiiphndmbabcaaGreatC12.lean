/- PointReads: a part of the proof. -/
import Derived.Test.YtiiiphndmbabcaaGreatC11
import Derived.Test.YtiiiphndmbabcaaGreatC9
import Derived.Test.YtiiiphndmbabcaaGreatC10
import Derived.Test.YtiiiphndmbabcaaGreatC5
import Derived.Test.YtiiiphndmbabcaaGreatC4
set_option linter.all false
namespace Go.Proofs.YtiiiphndmbabcaaGreat
open Go.Proofs.Tryz
set_option maxRecDepth 100000
set_option maxHeartbeats 4000000
namespace sx
noncomputable section
open Go Go.RowKit cls syn
variable {y:oN} {k:Nat} {i:Int} {s:List Bool}
def WX (y:oN):Prop:=let i:=y.L.length;let q1:=ag y.p.af;let C:=ag y.p.av;let E:=aw 1099511627776 y.m;let F:=!(aB (ag y.L) C);let B:=λp:Prop=>RAH y.m y.L (RA3 y.p p);let G:=dd.mk false 0 0 0 0 0 0 0 0 0 0 [];Iv (F5 y.p)/\RA3 y.p (aj (aw y.m 0) (false=gX y/\True) (aj E (false=gX y/\True) (aj F (false=gX y/\True) ((∃z:Nat,0=(z:Int)/\B ((Iv (z<=i/\gh y z))))/\(∀x:Nat,let D:=aw (x:Int) (ag y.L);let w:=lJ y.p.af (vG (y.p,(x:Int)));let o:=gt 0 y.p.av (x:Int).toNat;let b:=gt G y.L (x:Int).toNat;let r:=!(fq (aX.mk 0 b.c0 b.c1 b.c2 b.c3 b.c4 b.c5 b.c6 b.c7 b.c8 b.c9) y.m);let s:=!((aB b.c0 (-1))&&((aB b.c1 (-1))&&((aB b.c2 (-1))&&((aB b.c3 (-1))&&((aB b.c4 (-1))&&((aB b.c5 (-1))&&((aB b.c6 (-1))&&((aB b.c7 (-1))&&((aB b.c8 (-1))&&(aB b.c9 (-1)))))))))));let q:=λp:Prop=>aa [(x:Int)] (aa [w] p);let n:Prop:=(Iv (Qae (y.p,(x:Int)))/\aa [y.p.af] (aa [y.p.av] (aa [(x:Int)] (aG 0 q1/\aG q1 q1/\bJ q1 1/\∃z:Nat,let c:=List.getD y.L z G;let j:=c.aJ.length;let A:=λp:Prop=>aa [c.aJ] (aa [y.m] (aa [y.L] (aa [y.p.af] (aa [y.p.av] p))));(∃e:(List Bool)×Nat,q (ag (oF q1 false)=ag e.1/\0=(e.2:Int)/\oF q1 false=e.1/\b.done=c.done/\EwC b c (b.aJ=c.aJ/\B ((Iv (dwI y z e))))))/\(∀g:(List Bool)×Nat,let f:=(g.2:Int);let k:=aw f (ag c.aJ);let a:=gt (aX.mk 0 0 0 0 0 0 0 0 0 0 0) c.aJ f.toNat;let d:=cx .i64 a.pc 1;let t:=gt false g.1 a.pc.toNat;let h:=gt false w d.toNat;let u:=!(aB (gt (aW.mk 0 0 0 []) y.p.af d.toNat).op 1);let v:=!(fq (aX.mk 0 a.c0 a.c1 a.c2 a.c3 a.c4 a.c5 a.c6 a.c7 a.c8 a.c9) y.m);let l:Prop:=(aG 0 a.pc/\aw a.pc (ag g.1)/\∃e:(List Bool)×Nat,q (ag g.1=ag e.1/\ay .i64 f 1=(e.2:Int)/\cS g.1 a.pc.toNat true=e.1/\aa [c.done] (SY c (A ((Iv (dwI y z e/\(j-e.2)<(j-g.2))))))));(Iv (dwI y z g))->aj k (aG 0 f/\k/\aj (aw a.pc 0) (false=gX y/\True) (aj (aG q1 a.pc) (false=gX y/\True) (aG 0 a.pc/\aw a.pc (ag g.1)/\aj t (false=gX y/\True) (Iv True/\RwH a (aa [y.m] (aj v (false=gX y/\True) (aG 0 (x:Int)/\aw (x:Int) C/\aj (!(aB a.pc o)) (aj (aB a.pc 0) (aa [a.pc] (aa [y.p.av] (aa [o,a.pc] (false=gX y/\True)))) (aG 0 d/\aw d (ag w)/\aj (!h) (aa [a.pc] (aa [y.p.av] (aa [o,a.pc,a.pc] (aa [h] (false=gX y/\True))))) (aG 0 d/\aw d q1/\aa [a.pc] (aa [y.p.av] (aa [o,a.pc,a.pc] (aa [h] (aa [y.p.af] (aa [a.pc,(gt (aW.mk 0 0 0 []) y.p.af d.toNat).op] (aj u (false=gX y/\True) (l)))))))))) (aa [a.pc] (aa [y.p.av] (aa [o] (l))))))))))) (∃e:Nat,ay .i64 (x:Int) 1=(e:Int)/\B ((Iv ((e<=i/\gh y e)/\(i-e)<(i-x))))))))));(Iv (x<=i/\gh y x))->aj D (aG 0 (x:Int)/\D/\Iv True/\SY b (aa [y.m] (aj r (SY b (aa [y.m] (false=gX y/\True))) (aj (!b.done) (Iv True/\SY b (aa [y.m] (aa [b.done] (SY b (SY b (aj s (false=gX y/\True) (n))))))) (SY b (aa [y.m] (aa [b.done] (n)))))))) (true=gX y/\True))))))
def Qc4 (y:C5):Prop:=Iv (sZ y.v)/\RA3 y.v.p (RAH y.v.m y.v.L (aj (gX y.v) (aj (aB (ag y.h) 0) (true=XM y/\True) (Iv True/\aa [y.h] (ji y.h=XM y/\True))) (false=XM y/\True)))
def WZ (y:DnY):Prop:=let d:=y.l.length;let q1:=ag y.l;let g:=!(seq y.r.s.c []);let j:=!(aB q1 (ag y.r.p.av));let i:=λp:Prop=>RAH y.l y.z p;let h:=λp:Prop=>RA4 y.r.s p;let b:Prop:=(h (IV y.r (RAG g (True))));aj j (false=gF (oA y)/\b) ((∃z:Nat,i (0=(z:Int)/\h (IV y.r (RAG g ((Iv (z<=d/\mf (oA y) z)))))))/\(∀x:Nat,let a:=gt (dd.mk false 0 0 0 0 0 0 0 0 0 0 []) y.l (x:Int).toNat;let k:=aw 0 (ag a.aJ);let m:=!((aB a.c0 (-1))&&((aB a.c1 (-1))&&((aB a.c2 (-1))&&((aB a.c3 (-1))&&((aB a.c4 (-1))&&((aB a.c5 (-1))&&((aB a.c6 (-1))&&((aB a.c7 (-1))&&((aB a.c8 (-1))&&(aB a.c9 (-1)))))))))));let f:=λp:Prop=>RAH a.aJ a.done p;let e:Prop:=(aG 0 (x:Int)/\aw (x:Int) q1/\aj (aw a.c0 (-1)) (false=gF (oA y)/\b) (aG 0 (x:Int)/\aw (x:Int) q1/\aj (aw y.z a.c0) (false=gF (oA y)/\b) (aG 0 (x:Int)/\aw (x:Int) q1/\aj (aw a.c1 (-1)) (false=gF (oA y)/\b) (aG 0 (x:Int)/\aw (x:Int) q1/\aj (aw y.z a.c1) (false=gF (oA y)/\b) (aG 0 (x:Int)/\aw (x:Int) q1/\aj (aw a.c2 (-1)) (false=gF (oA y)/\b) (aG 0 (x:Int)/\aw (x:Int) q1/\aj (aw y.z a.c2) (false=gF (oA y)/\b) (aG 0 (x:Int)/\aw (x:Int) q1/\aj (aw a.c3 (-1)) (false=gF (oA y)/\b) (aG 0 (x:Int)/\aw (x:Int) q1/\aj (aw y.z a.c3) (false=gF (oA y)/\b) (aG 0 (x:Int)/\aw (x:Int) q1/\aj (aw a.c4 (-1)) (false=gF (oA y)/\b) (aG 0 (x:Int)/\aw (x:Int) q1/\aj (aw y.z a.c4) (false=gF (oA y)/\b) (aG 0 (x:Int)/\aw (x:Int) q1/\aj (aw a.c5 (-1)) (false=gF (oA y)/\b) (aG 0 (x:Int)/\aw (x:Int) q1/\aj (aw y.z a.c5) (false=gF (oA y)/\b) (aG 0 (x:Int)/\aw (x:Int) q1/\aj (aw a.c6 (-1)) (false=gF (oA y)/\b) (aG 0 (x:Int)/\aw (x:Int) q1/\aj (aw y.z a.c6) (false=gF (oA y)/\b) (aG 0 (x:Int)/\aw (x:Int) q1/\aj (aw a.c7 (-1)) (false=gF (oA y)/\b) (aG 0 (x:Int)/\aw (x:Int) q1/\aj (aw y.z a.c7) (false=gF (oA y)/\b) (aG 0 (x:Int)/\aw (x:Int) q1/\aj (aw a.c8 (-1)) (false=gF (oA y)/\b) (aG 0 (x:Int)/\aw (x:Int) q1/\aj (aw y.z a.c8) (false=gF (oA y)/\b) (aG 0 (x:Int)/\aw (x:Int) q1/\aj (aw a.c9 (-1)) (false=gF (oA y)/\b) (aG 0 (x:Int)/\aw (x:Int) q1/\aj (aw y.z a.c9) (false=gF (oA y)/\b) (∃z:Nat,i (ay .i64 (x:Int) 1=(z:Int)/\h (IV y.r (RAG g ((Iv ((z<=d/\mf (oA y) z)/\(d-z)<(d-x))))))))))))))))))))))))))));(Iv (x<=d/\mf (oA y) x))->aj (aw (x:Int) q1) (aG 0 (x:Int)/\aw (x:Int) q1/\aj k (RAG a.aJ (false=gF (oA y)/\b)) (aG 0 (x:Int)/\aw (x:Int) q1/\aj (!a.done) (aG 0 (x:Int)/\aw (x:Int) q1/\Iv True/\f (SY a (SY a (aj m (false=gF (oA y)/\b) (e))))) (f (e)))) (true=gF (oA y)/\b)))
abbrev RA2 (v:VE) (p:Prop):Prop:=aa [v.pos] (aa [v.bN] (aa [v.ch] (aa [v.jH] (aa [v.bj] (aa [v.size] (aa [v.aS] p))))))
def W0 (y:zl):Prop:=let v:=aw y.st.pos y.st.bN;let q1:=!(seq y.ru.s.c []);let l:=cx .i64 y.st.pos y.st.bN;let A:=aw 500 y.st.size;let B:=aw 1099511627776 y.st.pos;let C:=aB (ag y.st.aS) 0;let n:=C5.mk (oN.mk y.ru.p y.a8.m y.a8.L) y.a8.h;let o:=C5.mk (oN.mk y.ru.q y.aZ.m y.aZ.L) y.aZ.h;let t:=C5.mk (oN.mk y.ru.p y.aH.m y.aH.L) y.aH.h;let u:=ay .i64 (ay .i64 y.st.size 1) (Di y);let g:=!(aB (ay .i64 (ay .i64 y.st.bj y.st.size) 1) y.st.bN);let i:=!(mc (t,Di y));let j:=!(mc (o,Di y));let k:=gF (oA (DnY.mk (j8.mk y.ru.s y.ru.p y.ru.q []) y.st.aS y.st.size));let a:Prop:=(RA4 y.ru.s (IV y.ru (aa [q1] (True))));let d:Prop:=(RA2 y.st (RA1 y.a8 (RA1 y.aH (RA1 y.aZ (RA4 y.ru.s (IV y.ru (aa [q1] ((Iv (Pl y=true/\wsE y))))))))));let I:=Iv (Pl y=true/\wsM y=true/\wsE y);let b:Prop:=(∃z:Unit,aa [Di y] (RA2 y.st (RA1 y.a8 (RA1 y.aH (RA1 y.aZ (RA4 y.ru.s (IV y.ru (aa [q1] (I)))))))));let G:=aj (!(fb y.aZ)) (false=ny y/\a) (b);let w:Prop:=(RAG q1 (RA1 y.aZ G));let F:=aa [y.aZ.h] (aa [y.aZ.m] (aa [y.aZ.L] G));let e:Prop:=((aj y.st.ch (∃z:Unit,0=Di y/\d) (∃z:Unit,l=Di y/\d))/\(∀x:Unit,(Iv (Pl y=true/\wsE y))->(Iv (FM t)/\RA3 y.ru.p (RA1 y.aH (aa [Di y] (aj i (aa [y.ru.p.af] (aa [y.ru.p.av] (aa [y.aH.h] (aa [y.aH.m] (aa [y.aH.L] (false=ny y/\a)))))) (aj q1 (Iv (FM o)/\aa [y.ru.q.af] (aa [y.ru.q.av] (aa [y.aZ.h] (aa [y.aZ.m] (aa [y.aZ.L] (aa [Di y] (aj j (aa [y.ru.p.af] (aa [y.ru.p.av] (aa [y.aH.h] (aa [y.aH.m] (aa [y.aH.L] (aa [q1] (aa [y.ru.q.af] (aa [y.ru.q.av] (aa [y.aZ.h] (aa [y.aZ.m] (aa [y.aZ.L] (false=ny y/\a)))))))))))) (aj (!q1) (Iv True/\aa [y.aZ.h] (aa [y.aZ.m] (aa [y.aZ.L] (aa [y.ru.p.af] (aa [y.ru.p.av] (aa [y.aH.h] (aa [y.aH.m] (aa [y.aH.L] (aa [q1] (aa [y.ru.q.af] (aa [y.ru.q.av] (aa [y.aZ.h] (aa [y.aZ.m] (aa [y.aZ.L] (aa [q1] F))))))))))))))) (aa [y.ru.p.af] (aa [y.ru.p.av] (aa [y.aH.h] (aa [y.aH.m] (aa [y.aH.L] (aa [q1] (aa [y.ru.q.af] (aa [y.ru.q.av] (aa [y.aZ.h] (aa [y.aZ.m] (aa [y.aZ.L] (aa [q1] (b))))))))))))))))))))) (aj (!q1) (Iv True/\aa [y.aZ.h] (aa [y.aZ.m] (aa [y.aZ.L] (aa [y.ru.p.af] (aa [y.ru.p.av] (aa [y.aH.h] (aa [y.aH.m] (aa [y.aH.L] (aa [q1,q1] F))))))))) (aa [y.ru.p.af] (aa [y.ru.p.av] (aa [y.aH.h] (aa [y.aH.m] (aa [y.aH.L] (aa [q1,q1] (b)))))))))))))/\(∀D:Unit,I->aj (!y.st.jH) (aj (aB y.st.bj 0) (aj (aB y.st.size 0) (aj C (Iv True/\RA1 y.a8 (fb y.a8=ny y/\a)) (false=ny y/\a)) (false=ny y/\a)) (false=ny y/\a)) (aj (!q1) (false=ny y/\a) (aj y.st.ch (false=ny y/\a) (aj (aw y.st.size 0) (false=ny y/\a) (aj A (false=ny y/\a) (aj (aw y.st.bj 0) (false=ny y/\a) (aj g (false=ny y/\a) (Iv (y.st.aS.length<=1000)/\RAH y.st.aS y.st.size (RA4 y.ru.s (IV y.ru (aa [q1] (aj k (Iv (FM n)/\aa [y.ru.p.af] (aa [y.ru.p.av] (aa [y.a8.h] (aa [y.a8.m] (aa [y.a8.L] (aa [u] (aa [y.st.aS] (aa [y.st.size] (aa [y.ru.p.af] (aa [y.ru.p.av] (aa [y.a8.h] (aa [y.a8.m] (aa [y.a8.L] (aa [y.st.size] (mc (n,u)=ny y/\a))))))))))))))) (aa [y.st.aS] (aa [y.st.size] (false=ny y/\a)))))))))))))))));let f:Prop:=(aj y.st.ch (aj (aG l 200) (false=ny y/\a) (e)) (e));(fK .i64 y.st.pos=true/\fK .i64 y.st.bN=true/\True/\True/\fK .i64 y.st.bj=true/\fK .i64 y.st.size=true/\aG (ag y.st.aS) 9223372036854775807=true/\aG (ag y.a8.h) 9223372036854775807=true/\fK .i64 y.a8.m=true/\aG (ag y.a8.L) 9223372036854775807=true/\aG (ag y.aH.h) 9223372036854775807=true/\fK .i64 y.aH.m=true/\aG (ag y.aH.L) 9223372036854775807=true/\aG (ag y.aZ.h) 9223372036854775807=true/\fK .i64 y.aZ.m=true/\aG (ag y.aZ.L) 9223372036854775807=true/\True)->aj (aw y.st.bN 0) (false=ny y/\a) (aj v (false=ny y/\a) (aj B (false=ny y/\a) (aj (!y.st.ch) (aj (aw 200 l) (false=ny y/\a) (f)) (f))))
theorem L' (af:List aW) (a:List Bool) (F:Int->Bool) (k:Int):∀n,LC af a n F k↔F k\/∃j:Nat,j<n/\a.getD j false/\(af.getD j cX).op=1/\k=(j:Int)+1
 | 0=>by simp[LC]
 | n+1=>by
  have b:=L' af a F k n;have e:(⟨0,0,0,[]⟩:aW)=cX:=rfl;rw[LC,e];constructor
  ·intro h;by_cases c:a.getD n false/\(af.getD n cX).op=1
   ·rw[Zac c] at h;grind
   ·grind
  ·intro h;split
   ·grind
   ·grind
theorem Jy (e:sZ y) (hk:k<y.p.av.length):wtA (Pn y k) i↔(0<=i/\i<y.p.af.length)/\(i=y.p.av.getD k 0\/i≠0/\(lJ y.p.af (y.p.av.getD k 0)).getD (i-1).toNat false/\(y.p.af.getD (i-1).toNat cX).op=1):=by
 have⟨g,l,m,n,f,o⟩:=e.1;have hs:Ϗ (Pn y k)=y.p.av.getD k 0:=rfl;unfold wtA;rw[L'];show _\/(∃j:Nat,j<y.p.af.length/\(lJ y.p.af (y.p.av.getD k 0)).getD j false/\(y.p.af.getD j cX).op=1/\i=↑j+1)↔_
 constructor
 ·rintro(h | ⟨j,h1,a,b,rfl⟩)
  ·simp_all
  ·have:=(f.2 j h1).2.2 ω ω ω;exact⟨ω,.inr ⟨ω,by simp_all⟩⟩
 ·rintro⟨⟨h1,a⟩,h | ⟨b,c,d⟩⟩
  ·grind
  ·exact .inr ⟨(i-1).toNat,ω,c,d,ω⟩
theorem QaI (b:sZ y) (hk:k<y.p.av.length) (h0:0<=i) (h1:i<s.length):(λj=>if j=i then false else XO (Pn y k) s j)=XO (Pn y k) (s.set i.toNat true):=by
 funext j;unfold XO;cases a:wtA (Pn y k) j with
 | false=>simp
 | true=>
  have:=((Jy b hk).1 a).1;grind
theorem QfO (y:zO) (n:Nat):XO y (KR n)=wtA y:=by
 grind [XO,KR]
theorem QaJ (d:sZ y) {i:Nat} (hk:k<y.p.av.length) (h:dwI y k (s,i)) (hi:i<(y.L.getD k fu).aJ.length):let t:=(y.L.getD k fu).aJ.getD i ⟨0,0,0,0,0,0,0,0,0,0,0⟩
  (XO (Pn y k) s t.pc->fq t y.m->dwI y k (s.set t.pc.toNat true,i+1))/\(XO (Pn y k) s t.pc=false\/fq t y.m=false->false=gX y):=by
 have⟨h1,f,j,l,c⟩:=h;have e:(y.L.getD k fu).aJ.getD i ⟨0,0,0,0,0,0,0,0,0,0,0⟩=(y.L.getD k fu).aJ[i]:=by grind
 rw[Zaq hi,XL] at c;rw[e];generalize (y.L.getD k fu).aJ[i]=t at c ⊢;refine⟨λa b=>⟨h1,f,hi,by grind,?_⟩,λa=>Ju h1 ?_⟩
 ·have g:wtA (Pn y k) t.pc:=by
   grind [XO]
  have⟨⟨c1,c2⟩,_⟩:=(Jy d hk).1 g;rw[a,b,QaI d hk c1 ω] at c;simpa using c
 ·grind
theorem QtK (y:oN) (B:sZ y):WX y:=by
 unfold WX;have⟨D,O,Q⟩:=B;have⟨R,S,T,U,J,E⟩:=D;simp only[bL,bC,SZ,EwC,j9,au,dq,Zad,Zan,Zao,br,cS];refine⟨D,λk1=>?_,λk1=>⟨λk2=>?_,λk2=>⟨λk3=>?_,λk3=>⟨⟨0,rfl,Zaj _,rfl⟩,λx I=>⟨λk4=>?_,λk4=>?_⟩⟩⟩⟩⟩
 ·grind [kn]
 ·grind [kn]
 ·grind [kn]
 ·have j:x<y.L.length:=ω;have g:x<y.p.av.length:=ω;have l:(x:Int)<y.p.av.length:=ω;have hi:ay .i64 ↑x 1=((x+1:Nat):Int):=ba ω ω;have u:(⟨false,0,0,0,0,0,0,0,0,0,0,[]⟩:dd)=fu:=rfl;have k:=Ju j;have hu:uS y x=(!(!(y.L.getD x fu).done&&!wlN (y.L.getD x fu))&&fq (OO (y.L.getD x fu)) y.m&&XL y.m (y.L.getD x fu).aJ (wtA (Pn y x))):=rfl;rw[WA] at hu;unfold OO at hu;simp only[u];refine⟨ω,k4,λc=>k (by grind),λc=>(λ(n:uS y x=XL y.m (y.L.getD x fu).aJ (wtA (Pn y x))->_)=>⟨λd=>⟨λe=>k ?a,λe=>n ?b⟩,λd=>n ?c⟩) ?m⟩
  case a=>rw[hu];simp only[aB] at e;simp_all
  case b=>
   rw[hu,c];have e:decide ((y.L.getD x fu).c0= -1/\(y.L.getD x fu).c1= -1/\(y.L.getD x fu).c2= -1/\(y.L.getD x fu).c3= -1/\(y.L.getD x fu).c4= -1/\(y.L.getD x fu).c5= -1/\(y.L.getD x fu).c6= -1/\(y.L.getD x fu).c7= -1/\(y.L.getD x fu).c8= -1/\(y.L.getD x fu).c9= -1):=by simpa [aB] using e
   rw[e];simp
  case c=>rw[hu,c,d];simp
  case m=>
   intro G;refine⟨⟨⟨J,(E x g).1,(E x g).2.1⟩,ZaF _,l⟩,ZaF _,ZaQ _,ω,x,⟨(KR y.p.af.length,0),rfl,rfl,rfl,rfl,rfl,rfl,rfl,rfl,rfl,rfl,rfl,rfl,rfl,rfl,rfl,j,I.2,Zaj _,by unfold KR;simp,by rw[QfO];exact G⟩,λz hz=>⟨λk5=>?_,λk5=>⟨x+1,hi,⟨j,?_⟩,ω⟩⟩⟩
   ·have⟨s,i⟩:=z;have v:i<(y.L.getD x fu).aJ.length:=ω;have⟨g1,g2⟩:=QaJ B g hz v;have qX:s.length=y.p.af.length:=hz.2.2.2.1;have A:ay .i64 ↑i 1=((i+1:Nat):Int):=by
     grind
    have F:=mT y.p.af (vG (y.p,↑x));have P:vG (y.p,↑x)=y.p.av.getD x 0:=rfl;have K:(⟨0,0,0,[]⟩:aW)=cX:=rfl;simp only[XO,A] at g1 g2 ⊢;generalize (y.L.getD x fu).aJ.getD i ⟨0,0,0,0,0,0,0,0,0,0,0⟩=t at*
    have o:=Jy B g (i:=t.pc);generalize wtA (Pn y x) t.pc=W at*
    have r:W≠true->false=gX y:=λh=>g2 (.inl (by grind))
    by_cases h0:0<=t.pc/\t.pc<y.p.af.length
    ·have H:cx .i64 t.pc 1=t.pc-1:=jQ ω ω;rw[H];refine⟨ω,k5,λh=>ω,λ_=>⟨λh=>ω,λ_=>⟨h0.1,ω,λa=>g2 (.inl (by rw[a];simp)),λa=>⟨λb=>g2 (.inr b),λb=>⟨ω,l,?_⟩⟩⟩⟩⟩;have q:W->(0<=t.pc/\t.pc<↑s.length/\∃z:List Bool×Nat,(s.length:Int)=z.1.length/\((i+1:Nat):Int)=z.2/\s.set t.pc.toNat true=z.1/\dwI y x z/\(y.L.getD x fu).aJ.length-z.2<(y.L.getD x fu).aJ.length-i):=λw=>⟨h0.1,ω,(s.set t.pc.toNat true,i+1),by grind,rfl,rfl,g1 (by grind) b,ω⟩
     refine⟨λc=>⟨λd=>r λw=>?_,λd=>⟨ω,ω,λe=>r λw=>?_,λe=>⟨ω,ω,λf=>r λw=>?_,λf=>q (o.2 ⟨h0,.inr ⟨d,e,f⟩⟩)⟩⟩⟩,λc=>q (o.2 ⟨h0,.inl c⟩)⟩
     all_goals have w:=(o.1 w).2;grind
    ·have C:=r λw=>h0 (o.1 w).1
     exact⟨ω,k5,λ_=>C,λa=>⟨λ_=>C,λb=>absurd ⟨a,b⟩ h0⟩⟩
   ·have M:=hz.2.2.2.2;have N:z.2=(y.L.getD x fu).aJ.length:=by have:=hz.2.2.1;omega
    grind [XL,gh]
 ·grind [kn]
def QlE (a:Ok gA):Ok WN:=okZ [WC,Qll,QfK,OQ] f160 Qtp ⟨Qlo a,Qlp,QcU,QcT⟩ QtK
theorem QlF (b:Ok gA):Ok Qaw:=okZ (V:=Qc4) [WN,Nz] f98 (λ_=>dY ()) ⟨QlE b,Qh3⟩ λy a=>by
 have a:sZ y.v:=a;unfold Qc4;have:aB (ag y.h) 0=decide (y.h=[]):=by unfold aB ag;rw[decide_eq_decide];simp
 grind [XM,C6]
def QlG (a:Ok gA):Ok QlA:=okZ (V:=L5) [Qaw] f55 (λ_=>dY ()) (QlF a) Qlt
def QlH:Ok QlB:=okZ (V:=L6) [] f56 (λ_=>dY ()) trivial Qlv
def edP (d:Bool) (z:Int) (t:dd):Prop:=(-1<=t.c0/\t.c0<=z/\(d\/t.c0= -1))/\(-1<=t.c1/\t.c1<=z/\(d\/t.c1= -1))/\(-1<=t.c2/\t.c2<=z/\(d\/t.c2= -1))/\(-1<=t.c3/\t.c3<=z/\(d\/t.c3= -1))/\(-1<=t.c4/\t.c4<=z/\(d\/t.c4= -1))/\(-1<=t.c5/\t.c5<=z/\(d\/t.c5= -1))/\(-1<=t.c6/\t.c6<=z/\(d\/t.c6= -1))/\(-1<=t.c7/\t.c7<=z/\(d\/t.c7= -1))/\(-1<=t.c8/\t.c8<=z/\(d\/t.c8= -1))/\(-1<=t.c9/\t.c9<=z/\(d\/t.c9= -1))
theorem QtL (y:DnY) (j:y.l.length<=1000):WZ y:=by
 unfold WZ;simp only[bL,bC,SZ,j9,au,dq,Zad,Zan,Zao];refine⟨λk=>?_,λk=>⟨⟨0,rfl,Zaj _,rfl⟩,λx i=>⟨λh=>?_,λh=>?_⟩⟩⟩
 ·grind [y6,oA]
 ·have c:x<(oA y).l.length:=by show x<y.l.length;omega
  have g:OV (oA y) x↔(y.l.getD x fu).aJ.length=0/\edP (y.l.getD x fu).done y.z (y.l.getD x fu):=by
   show(decide ((y.l.getD x fu).aJ.length=0)&&edC (y.l.getD x fu).done y.z (OO (y.l.getD x fu)))↔_
   simp[edC,OO,oz,edP,Zdc]
  have d:¬((y.l.getD x fu).aJ.length=0/\edP (y.l.getD x fu).done y.z (y.l.getD x fu))->false=gF (oA y):=λh=>QcW c (by grind)
  have a:((y.l.getD x fu).aJ.length=0/\edP (y.l.getD x fu).done y.z (y.l.getD x fu))->∃z:Nat,ay .i64 ↑x 1=↑z/\(z<=y.l.length/\mf (oA y) z)/\y.l.length-z<y.l.length-x:=λh=>⟨x+1,ba ω ω,⟨c,by grind [mf]⟩,ω⟩
  have f:(⟨false,0,0,0,0,0,0,0,0,0,0,[]⟩:dd)=fu:=rfl;simp only[f];generalize y.l.getD x fu=t at*
  unfold edP at d a;have e:∀b:Bool,(aB t.c0 (-1)&&(aB t.c1 (-1)&&(aB t.c2 (-1)&&(aB t.c3 (-1)&&(aB t.c4 (-1)&&(aB t.c5 (-1)&&(aB t.c6 (-1)&&(aB t.c7 (-1)&&(aB t.c8 (-1)&&aB t.c9 (-1))))))))))=b↔decide (t.c0= -1/\t.c1= -1/\t.c2= -1/\t.c3= -1/\t.c4= -1/\t.c5= -1/\t.c6= -1/\t.c7= -1/\t.c8= -1/\t.c9= -1)=b:=λb=>by simp[aB]
  simp only[e,ZaP,Zbi];cases ht:t.done<;>rw[ht] at d a<;>simp only[ZaE,Zdv,true_or,Zai,ZbV,Zb0] at d a ⊢
  all_goals
   with_reducible repeat' first | apply And.intro | intro _
   all_goals first | omega | exact d ω | exact a ω | exact trivial
 ·grind [y6,oA]
def QlJ:Ok WO:=okZ [QfK] f57 Qts QcU QtL
theorem QlK {z l:Int} (a: -9223372036854775808<=i/\i<=9223372036854775807) (hz:0<=z/\z<=500) (hl:0<=l/\l<=1099511627776):aB (ay .i64 (ay .i64 i z) 1) l=aB i (cx .i64 (cx .i64 l z) 1):=by
 grind [ay,IntKind.wrap,IntKind.bits]
theorem QtM (y:zl) (i:y7 y):W0 y:=by
  have⟨⟨h1,d,C,e,D⟩,F⟩:=i;have f:ny y=(Pl y&&wsM y&&WJ y):=aC _;unfold W0;have g:gF (oA ⟨⟨y.ru.s,y.ru.p,y.ru.q,[]⟩,y.st.aS,y.st.size⟩)=gF ⟨y.st.aS,ag y.ru.s.r,y.st.size⟩:=by
    grind [oA]
  simp only[g,j9,pd,Zai,Zal,ZaZ];rintro⟨j,k,a,l,-⟩;have a:=sq.1 a;have O:Di y=if y.st.ch=true then 0 else cx .i64 y.st.pos y.st.bN:=rfl
  have b:jnR y.ru=!(seq y.ru.s.c []):=rfl;have M:y.st.size<0\/500<y.st.size\/y.st.bN<0\/1099511627776<y.st.bN\/aB (ay .i64 (ay .i64 y.st.bj y.st.size) 1) y.st.bN=aB y.st.bj (cx .i64 (cx .i64 y.st.bN y.st.size) 1):=by
    grind [QlK]
  have hH:Pl y=!(aw y.st.bN 0||aw y.st.pos y.st.bN||aw 1099511627776 y.st.pos||!(y.st.ch==aw 200 (cx .i64 y.st.pos y.st.bN))):=rfl;have u:wsM y=(mc (⟨⟨y.ru.p,y.aH.m,y.aH.L⟩,y.aH.h⟩,Di y)&&(if jnR y.ru=true then mc (⟨⟨y.ru.q,y.aZ.m,y.aZ.L⟩,y.aZ.h⟩,Di y) else fb y.aZ)):=rfl;have v:WJ y=(if y.st.jH=false then aB y.st.bj 0&&aB y.st.size 0&&aB (ag y.st.aS) 0&&fb y.a8
   else jnR y.ru&&!y.st.ch&&aG 0 y.st.size&&aG y.st.size 500&&aG 0 y.st.bj&&aB y.st.bj (cx .i64 (cx .i64 y.st.bN y.st.size) 1)&&gF ⟨y.st.aS,ag y.ru.s.r,y.st.size⟩&&mc (⟨⟨y.ru.p,y.a8.m,y.a8.L⟩,y.a8.h⟩,ay .i64 (ay .i64 y.st.size 1) (Di y))):=rfl
  rw[b] at u v;have t:(!(seq y.ru.s.c []))->sZ ⟨y.ru.q,y.aZ.m,y.aZ.L⟩:=λh=>e (b.trans h)
  have n:sZ ⟨y.ru.p,y.aH.m,y.aH.L⟩:=h1;have o:sZ ⟨y.ru.p,y.a8.m,y.a8.L⟩:=d;have H:wsE y:=a;unfold FM;generalize Di y=N at*
  generalize mc (⟨⟨y.ru.p,y.aH.m,y.aH.L⟩,y.aH.h⟩,N)=A at*
  generalize mc (⟨⟨y.ru.q,y.aZ.m,y.aZ.L⟩,y.aZ.h⟩,N)=B at*
  generalize mc (⟨⟨y.ru.p,y.a8.m,y.a8.L⟩,y.a8.h⟩,ay .i64 (ay .i64 y.st.size 1) N)=Z at*
  generalize gF ⟨y.st.aS,ag y.ru.s.r,y.st.size⟩=E at*
  generalize fb y.aZ=G at*
  generalize fb y.a8=I at*
  generalize (!(seq y.ru.s.c []))=J at*
  generalize cx .i64 y.st.pos y.st.bN=K at*
  generalize aB (ay .i64 (ay .i64 y.st.bj y.st.size) 1) y.st.bN=z at*
  generalize aB y.st.bj (cx .i64 (cx .i64 y.st.bN y.st.size) 1)=e2 at*
  clear h1 d e i j k a l;simp only[f];generalize Pl y=w at*
  generalize wsM y=x at*
  clear f b g
  with_reducible repeat' first | assumption | apply And.intro | intro _
  all_goals grind
def QlL (a:Ok gA):Ok WQ:=okZ [QlA,QlB,WO] f20 Qtv ⟨QlG a,QlH,QlJ⟩ QtM
def Qnx (c:Nat) (a:List (AV D.E)) (s:St D.E):C (List (D.E c)):=match a with
 | [l,_]=>aL D s c l
 | _=>.fail
def Qny (c:Nat) (l:List (D.E c)):cH D:=⟨[],[],[(58,⟨Nat,[0,1],λk=>[(5,Qvo k)],[],λ_=>[],0,λk=>k<=l.length,λk=>l.length-k⟩)],[],1,[]⟩
def Qho:bh D:=bO 106 By (Qnx 0) (λy=>y.length<=1000000000) (λy=>[.list 0 y,.list 0 y]) λ_=>.lit true
def Qhp:bh D:=bO 105 (List aX) (Qnx 1) (λy=>y.length<=1000000000) (λy=>[.list 1 y,.list 1 y]) λ_=>.lit true
def Qfh:bh D:=bO 69 (List dd) (Qnx 2) lsP (λy=>[.list 2 y,.list 2 y]) λ_=>.lit true
def snP (y:Dh):Prop:=y.h.length<=1000000/\lsP y.L
def Qhq:bh D:=bO 107 (Int×List dd) (λa s=>match a with
 | [m,_]=>QsY m s
 | _=>.fail) (λy=>lsP y.2) (λy=>[.agg [Qvo y.1,.list 2 y.2],.agg [Qvo y.1,.list 2 y.2]]) λ_=>.lit true
def Qw2 (v:AV D.E) (s:St D.E):C Dh:=az (asAgg v) λcs=>match cs with
 | [h,m,l]=>zS h m l s
 | _=>.fail
def Qhr:bh D:=bO 70 Dh (λa s=>match a with
 | [m,_]=>Qw2 m s
 | _=>.fail) snP (λy=>[.agg (XN y),.agg (XN y)]) λ_=>.lit true
structure FN where
 st:VE
 a8:Dh
 aH:Dh
 aZ:Dh
def saA (y:FN):AV D.E:=Qkw y.st (XN y.a8) (XN y.aH) (XN y.aZ)
def QfP (x:AV D.E) (s:St D.E):C FN:=az (asAgg x) λcs=>match cs with
  | [p,l,g,o,e,z,n,h1,p1,h,b,p2,i,f,p3,j]=>aP (cT p) λ_ p=>aP (cT l) λ_ l=>aP (zh g) λg _=>aP (zh o) λo _=>aP (cT e) λ_ e=>aP (cT z) λ_ z=>az (aL D s 2 n) λn=>az (zS h1 p1 h s) λc=>az (zS b p2 i s) λa=>az (zS f p3 j s) λd=>.ret ⟨⟨p,l,g,o,e,z,n⟩,c,a,d⟩
  | _=>.fail
def Nr (y:FN):Prop:=lsP y.st.aS/\snP y.a8/\snP y.aH/\snP y.aZ
def Qhs:bh D:=bO 25 FN (λa s=>match a with
 | [m,_]=>QfP m s
 | _=>.fail) Nr (λy=>[saA y,saA y]) λ_=>.lit true
def QtP (c:Nat) (a:List (AV D.E)) (s:St D.E):C (List (D.E c)):=match a with
 | [l]=>aL D s c l
 | _=>.fail
def QmB (y:List UInt8):Prop:=let c:=!(aB (ag y) (ag y));aj c (False) ((∃z:Nat,RAH y y (0=(z:Int)/\(Iv (z<=y.length))))/\(∀x:Nat,let q1:=y.length;let b:=aw (x:Int) (ag y);let a:=((gt 0 y (x:Int).toNat).toNat:Int);(Iv (x<=q1))->aj b (aG 0 (x:Int)/\b/\aG 0 (x:Int)/\b/\RAH a a (aj (!(aB a a)) (False) (∃z:Nat,aa [y,y] (ay .i64 (x:Int) 1=(z:Int)/\(Iv (z<=q1/\(q1-z)<(q1-x))))))) (True)))
def QmC (y:List aX):Prop:=let c:=!(aB (ag y) (ag y));aj c (False) ((∃z:Nat,RAH y y (0=(z:Int)/\(Iv (z<=y.length))))/\(∀x:Nat,let q1:=y.length;let b:=aw (x:Int) (ag y);let a:=gt (aX.mk 0 0 0 0 0 0 0 0 0 0 0) y (x:Int).toNat;let d:=!((aB a.pc a.pc)&&((aB a.c0 a.c0)&&((aB a.c1 a.c1)&&((aB a.c2 a.c2)&&((aB a.c3 a.c3)&&((aB a.c4 a.c4)&&((aB a.c5 a.c5)&&((aB a.c6 a.c6)&&((aB a.c7 a.c7)&&((aB a.c8 a.c8)&&(aB a.c9 a.c9)))))))))));(Iv (x<=q1))->aj b (aG 0 (x:Int)/\b/\aG 0 (x:Int)/\b/\RAG a.pc (RwH a (aa [a.pc] (RwH a (aj d (False) (∃z:Nat,aa [y,y] (ay .i64 (x:Int) 1=(z:Int)/\(Iv (z<=q1/\(q1-z)<(q1-x)))))))))) (True)))
def QmD (y:List dd):Prop:=let b:=ag y;aj (!(aB b b)) (False) ((∃z:Nat,RAH y y (0=(z:Int)/\(Iv (z<=y.length))))/\(∀x:Nat,let q1:=y.length;let a:=gt (dd.mk false 0 0 0 0 0 0 0 0 0 0 []) y (x:Int).toNat;let c:=!(oD a.done a.done);let d:=!((aB a.c0 a.c0)&&((aB a.c1 a.c1)&&((aB a.c2 a.c2)&&((aB a.c3 a.c3)&&((aB a.c4 a.c4)&&((aB a.c5 a.c5)&&((aB a.c6 a.c6)&&((aB a.c7 a.c7)&&((aB a.c8 a.c8)&&(aB a.c9 a.c9))))))))));(Iv (x<=q1))->aj (aw (x:Int) b) (aG 0 (x:Int)/\aw (x:Int) b/\aG 0 (x:Int)/\aw (x:Int) b/\aj c (RAH a.done a.done (False)) (aG 0 (x:Int)/\aw (x:Int) b/\aG 0 (x:Int)/\aw (x:Int) b/\aj d (RAH a.done a.done (SY a (SY a (False)))) (aG 0 (x:Int)/\aw (x:Int) b/\aG 0 (x:Int)/\aw (x:Int) b/\Iv (a.aJ.length<=1000000000)/\RAJ a.aJ a.aJ a.done a.done (SY a (SY a (aa [a.aJ,a.aJ] (∃z:Nat,aa [y,y] (ay .i64 (x:Int) 1=(z:Int)/\(Iv (z<=q1/\(q1-z)<(q1-x))))))))))) (True)))
def QmE (y:Int×(List dd)):Prop:=aj (aB y.1 y.1) (Iv (lsP y.2)/\aa [y.2,y.2] (True)) (False)
def QmF (y:Dh):Prop:=Iv (y.h.length<=1000000000)/\aa [y.h,y.h] (Iv (lsP y.L)/\aa [y.m] (aa [y.L] (aa [y.m] (aa [y.L] (True)))))
def QmG (y:FN):Prop:=let a:=aB y.st.size y.st.size;let q1:=aB y.st.pos y.st.pos;let b:=aB y.st.bN y.st.bN;let c:=oD y.st.ch y.st.ch;let d:=oD y.st.jH y.st.jH;let e:=aB y.st.bj y.st.bj;aj q1 (aj b (aj c (aj d (aj e (aj a (Iv (lsP y.st.aS)/\RAH y.st.aS y.st.aS (Iv (snP y.a8)/\aa [y.a8.h] (aa [y.a8.m] (aa [y.a8.L] (aa [y.a8.h] (aa [y.a8.m] (aa [y.a8.L] (Iv (snP y.aH)/\aa [y.aH.h] (aa [y.aH.m] (aa [y.aH.L] (aa [y.aH.h] (aa [y.aH.m] (aa [y.aH.L] (Iv (snP y.aZ)/\aa [y.aZ.h] (aa [y.aZ.m] (aa [y.aZ.L] (aa [y.aZ.h] (aa [y.aZ.m] (aa [y.aZ.L] (True)))))))))))))))))))) (False)) (False)) (False)) (False)) (False)) (False)
def w6 (a:Int):aB a a:=oo.2 rfl
theorem OY (a:Bool):oD a a:=by cases a<;>rfl
def QtQ {n x:Nat} (h:x<n) (a:n<=1000000000000):∃z:Nat,ay .i64 (x:Int) 1=(z:Int)/\z<=n/\n-z<n-x:=⟨x+1,ba ω ω,ω,ω⟩
theorem Qu4:Ok Qho:=okZ (V:=QmB) [] f106 (Qny 0) trivial λ(y:By) a=>by
 have a:y.length<=1000000000:=a;grind [QmB]
def Qu5:Ok Qhp:=okZ (V:=QmC) [] f105 (Qny 1) trivial λ(y:List aX) a=>by
 have a:y.length<=1000000000:=a;unfold QmC;simp only[bC,w6,Bool.and_self,ZcF,ZaE,ZbV,ZaX,implies_true,dA,fm,au,SZ];exact⟨⟨0,rfl,Zaj _⟩,λx b k=>⟨ω,k,ω,k,QtQ ω ω⟩⟩
theorem QmH:Ok Qfh:=okZ (V:=QmD) [Qhp] f69 (Qny 2) Qu5 λ(y:List dd) a=>by
 have a:y.length<=1000/\∀x∈y,x.aJ.length<=1000000:=a;unfold QmD;simp only[bC,w6,OY,Bool.and_self,ZcF,ZaE,ZbV,ZaX,implies_true,dA,fm,au,SZ];have:∀x:Nat,x<y.length->(y.getD x fu).aJ.length<=1000000000:=λx b=>by
  grind
 exact⟨⟨0,rfl,Zaj _⟩,λx b k=>⟨ω,k,ω,k,ω,k,ω,k,ω,k,ω,k,this x ω,QtQ ω ω⟩⟩
def Qu6:Ok Qhq:=okZ (V:=QmE) [Qfh] f107 (λ_=>dY ()) QmH λy a=>by
 unfold QmE;simp only[bC,w6,ZaX];exact⟨a,nofun⟩
theorem Qu7:Ok Qhr:=okZ (V:=QmF) [Qho,Qhq] f70 (λ_=>dY ()) ⟨Qu4,Qu6⟩ λy a=>by
 have⟨h1,b⟩:=a;grind [QmF]
theorem Qu8:Ok Qhs:=okZ (V:=QmG) [Qfh,Qhr] f25 (λ_=>dY ()) ⟨QmH,Qu7⟩ λy a=>by
 have⟨h1,b,c,d⟩:=a;grind [QmG,OY]
theorem wrU (n:Int):0<=IntKind.u32.wrap n:=by
 grind [IntKind.wrap,IntKind.bits,IntKind.signed]
theorem QtR {n:Int} (h:0<=n):0<=oC .u32 n 1:=by
 grind [oC]
def W1 {y:Int×By} {k j:Nat} {s:Int} (h:vI y k (j,s)) (c:j<8):vI y k (j+1,Jv s):=by
 have⟨h1,d,a,b⟩:=h;refine⟨h1,c,?_,?_⟩
 ·unfold Jv;split
  ·exact wrU _
  ·exact QtR a
 ·rw[<-b];rw[show 8-j=(8-(j+1))+1 by omega];rfl
theorem QlM (y:Int×By) (d:y.2.length<=1000000000000):L9 y:=by
 unfold L9;simp only[bC,bL,au,dq];refine⟨⟨0,rfl,rfl,Zaj _⟩,λx i=>⟨λk=>⟨ω,k,x,⟨(0,_),rfl,rfl,ω,Zaj _,wrU _,rfl⟩,λz hz=>?_⟩,λk=>?_⟩⟩
 ·have⟨j,s⟩:=z;refine⟨λa=>?_,λa=>?_⟩
  ·have hs:=W1 hz ω;have hi:ay .i64 ↑j 1=((j+1:Nat):Int):=ba ω ω;exact⟨hz.2.2.1,λb=>⟨(j+1,_),rfl,hi,by unfold Jv at hs;rw[Zac (by grind)] at hs;exact hs,ω⟩,λb=>⟨(j+1,_),rfl,hi,by unfold Jv at hs;rw[Zaa (by grind)] at hs;exact hs,ω⟩⟩
  ·have⟨h1,g,h,c⟩:=hz;have⟨z,f,z2,z3⟩:=QtQ h1 d;have e:z=x+1:=by grind
   refine⟨z,?_,f,z2,z3⟩;rw[e,<-c,show 8-j=0 by omega];rfl
 ·rw[show x=y.2.length by omega];exact(aC _).symm
def Qc5:Ok Jw:=okZ [] f85 Qty trivial QlM
theorem QtS (y:Int×By) (a:y.2.length<=1000000000000):WW y:=by
 have h:=QlM y a;unfold L9 at h;unfold WW;simp only[bC] at h ⊢;grind
def QlN:Ok WS:=okZ [] f89 QtA trivial QtS
theorem pO (b s:By):(gf b s).length<=b.length+9+s.length:=by
 grind [gf,bX]
theorem QaK (b:By) (p:iX):(Jx b p).length<=b.length+eO [p]:=by
 grind [Jx,pO,eO]
theorem tZ:∀(l:List iX) (k:Nat),k<l.length->eO (l.take k)+eO [l.getD k ⟨[],[]⟩]<=eO l
 | [],_,h=>absurd h (Zbo _)
 | p::l,0,_=>by grind [eO]
 | p::l,k+1,h=>by
  have:=tZ l k (by grind);grind [eO]
theorem t_ {b:By} {l:List iX} {k:Nat} (h:k<l.length):Jx (iB b l k) (l.getD k ⟨[],[]⟩)=iB b l (k+1):=by
 grind [iB,List.take_append_getElem]
theorem qA (b:By) (l:List iX):∀k,k<=l.length->(iB b l k).length<=b.length+9+eO (l.take k)
 | 0,_=>by
  grind [bX,iB]
 | k+1,h=>by
  have h1:=qA b l k ω;have a:=QaK (iB b l k) (l.getD k ⟨[],[]⟩);rw[t_ ω] at a;have e:eO (l.take (k+1))=eO (l.take k)+eO [l.getD k ⟨[],[]⟩]:=by
   rw[show l.getD k ⟨[],[]⟩=l[k] by grind,<-Zb4 h];generalize l.take k=m
   induction m with
   | nil=>simp[eO]
   | cons p m c=>simp only[Za1,eO] at c ⊢;omega
  omega
theorem L_ (l:List iX):l.length<=eO l:=by
 induction l with
 | nil=>exact Zah _
 | cons p l a=>simp only[Zae,eO];omega
def QlO:Ok Qax:=okZ (V:=Qc0) [qN] f135 (λ_=>dY ()) GY λy a=>by
 have a:y.1.length+eO [y.2]<=536870912:=a;have:=pO y.1 y.2.name;simp only[eO] at a;unfold Qc0;simp only[bC];exact⟨⟨ω,ω⟩,⟨ω,ω⟩,rfl⟩
theorem QlP:Ok WT:=okZ (V:=Qc1) [gb,Qax] f134 QtE ⟨kQ,QlO⟩ λy b=>by
 have b:y.1.length+10+eO y.2<=536870912:=b;have hl:=L_ y.2;unfold Qc1;simp only[bC,bL,au,dq,Zad];refine⟨ω,⟨0,rfl,rfl,Zaj _⟩,λx c=>⟨λk=>?_,λk=>?_⟩⟩
 ·have a:x<y.2.length:=ω;have h1:=qA y.1 y.2 x c;have d:=tZ y.2 x a;exact⟨ω,k,ω,x+1,t_ a,ba ω ω,ω,ω⟩
 ·grind
def QlQ:Ok WU:=okZ (V:=Qc2) [WT,qN] f83 (λ_=>dY ()) ⟨QlP,GY⟩ λy a=>by
 have a:y.1.length+30+eO y.2.r+y.2.c.length<=536870912:=a;have h1:=qA y.1 y.2.r _ (Zah _);rw[ZaM] at h1;unfold Qc2;simp only[bC];exact⟨ω,⟨ω,ω⟩,rfl⟩
def QlR:Ok WV:=okZ (V:=Qc3) [iz,pf] f88 QtI ⟨nP,KH⟩ λy b=>by
 have b:y.1.length+30+eO y.2.r+y.2.c.length<=536870912:=b;have hl:=L_ y.2.r;unfold Qc3;simp only[bC,bL,au,dq,Zad];refine⟨ω,⟨0,rfl,rfl,Zaj _⟩,λx e=>⟨λk=>?_,λk=>?_⟩⟩
 ·have a:x<y.2.r.length:=ω;have h1:=qA y.1 y.2.r x e;have d:=tZ y.2.r x a;have f:=pO (iB y.1 y.2.r x) (y.2.r.getD x ⟨[],[]⟩).name;simp only[eO] at d;exact⟨ω,k,⟨ω,ω⟩,ω,k,⟨ω,ω⟩,x+1,t_ a,ba ω ω,ω,ω⟩
 ·have h1:=qA y.1 y.2.r _ (Zah _);rw[ZaM] at h1;rw[show x=y.2.r.length by omega];exact⟨⟨ω,ω⟩,rfl⟩
structure WtY where
 n:Int
 lo:Int
 hi:Int
structure TxY where
 l:List Q5
 Qws:Int
variable {Z Y:Nat} {X:Nat->List aW}
def jU (y:cj):cj:=⟨if 3<y.r.length then y.r.take 3 else y.r,y.c⟩
def ldK (y:cj):Bool:=oK (jU y)
def W2 (y:cj×Bool):Prop:=y.2=ldK y.1
def lM (y:cj):j8:=lk ⟨jU y,⟨(b9 (jU y)).af,(b9 (jU y)).st⟩,⟨(b9 (jU y)).cc,(b9 (jU y)).cs⟩,(bs (jU y)).tab⟩
def QlS:bh D:=⟨17,cj×Bool,CO ldK,W2,λy=>[CM y.1],λ_=>[],
 λy=>match y.2 with
  | true=>.tuple [.ptr 0 0,.ptr 3 0,.lit true]
  | false=>.tuple [.fT,.fT,.lit true],
 λy=>match y.2 with
  | true=>IU (lM y.1)++[ruO 3 (jU y.1) (b9 (jU y.1))]
  | false=>[],0,4⟩
def QtT (y:QlS.Y):cH D:=⟨[],[],[],[(3,⟨Unit,[],λ_=>[(1,.ptr 0 0)],[],λ_=>[(0,.cells [.list 3 (jU y.1).r,.str y.1.c] 24 false)],1,λ_=>True,λ_=>0⟩)],1,[]⟩
def Jz (y:cj):Prop:=let e:=b9 (jU y);let q1:=ite (3<y.r.length) (List.take 3 y.r) y.r;let a:=cj.mk q1 y.c;let b:=b9 a;let f:=aB b.an b.an;let d:=λp:Prop=>RAH q1 y.c p;(aj (aw 3 (ag y.r)) (Tt 1 (aG 3 (ag y.r)/\∃z:Unit,dE y.r 3=q1/\RAG y.c ((Iv True)))) (∃z:Unit,y.r=q1/\RAG y.c ((Iv True))))/\(∀x:Unit,(Iv True)->aj (oK a) (Iv (qG (a,true))/\d (aj (oK a) (Iv (qG (a,true))/\d (aj (aB 0 0) (d (b.af=e.af/\b.st=e.st/\b.cc=e.cc/\b.cs=e.cs/\aa [!(seq y.c [])] (q1=(lM y).s.r/\y.c=(lM y).s.c/\b.af=(lM y).p.af/\b.st=(lM y).p.av/\b.cc=(lM y).q.af/\b.cs=(lM y).q.av/\ag (bs a).tab=ag (lM y).t/\(bs a).tab=(lM y).t/\True))) (False))) (Iv (qG (a,false))/\d (aj (aB 0 b.an) (False) (False))))) (Iv (qG (a,false))/\d (aj (oK a) (Iv (qG (a,true))/\d (aj (aB b.an 0) (False) (False))) (Iv (qG (a,false))/\d (aj f (False) (False))))))
def JA (y:cj):Prop:=let b:=ite (3<y.r.length) (List.take 3 y.r) y.r;let q1:=cj.mk b y.c;let d:=aB 0 (b9 q1).an;let e:=aB (b9 q1).an 0;let f:=aB (b9 q1).an (b9 q1).an;let a:=λp:Prop=>RAH b y.c p;(aj (aw 3 (ag y.r)) (Tt 1 (aG 3 (ag y.r)/\∃z:Unit,dE y.r 3=b/\RAG y.c ((Iv True)))) (∃z:Unit,y.r=b/\RAG y.c ((Iv True))))/\(∀x:Unit,(Iv True)->aj (oK q1) (Iv (qG (q1,true))/\a (aj (oK q1) (Iv (qG (q1,true))/\a (aj (aB 0 0) (False) (False))) (Iv (qG (q1,false))/\a (aj d (False) (False))))) (Iv (qG (q1,false))/\a (aj (oK q1) (Iv (qG (q1,true))/\a (aj e (False) (False))) (Iv (qG (q1,false))/\a (aj f (True) (False))))))
theorem Ma (y:cj):(aw 3 (ag y.r)->aG 3 (ag y.r)/\dE y.r 3=(if 3<y.r.length then y.r.take 3 else y.r))/\(aw 3 (ag y.r)=false->y.r=(if 3<y.r.length then y.r.take 3 else y.r)):=by
 rw[dA,hU,fm,au];refine⟨λh=>⟨ω,by rw[Zac ω];rfl⟩,λh=>by grind⟩
theorem C7 (y:cj):(jU y).r.length<=3:=by
 grind [jU]
theorem QlT (y:cj) (a:W2 (y,true)):Jz y:=by
 have a:true=oK (jU y):=a;have hl:=C7 y;grind [Ma,qG,jU,Jz,lM,aC]
theorem QlU (y:cj) (a:W2 (y,false)):JA y:=by
 have a:false=oK (jU y):=a;grind [Ma,qG,jU,JA]
def nt (lo hi:Nat) (x:aW):Prop:=x.bm.length<=1000000/\((x.op=1/\x.x=0/\x.y=0/\x.bm=aU x.bm)\/(x.op=2/\(lo:Int)<=x.x/\x.x<=hi/\(lo:Int)<=x.y/\x.y<=hi/\x.bm=[])\/(x.op=3/\(lo:Int)<=x.x/\x.x<=hi/\x.y=0/\x.bm=[])\/(x.op=4/\0<=x.x/\x.x<10/\x.y=0/\x.bm=[])\/((x.op=5\/x.op=6)/\x.x=0/\x.y=0/\x.bm=[]))
def nt.mono {i g:Nat} {x:aW} (h:nt Z Y x) (h1:i<=Z) (j:Y<=g):nt i g x:=by
 obtain⟨h0,h | ⟨a,b,c,d,e,f⟩ | ⟨a,b,c,d⟩ | h | h⟩:=h
 ·exact⟨h0,.inl h⟩
 ·exact⟨h0,.inr (.inl ⟨a,ω,ω,ω,ω,f⟩)⟩
 ·exact⟨h0,.inr (.inr (.inl ⟨a,ω,ω,d⟩))⟩
 ·exact⟨h0,.inr (.inr (.inr (.inl h)))⟩
 ·exact⟨h0,.inr (.inr (.inr (.inr h)))⟩
theorem FO {b out:Nat} (lz:Bool) (h1:Z<=b) (a:b+1<=Y) (c:Z<=out) (d:out<=Y):nt Z Y (hZ lz b out):=by
 unfold hZ;split<;>exact⟨Zaj _,.inr (.inl ⟨rfl,by grind,by grind,by grind,by grind,rfl⟩)⟩
theorem Mb (a:∀b,∀x∈X b,nt b (b+Z) x):∀(n b:Nat),∀x∈iq X Z n b,nt b (b+n*Z) x
 | 0,b,x,h=>nomatch h
 | n+1,b,x,h=>by
  have e:b+Z+n*Z=b+(n+1)*Z:=by grind
  rcases Zax.1 h with h | h
  ·exact(a b x h).mono ω ω
  ·exact(Mb a n _ x h).mono ω ω
theorem Mc {lz:Bool} (a:∀b,∀x∈X b,nt b (b+Z) x):∀(n b:Nat),b+n*(Z+1)<=Y->∀x∈fp (λi=>hZ lz i Y) X Z n b,nt b Y x
 | 0,b,_,x,h=>nomatch h
 | n+1,b,c,x,h=>by
  have e:b+1+Z+n*(Z+1)=b+(n+1)*(Z+1):=by grind
  rcases Zbf.1 h with rfl | h
  ·grind [FO]
  ·rcases Zax.1 h with h | h
   ·exact(a _ x h).mono ω ω
   ·exact(Mc a n _ ω x h).mono ω ω
def NdT (t:ah):Prop:=∀x∈aD t,iO x
def NdL (l:List ah):Prop:=∀x∈aA l,iO x
mutual
theorem C8:∀(t:ah) (b:Nat),ku t->NdT t->∀x∈bS t b,nt b (b+bt t) x
 | .mk op r mn mx lz cap nk ks,b,h,hn,x,hx=>by
  rw[ku] at h
  obtain⟨⟨g,hw⟩,_,h3⟩:=h
  have hn1:iO ⟨op,r,mn,mx,lz,cap,ks.length⟩:=hn _ (by rw[aD];exact Za8 ..)
  have hn2:NdL ks:=λy hy=>hn y (by rw[aD];exact ZaU _ hy)
  have hl:=λb=>FP ks b h3 hn2
  have hll:=λb=>nh ks b h3
  rw[bS] at hx
  rw[bt]
  unfold pF
  unfold ck at hw
  by_cases h2:op=2
  ·simp[h2] at hx hw ⊢
   subst hx
   refine⟨hn1,.inl ⟨rfl,rfl,rfl,?_⟩⟩
   split at hw
   ·cases hw
   ·exact(by simpa using hw:_/\_).2
  ·by_cases h7:op=7
   ·simp[h7] at hx ⊢
    subst hx
    exact⟨Zaj _,.inr (.inr (.inr (.inr ⟨.inl rfl,rfl,rfl,rfl⟩)))⟩
   ·by_cases h8:op=8
    ·simp[h8] at hx ⊢
     subst hx
     exact⟨Zaj _,.inr (.inr (.inr (.inr ⟨.inr rfl,rfl,rfl,rfl⟩)))⟩
    ·by_cases h3':op=3
     ·simp[h3'] at hx ⊢
      exact hl b x hx
     ·by_cases h4:op=4
      ·simp[h4] at hx ⊢
       exact(Md ks b _ h3 hn2 (Zah _) x hx).mono (Zah _) ω
      ·by_cases h5:op=5
       ·subst h5
        simp only[show ¬((5:Int)=2) by decide,show ¬((5:Int)=7) by decide,show ¬((5:Int)=8) by decide,show ¬((5:Int)=3) by decide,show ¬((5:Int)=4) by decide,show ¬((5:Int)=6) by decide,Za0,Zbv,or_self] at hx ⊢
        unfold IK at hx
        rcases Zax.1 hx with hx | hx
        ·refine(Mb hl _ _ x hx).mono (Zah _) ?_
         split<;>omega
        ·split at hx
         ·rename_i hm
          rw[Zac hm]
          rcases Zbf.1 hx with rfl | hx
          ·exact FO lz ω ω ω ω
          ·rcases Zax.1 hx with hx | hx
           ·exact(hl _ x hx).mono ω ω
           ·rw[ZaI.1 hx]
            exact⟨Zaj _,.inr (.inr (.inl ⟨rfl,by simp only;omega,by simp only;omega,rfl,rfl⟩))⟩
         ·rename_i hm
          rw[Zaa hm]
          unfold lj at hx
          refine(Mc hl _ _ ?_ x hx).mono ω ω
          omega
       ·by_cases h6:op=6
        ·simp[h6] at hx hw ⊢
         have hc:1<=cap/\cap<=4:=by
          split at hw
          ·cases hw
          ·have:=(by simpa using hw:_/\_)
           omega
         rcases hx with rfl | hx | rfl
         ·exact⟨Zaj _,.inr (.inr (.inr (.inl ⟨rfl,by simp only;omega,by simp only;omega,rfl,rfl⟩)))⟩
         ·exact(hl _ x hx).mono ω ω
         ·exact⟨Zaj _,.inr (.inr (.inr (.inl ⟨rfl,by simp only;omega,by simp only;omega,rfl,rfl⟩)))⟩
        ·simp[h2,h7,h8,h3',h4,h5,h6] at hx
theorem FP:∀(l:List ah) (b:Nat),nf l->NdL l->∀x∈bu l b,nt b (b+aQ l) x
 | [],b,_,_,x,hx=>by rw[bu] at hx;cases hx
 | t::l,b,h,hn,x,hx=>by
  rw[nf] at h
  rw[bu] at hx
  rw[aQ]
  rcases Zax.1 hx with hx | hx
  ·exact(C8 t b h.1 (λy hy=>hn y (by rw[aA];exact Zay _ hy)) x hx).mono (Zah _) ω
  ·exact(FP l _ h.2 (λy hy=>hn y (by rw[aA];exact ZaC _ hy)) x hx).mono ω ω
theorem Md:∀(l:List ah) (b e:Nat),nf l->NdL l->b+aQ l+2*(l.length-1)<=e->∀x∈kj l b e,nt b e x
 | [],b,e,_,_,_,x,hx=>by rw[kj] at hx;cases hx
 | t::l,b,e,h,hn,he,x,hx=>by
  rw[nf] at h
  rw[kj] at hx
  rw[aQ] at he
  have ht:=λb=>C8 t b h.1 (λy hy=>hn y (by rw[aA];exact Zay _ hy))
  have hl:=λb=>Md l b e h.2 (λy hy=>hn y (by rw[aA];exact ZaC _ hy))
  cases l with
  | nil=>
   simp only[List.isEmpty_nil,Zbv] at hx
   exact(ht b x hx).mono (Zah _) ω
  | cons u l=>
   simp only[List.isEmpty_cons,ZaE,Za0] at hx
   simp only[Zae] at he hl
   rcases Zbf.1 hx with rfl | hx
   ·exact⟨Zaj _,.inr (.inl ⟨rfl,by simp only;omega,by simp only;omega,by simp only;omega,by simp only;omega,rfl⟩)⟩
   ·rcases Zax.1 hx with hx | hx
    ·exact(ht _ x hx).mono ω ω
    ·rcases Zbf.1 hx with rfl | hx
     ·exact⟨Zaj _,.inr (.inr (.inl ⟨rfl,by simp only;omega,by simp only;omega,rfl,rfl⟩))⟩
     ·exact(hl _ ω x hx).mono ω (Zah _)
end
variable {i:Nat} {c:List aW} {s:cj} {Z:List Int}
def Seg (c:List aW) (q lo hi:Nat):Prop:=lo<=hi/\hi<c.length/\c.getD hi cX=⟨7,q,0,[]⟩/\∀i,lo<=i->i<hi->nt lo hi (c.getD i cX)
def W3 (c:List aW) (s:List Int) (r:Nat):Prop:=s.length=r/\(∀q,q<r->∃lo hi:Nat,s.getD q 0=lo/\Seg c q lo hi)/\∀i,i<c.length->∃q lo hi:Nat,q<r/\Seg c q lo hi/\lo<=i/\i<=hi
theorem W4 {α:Type} (d:α) (a b:List α) (h:i<a.length):(a++b).getD i d=a.getD i d:=by
 grind
theorem OZ {α:Type} (d:α) (a b:List α) (i:Nat):(a++b).getD (a.length+i) d=b.getD i d:=by
 grind
theorem Seg.app {lo hi:Nat} (h:Seg c i lo hi) (d:List aW):Seg (c++d) i lo hi:=by
 have⟨h1,e,f,g⟩:=h;refine⟨h1,by grind,by grind,λq a b=>?_⟩;grind
theorem QaL (c:List aW) {t:ah} (r:Nat) (h:ku t) (e:NdT t):Seg (c++qF t r c.length) r c.length (c.length+bt t+2):=by
 have hl:=iR t (c.length+1) h;have f:qF t r c.length=(⟨4,0,0,[]⟩::(bS t (c.length+1)++[⟨4,1,0,[]⟩]))++[⟨7,r,0,[]⟩]:=by grind [qF]
 have g:((⟨4,0,0,[]⟩:aW)::(bS t (c.length+1)++[⟨4,1,0,[]⟩])).length=bt t+2:=by simp[hl]
 rw[f];refine⟨ω,by grind,?_,λi a b=>?_⟩
 ·grind
 ·obtain⟨k,rfl⟩:∃k,i=c.length+k:=⟨i-c.length,ω⟩;rw[OZ,W4 _ _ _ ω];have d:((⟨4,0,0,[]⟩:aW)::(bS t (c.length+1)++[⟨4,1,0,[]⟩])).getD k cX∈((⟨4,0,0,[]⟩:aW)::(bS t (c.length+1)++[⟨4,1,0,[]⟩])):=by
   grind
  generalize ((⟨4,0,0,[]⟩:aW)::(bS t (c.length+1)++[⟨4,1,0,[]⟩])).getD k cX=x at d ⊢;rcases Zbf.1 d with rfl | d
  ·exact⟨Zaj _,.inr (.inr (.inr (.inl ⟨rfl,by grind,by grind,rfl,rfl⟩)))⟩
  ·rcases Zax.1 d with d | d
   ·exact(C8 t _ h e x d).mono ω ω
   ·rw[ZaI.1 d];exact⟨Zaj _,.inr (.inr (.inr (.inl ⟨rfl,by grind,by grind,rfl,rfl⟩)))⟩
theorem W5 {t:ah} (h:W3 c Z i) (hw:ku t) (m:NdT t):W3 (c++qF t i c.length) (Z++[(c.length:Int)]) (i+1):=by
 have⟨h1,k,l⟩:=h;have n:=QaL c i hw m;have hl:=iR t (c.length+1) hw;refine⟨by simp[h1],λq o=>?_,λr hi=>?_⟩
 ·by_cases j:q<i
  ·have⟨lo,hi,e,hs⟩:=k q j;exact⟨lo,hi,by grind,hs.app _⟩
  ·grind
 ·by_cases g:r<c.length
  ·have⟨q,lo,f,a,b,d,e⟩:=l r g;exact⟨q,lo,f,ω,b.app _,d,e⟩
  ·grind [qF]
theorem Me:∀(l:List (List Nd)) (r:Nat) (c:List aW) (s:List Int),(∀x∈l,∀n∈x,iO n)->W3 c s r->c.length<=400->(ni l r c s).2.1=0->W3 (ni l r c s).1.1 (ni l r c s).1.2 (r+l.length)/\(ni l r c s).1.1.length<=400
 | [],r,c,s,_,h,f,_=>⟨h,f⟩
 | x::l,r,c,s,hn,h,f,he=>by
  rw[ni] at he ⊢;by_cases i:dS x=false
  ·grind
  ·rw[Zaa i] at he ⊢;have⟨t,d,k,m⟩:=jl (L:=x) (by grind);have ht:rC x=t:=by
    have:=ki (a:=0) (r:=[]) d (show x.drop 0=aD t++[] by grind);assumption
   by_cases e:400<c.length+bt (rC x)+3
   ·grind
   ·rw[Zaa e] at he ⊢;rw[ht] at he e ⊢;have b:NdT t:=λn g=>hn x (by simp) n (by grind)
    have hl:=iR t (c.length+1) d;have:=Me l (r+1) _ _ (λy j=>hn y (by simp[j])) (W5 h d b) (by grind [qF]) he;grind
theorem ub {af:List aW} {Q:Int->Prop} (h0:∀i,Q i->0<=i) (b:∀i,Q i->((af.getD i.toNat cX).op=2->Q (af.getD i.toNat cX).x/\Q (af.getD i.toNat cX).y)/\((af.getD i.toNat cX).op=3->Q (af.getD i.toNat cX).x)/\((af.getD i.toNat cX).op≠2->(af.getD i.toNat cX).op≠3->(af.getD i.toNat cX).op≠7->Q (i+1))):
  ∀(f:Nat) (s:List Bool) (l:List Int),(∀i:Nat,s.getD i false->Q i)->(∀i∈l,Q i)->∀i:Nat,(j4 af f s l).getD i false->Q i
 | 0,s,l,hs,_=>hs
 | f+1,s,l,hs,hl=>by
  rw[j4];split
  ·exact hs
  ·have hi:Q (l.getD (l.length-1) 0):=by
    rw[Zag,Zaf ω];grind
   have hk:∀i∈l.take (l.length-1),Q i:=λi hi=>hl i (Zcg hi)
   simp only;generalize l.getD (l.length-1) 0=j at hi ⊢;generalize l.take (l.length-1)=k at hk ⊢;have c:=h0 j hi;have a:∀i:Nat,(s.set j.toNat true).getD i false->Q i:=λi h=>by
    by_cases e:i=j.toNat
    ·subst e;rw[show((j.toNat:Nat):Int)=j by omega];exact hi
    ·grind
   split
   ·exact ub h0 b f s k hs hk
   ·split
    ·refine ub h0 b f _ _ a λi h=>?_
     rcases Zax.1 h with h | h
     ·exact hk i h
     ·simp only[Zbf,Zds,Zdt] at h;rcases h with rfl | rfl
      ·grind
      ·grind
    ·split
     ·refine ub h0 b f _ _ a λi h=>?_
      grind
     ·split
      ·exact ub h0 b f _ k a hk
      ·rename_i d g m
       refine ub h0 b f _ _ a λi h=>?_
       grind
theorem QaM (h:W3 c Z i) (D:i<=8) (z:c.length<=400):F5 ⟨c,Z⟩:=by
 have⟨h1,t,u⟩:=h;have hi:∀r,r<c.length->(∃q:Nat,q<i/\c.getD r cX=⟨7,q,0,[]⟩)\/(r+1<c.length/\nt 0 (c.length-1) (c.getD r cX)):=λr hi=>by
  have⟨q,lo,l,k,⟨p,a2,a3,a4⟩,A,E⟩:=u r hi;by_cases e:r=l
  ·grind
  ·exact .inr ⟨ω,(a4 r A ω).mono ω ω⟩
 refine⟨z,by grind,λr g=>?_,λx j=>?_,⟨by grind,λr g=>?_⟩,λq k=>?_⟩
 ·show Ez (c.getD r cX) (decide ((r:Int)+1<(c.length:Int))) c.length Z.length
  have j:=hi r g;generalize c.getD r cX=x at j ⊢;unfold Ez;rcases j with⟨q,k,e⟩ | ⟨w,h0,⟨o,a,b,d⟩ | ⟨o,a,b,d,e,f⟩ | ⟨o,a,b,d,e⟩ | ⟨o,a,b,d,e⟩ | ⟨o,a,b,d⟩⟩
  ·rw[e];simp[ij,h1];omega
  ·grind
  ·simp[o,f,ij];omega
  ·simp[o,d,e,ij];omega
  ·simp[o,d,e,ij];omega
  ·rcases o with o | o<;>(simp[o,a,b,d];omega)
 ·have⟨r,g,e⟩:=Za3 j;rcases hi r g with⟨q,k,B⟩ | ⟨_,h0,_⟩
  ·grind
  ·grind
 ·have j:=hi r g;show((c.getD r cX).op=2->0<=(c.getD r cX).x/\(c.getD r cX).x<c.length/\0<=(c.getD r cX).y/\(c.getD r cX).y<c.length)/\((c.getD r cX).op=3->0<=(c.getD r cX).x/\(c.getD r cX).x<c.length)/\((c.getD r cX).op≠2->(c.getD r cX).op≠3->(c.getD r cX).op≠7->r+1<c.length)
  rcases j with⟨q,k,e⟩ | ⟨w,h0,⟨o,a,b,d⟩ | ⟨o,a,b,d,e,f⟩ | ⟨o,a,b,d,e⟩ | ⟨o,a,b,d,e⟩ | ⟨o,a,b,d⟩⟩
  ·rw[e];simp
  ·omega
  ·omega
  ·omega
  ·omega
  ·omega
 ·have k:q<i:=by grind
  have⟨lo,l,e,p,a2,a3,a4⟩:=t q k;show 0<=Z.getD q 0/\Z.getD q 0<c.length/\∀r:Nat,r<c.length->(lJ c (Z.getD q 0)).getD r false->(c.getD r cX).op=7->(c.getD r cX).x=q
  rw[e];refine⟨ω,ω,λr g m C=>?_⟩;have v:=ub (af:=c) (Q:=λr=>(lo:Int)<=r/\r<=l) (λr h=>ω) (λr v=>by
   obtain⟨n,rfl⟩:=Zau (show 0<=r by omega);rw[Zad];by_cases en:n=l
   ·rw[en,a3];simp
   ·have j:=a4 n ω ω;generalize c.getD n cX=x at j ⊢;obtain⟨h0,⟨o,a,b,d⟩ | ⟨o,a,b,d,e,f⟩ | ⟨o,a,b,d,e⟩ | ⟨o,a,b,d,e⟩ | ⟨o,a,b,d⟩⟩:=j
    ·omega
    ·omega
    ·omega
    ·omega
    ·rcases o with o | o<;>(simp[o];omega)) (3*c.length+1) (KR c.length) [(lo:Int)] (λr h=>by
    unfold KR at h;rw[Zag,List.getElem?_replicate] at h;split at h<;>simp at h) (λr h=>by grind) r m
  by_cases en:r=l
  ·rw[en,a3]
  ·obtain⟨h0,⟨o,_⟩ | ⟨o,_⟩ | ⟨o,_⟩ | ⟨o,_⟩ | ⟨o | o,_⟩⟩:=a4 r ω ω<;>omega
theorem W6 {l:List (List Nd)} (f:∀x∈l,∀n∈x,iO n) (c:(bZ l).2.1=0):F5 ⟨(bZ l).1.1,(bZ l).1.2⟩/\(bZ l).1.2.length=l.length:=by
 have e:bZ l=IN l:=by grind [bZ,aC]
 rw[e] at c ⊢;unfold IN at c ⊢;split at c
 ·grind
 ·rename_i d
  rw[Zaa d];have⟨a,b⟩:=Me l 0 [] [] f ⟨rfl,λq h=>absurd h ω,λi h=>absurd h (Zbo _)⟩ (Zaj _) c;rw[Za6] at a;exact⟨QaM a ω b,a.1⟩
theorem Mf:∀(l:List iX) (i:Nat) (t:List Row) (o:List (List Nd)),(l3 l i t o).an=0->(l3 l i t o).out.length=o.length+l.length
 | [],i,t,o,_=>rfl
 | x::l,i,t,o,h=>by
  rw[l3] at h ⊢;split at h
  ·grind
  ·rename_i h1
   rw[Zaa h1];split at h
   ·grind
   ·rename_i a
    rw[Zaa a];split at h
    ·grind
    ·rename_i b
     rw[Zaa b,Mf l _ _ _ h];simp;omega
theorem Mg {y:cj} (hl:y.r.length<=1000) (h:oK y):F5 ⟨(b9 y).af,(b9 y).st⟩/\XG ⟨(b9 y).cc,(b9 y).cs⟩/\(y.c≠[]->F5 ⟨(b9 y).cc,(b9 y).cs⟩/\(b9 y).cs.length=1)/\(b9 y).st.length=y.r.length:=by
 have p:b9 y=jm y:=by grind [b9,aC]
 obtain⟨q,s⟩:(∀x∈(bs y).out,cE x)/\(bs y).out.length<=y.r.length:=by
  grind [wo,bs,aC]
 have h0:(jm y).an=0:=by grind [oK]
 rw[p];by_cases h1:8<y.r.length
 ·grind [jm,LB]
 by_cases e:(bs y).an=0
 case neg=>rw[VW h1 e] at h0;exact absurd h0 e
 by_cases g:y.c≠[]/\(cm y.c).2.1≠0
 ·rw[VX h1 e g.1 g.2] at h0;exact absurd h0 g.2
 have d:y.c≠[]->(cm y.c).2.1=0:=λa=>Zch λb=>g ⟨a,b⟩
 by_cases f:(bZ (bs y).out).2.1=0
 case neg=>rw[VY h1 e d f] at h0;exact absurd h0 f
 have k:=W6 q f;have o:(bs y).out.length=y.r.length:=by
  grind [bs,aC,Mf]
 by_cases i:y.c=[]
 ·rw[V1 h1 e d f i];exact⟨k.1,⟨Zaj _,Zaj _,λx m=>nomatch m⟩,λh=>absurd i h,k.2.trans o⟩
 ·by_cases j:(bZ [cP (cm y.c).1]).2.1=0
  ·rw[V0 h1 e d f i j];have n:=W6 (l:=[cP (cm y.c).1]) (λx m=>by rw[ZaI.1 m];exact wm (ma _)) j;exact⟨k.1,n.1.pg,λ_=>⟨n.1,n.2⟩,k.2.trans o⟩
  ·rw[VZ h1 e d f i j] at h0;exact absurd h0 j
theorem F5.cod {p:iC} (h:F5 p):Qis p.af:=by
 refine⟨by have:=h.1;omega,λx a b=>?_⟩;have⟨i,hi,e⟩:=Za3 a;have hs:=h.2.2.1 i hi;have hs:Ez (p.af.getD i cX) (decide ((i:Int)+1<↑p.af.length)) p.af.length p.av.length:=hs;grind [Ez,ij]
theorem QlV (h:ldK s):F5 (lM s).p/\XG (lM s).q/\(jnR (lM s)->F5 (lM s).q/\(lM s).q.av.length=1):=by
 rw[show lM s=_ from aC _];have⟨h1,b,d,_⟩:=Mg (y:=jU s) (by grind [C7]) h;refine⟨h1,b,λa=>d λe=>?_⟩;have a:(!seq (jU s).c []):=a;grind
theorem QfQ (h:ldK s):(lM s).p.av.length=(lM s).s.r.length:=by
 rw[show lM s=_ from aC _];exact(Mg (y:=jU s) (by grind [C7]) h).2.2.2
def XK.Q {s:Dg} {N:Int} (h:XK s N):scQ s:=⟨⟨h.1,by have:=h.2.1;omega⟩,h.2.2.2.1.2⟩
structure WlY where
 s:cj
 x:FN
def vJ (l:List By) (k:Nat):Int:=(l.take k).foldl (λs b=>lk (vH (s,b))) 0
def QlW (y:List By):Prop:=y.length<=1000/\∀k,k<y.length->(y.getD k []).length<=1000000000000
def W7:bh D:=bO 84 (List By) (QtP 21) QlW (λy=>[.list 21 y]) λy=>.int .u32 (vJ y y.length)
def QtV (y:W7.Y):cH D:=⟨[],[],[(58,⟨Nat,[6,7],λk=>[(3,.int .u32 (vJ y k)),(8,Qvo k)],[],λ_=>[],0,λk=>k<=(y:List By).length,λk=>(y:List By).length-k⟩)],[],1,[]⟩
def qJ (s:cj):Int:=FZ .i64 (oO .i64 (jP .i64 (vH (0,nr [] s))) 16) (jP .i64 (lF .u32 (vH (1,nr [] s)) 65535))
def y8 (s:cj):Prop:=30+eO s.r+s.c.length<=536870912
def QaN:bh D:=⟨35,j8,Τ,λy=>y8 y.s,λ_=>[.ptr 0 0],IU,λy=>Qvo (qJ y.s),IU,3,3⟩
def QaO:bh D:=bO 39 cj Lx y8 (λy=>[CM y]) λy=>Qvo (qJ y)
def W8:bh D:={ OT with f:=32 }
def scE (y:Dh):Q6:=⟨y.h,y.m,y.L⟩
def y9 (y:FN):List Q6:=[scE y.a8,scE y.aH,scE y.aZ]
def ud (y:FN) (k:Nat):Bool:=(y9 y).take k |>.all λx=>fb ⟨x.h,x.m,x.L⟩
def rG (y:FN):Bool:=lk (fb y.a8&&fb y.aH&&fb y.aZ&&aB y.st.pos 0&&aB y.st.bN 0&&!y.st.ch&&!y.st.jH&&aB y.st.bj 0&&aB y.st.size 0&&aB (ag y.st.aS) 0)
def O0:bh D:=bO 31 FN (λa s=>match a with
 | [m]=>QfP m s
 | _=>.fail) (λ_=>True) (λy=>[saA y]) λy=>.bool (rG y)
def Qt0 (y:O0.Y):cH D:=⟨[],[],[(58,⟨Nat,[1],λk=>[(3,.bool (ud y k)),(12,.list 20 (y9 y)),(13,.num .i64 3),(14,Qvo k)],[0],λ_=>[],1,λk=>k<=3,λk=>3-k⟩)],[],1,[]⟩
structure lN where
 live:Bool
 a:Int
 b:Int
 c:Int
 d:Int
 x:FN
def O3 (y:lN):List (AV D.E):=[.bool y.live,.int .i64 y.a,.int .i64 y.b,.int .i64 y.c,.int .u32 y.d]++dh (saA y.x)
def QaP (v:AV D.E) (s:St D.E):C lN:=az (asAgg v) λcs=>match cs with
 | l::a::b::c::d::x=>aP (zh l) λl _=>aP (cT a) λ_ a=>aP (cT b) λ_ b=>aP (cT c) λ_ c=>aP (cT d) λ_ d=>az (QfP (.agg x) s) λx=>.ret ⟨l,a,b,c,d,x⟩
 | _=>.fail
def ptN (y:lN):Bool:=!(aw y.a 1||aw 12 y.a||aw y.b 1||aw 1099511627776 y.b)
def ptB (y:lN):Bool:=aB y.c 0&&aB y.d 0&&rG y.x
def C9 (r:j8) (y:lN):zl:=⟨r,y.x.st,y.x.a8,y.x.aH,y.x.aZ⟩
def gE (y:j8×lN):Bool:=lk (ptN y.2&&(if y.2.live=true then aG 0 y.2.c&&aG y.2.c 16&&ny (C9 y.1 y.2) else ptB y.2))
def gP (y:lN):Bool:=lk (ptN y&&!y.live&&ptB y)
def QlX (a:List (AV D.E)) (s:St D.E):C (j8×lN):=match a with
 | [r,x]=>az (Qfx r s) λr=>az (QaP x s) λx=>.ret (r,x)
 | _=>.fail
def QlY (a:List (AV D.E)) (s:St D.E):C (j8×lN):=match a with
 | [r,x]=>az (QfM r s) λr=>az (QaP x s) λx=>.ret (r,x)
 | _=>.fail
def QaQ (a:List (AV D.E)) (s:St D.E):C lN:=match a with
 | [r,x]=>match r with
  | .fT=>QaP x s
  | _=>.fail
 | _=>.fail
def W9:bh D:=⟨9,j8×lN,QlX,λy=>WK (C9 y.1 y.2),λy=>[.ptr 0 0,.agg (O3 y.2)],λy=>IU y.1,λy=>.bool (gE y),λy=>IU y.1,3,3⟩
def W':bh D:=bO 9 lN QaQ (λ_=>True) (λy=>[.fT,.agg (O3 y)]) λy=>.bool (gP y)
def W_:bh D:=⟨10,j8×lN,QlY,λy=>y7 (C9 y.1 y.2),λy=>[.ptr 0 0,.agg (O3 y.2)],λy=>XP y.1,λy=>.bool (gE y),λy=>XP y.1,1,1⟩
def Xa:bh D:=bO 10 lN QaQ (λ_=>True) (λy=>[.fT,.agg (O3 y)]) λy=>.bool (gP y)
def QfR:bh D:={ QlS with f:=6 }
def QaV:bh D:=bO 11 lN (λa s=>match a with
 | [m]=>QaP m s
 | _=>.fail) (λ_=>True) (λy=>[.agg (O3 y)]) λy=>.agg (O3 y)
def kD (y:QaV.Y):Prop:=vc [] f11 QaV (λ_=>dY ()) y
def QfS:bh D:=bO 8 Unit (λ_ _=>.ret ()) (λ_=>True) (λ_=>[]) λ_=>.lit true
end
end sx
namespace sx
open Go Go.RowKit Go.ChangeShapes Go.WideShapes Go.ChangeAt cls syn
set_option maxRecDepth 100000
theorem y_ {α:Type} {f:α->Nat}:∀(xs:List α) (g:Nat->Nat),(∀i (hi:i<xs.length),f xs[i]<=g i)->(xs.map f).sum<=((List.range xs.length).map g).sum
 | [],g,_=>by simp
 | x::xs,g,h=>by
  have h1:=y_ xs (λi=>g (i+1)) λi hi=>h (i+1) (by grind)
  rw[Zae,List.range_succ_eq_map,Zbl,Zco,Zbl,Zdq];show f x+_<=g 0+((List.range xs.length).map (λi=>g (i+1))).sum
  grind
theorem FQ {H:Type} (d:DataW H):1<=Rows.uptoBulk d:=by
 cases d with
 | lit l=>cases l<;>simp[Rows.uptoBulk]
 | nil=>simp[Rows.uptoBulk]
 | ptr d=>simp[Rows.uptoBulk]
 | slice elems spare=>simp[Rows.uptoBulk]
 | agg parts=>simp[Rows.uptoBulk]
 | iface t d=>simp[Rows.uptoBulk]
 | map entries=>simp[Rows.uptoBulk]
 | held h=>simp[Rows.uptoBulk]
section
variable {H:Type} {a_:TypeId×Value->H} {P:Program} {W:World} {held:Bool} {M:Pm D}
def iW (M:Pm D) (W:World) (l:List (AV D.E)) (cs:List Value):Prop:=l.length=cs.length/\∀(j:Nat) (u:AV D.E) (v:Value),l[j]?=some u->cs[j]?=some v->∀b o,W.cell? ⟨b,o,none⟩=some v->M.sg b o=some u
theorem iW.nil:iW M W [] []:=⟨rfl,λj u v h=>by simp at h⟩
def iW.cons {u:AV D.E} {v:Value} {l:List (AV D.E)} {cs:List Value} (h:∀b o,W.cell? ⟨b,o,none⟩=some v->M.sg b o=some u) (k:iW M W l cs):iW M W (u::l) (v::cs):=
 ⟨by simp[k.1],λj c d e a=>by
  cases j with
  | zero=>simp at e a;subst e;subst a;exact h
  | succ j=>exact k.2 j c d (by simpa using e) (by assumption)⟩
theorem Da {c:Nat} {e:TypeId} {v:Value} {w:Nat} {Q:D.E c->Nat->Prop} (J:P.cellsOf e=D.size c) (z:0<D.size c)
  (H:∀n cs x,Pf a_ P W held n e cs=some x->∃y:D.E c,iW M W (D.a_ c y) cs/\Q y (Rows.uptoBulk x.1)) (h:Nj a_ P W held (.sl e) v w):
  ∃(xs:List (D.E c)) (g:Nat->Nat),VR M (.list c xs) v/\((List.range xs.length).map g).sum<=w/\∀i (hi:i<xs.length),Q xs[i] (g i):=by
 rcases h with rfl | ⟨a,len,cap,n,rfl,hl,K,l,A,N⟩
 ·exact⟨[],λ_=>0,.ed,by simp,λi hi=>by grind⟩
 ·by_cases h0:len=0
  ·subst h0;exact⟨[],λ_=>0,.ed,by simp,λi hi=>by grind⟩
  have I:∀i,i<len->∃y:D.E c,∃cs,W.cells? 0 (a.add (i*D.size c)) (D.size c)=some cs/\iW M W (D.a_ c y) cs/\Q y (Rows.uptoBulk (l i)):=λi hi=>by
   grind
  haveI:Inhabited (D.E c):=⟨D.XU c⟩
  have⟨f,r⟩:=Go.Deep.choose_lt I;have⟨b,o,sp⟩:=a;have⟨B,c1,c2,_⟩:=r 0 ω;have F:((⟨b,o,sp⟩:Addr).add (0*D.size c)).add 0=⟨b,o,sp⟩:=by simp[Addr.add]
  have p:=(World.cells?_some c1).2.2 0 z;rw[F] at p;have k:(D.a_ c (f 0)).length=D.size c:=fL.len c _;rw[Zaf (by rw[<-c2.1,k];exact z)] at p;obtain rfl:sp=none:=by
   cases sp with
   | none=>rfl
   | some s=>
    grind [World.cell?]
  have hlen:((List.range len).map f).length=len:=by simp
  refine⟨(List.range len).map f,λi=>Rows.uptoBulk (l i),?_,by grind,λi hi=>?_⟩
  ·have L:VR M (.list c ((List.range len).map f)) (.slice (some ⟨b,o,none⟩) ((List.range len).map f).length cap):=by
    refine .list (λi hi j u hu=>?_) (by grind [maxLen]) ω;have d:i<len:=ω;simp only[ZcD,Zdf] at hu;have⟨cs,C,m,_⟩:=r i d;have t:j<D.size c:=by rw[<-fL.len c (f i)];exact(Zam.1 hu).1
    have q:=(World.cells?_some C).2.2 j t;have G:((⟨b,o,none⟩:Addr).add (i*D.size c)).add j=⟨b,o+i*D.size c+j,none⟩:=by
     grind [Addr.add_lit]
    rw[G,Zaf (by rw[<-m.1,fL.len];exact t)] at q;exact m.2 j u _ hu (Zaf _) _ _ q
   grind
  ·grind
end
section
variable {H:Type} {a_:TypeId×Value->H} {W:World} {held:Bool} {M:Pm D}
variable {s:ByteArray}
def BB (h:s.size<=maxLen):s.data.toList.length<=9223372036854775807:=by
 assumption
def Mj (a:zq (lV W) M) (h:s.size<=maxLen):∀b o,W.cell? ⟨b,o,none⟩=some (.string s)->M.sg b o=some (.str s.data.toList):=λb o c=>a b o _ (by
 show(W.cell? ⟨b,o,none⟩).bind kO=_
 rw[c];show kO (.string s)=_
 simp only[kO];rw[Zac (BB h)])
theorem Xf (c:zq (lV W) M) (n:Nat) (cs:List Value) (x:DataW H×List MemPlace) (h:Pf a_ prog W held n 77 cs=some x):∃y:D.E 3,iW M W (D.a_ 3 y) cs/\(iX.name y).length+(iX.text y).length+20<=21*Rows.uptoBulk x.1:=by
 obtain⟨v,r,k,e,rfl,⟨a,rfl,q1,i⟩,g1,g⟩:=(pe 8 77 [.str,.str] cs n x (by kernel_rfl) h).aM;obtain⟨v,r,l,f,rfl,⟨b,rfl,d,j⟩,g2,e2⟩:=g1.aM;obtain rfl:=g2.jA;refine⟨(⟨a.data.toList,b.data.toList⟩:iX),.cons (Mj c q1) (.cons (Mj c d) .nil),?_⟩;grind [FQ]
theorem Xg (l:List iX):eO l=(l.map λp=>p.name.length+p.text.length+20).sum:=by
 induction l with
 | nil=>rfl
 | cons p l a=>simp only[eO,Zbl,Zco,a]
theorem Xh (b:zq (lV W) M) {n:Nat} {cs:List Value} {x:DataW H×List MemPlace} (h:Pf a_ prog W held n 24 cs=some x):∃y:cj,LR M [.list 3 y.r,.str y.c] cs/\eO y.r+y.c.length<=21*Rows.uptoBulk x.1:=by
 obtain⟨v,r,s,j,rfl,s0,g1,m⟩:=(pe 8 24 [.sl 77,.str] cs n x (by kernel_rfl) h).aM;have⟨a0,g,e,o,d⟩:=Da (c:=3) (M:=M) (Q:=λ(y:D.E 3) n=>(iX.name y).length+(iX.text y).length+20<=21*n) (by kernel_rfl) (ZcY (by kernel_rfl)) (λn cs x h=>Xf b n cs x h) s0;obtain⟨v,r,t,l,rfl,⟨a,rfl,q1,q⟩,g2,e2⟩:=g1.aM;obtain rfl:=g2.jA;have k:=y_ (f:=λ(p:D.E 3)=>(iX.name p).length+(iX.text p).length+20) a0 (λi=>21*g i) d;have k2:((List.range a0.length).map λi=>21*g i).sum=21*((List.range a0.length).map g).sum:=by
  induction (List.range a0.length)<;>grind
 refine⟨⟨a0,a.data.toList⟩,.cons e (.cons (.str (BB q1)) .nil),?_⟩;rw[Xg];show(a0.map λ(p:iX)=>p.name.length+p.text.length+20).sum+a.data.toList.length<=_
 have k:(a0.map λ(p:iX)=>p.name.length+p.text.length+20).sum<=_:=k;omega
end
end sx
set_option maxRecDepth 100000
set_option maxHeartbeats 4000000
namespace sx
noncomputable section
open Go Go.RowKit cls syn
def QfT (s:cj):Prop:=eO s.r+s.c.length<=22020096
structure RS where
 at_:Int
 an:Int
def Qcw (l:By) (s:RS):By:=l.drop s.at_.toNat
def kF (l:By) (s:RS):Nat:=(l.getD s.at_.toNat 0).toNat
def vF (l:By) (s:RS):By:=((Qcw l s).drop 1).take (kF l s)
def x8 (l:By):Nat:=l.foldl (λu x=>u*256+x.toNat) 0
def KI (l:By) (s:RS):Prop:=(0<kF l s/\(l.getD (s.at_.toNat+1) 0).toNat=0)\/9223372036854775808<=x8 (vF l s)
def R3 (l:By) (s:RS):Prop:=¬KI l s
instance (l:By) (s:RS):Decidable (KI l s):=by unfold KI;infer_instance
variable {l:By} {s:RS} {i:Nat}
def G0 (l:By) (s:RS):Int×RS:=
 if s.an≠0 then(0,s)
 else if (l.length:Int)<=s.at_ then(0,⟨s.at_,3⟩)
 else if 8<kF l s then(0,⟨s.at_,4⟩)
 else if (l.length:Int)<s.at_+1+kF l s then(0,⟨s.at_,3⟩)
 else if KI l s then(0,⟨s.at_,4⟩)
 else(x8 (vF l s),⟨s.at_+1+kF l s,0⟩)
def cJ (l:By) (s:RS):Int:=(G0 l s).1
def db (l:By) (s:RS):RS:=(G0 l s).2
def RT (l:By) (s:RS):List (Nat×AO D.E):=[(0,.cells [.list 0 l,.int .i64 s.at_,.int .i64 s.an] 158 false)]
def zc (l:By) (s:RS):List (Nat×AO D.E):=[(0,.cells [.list 0 l,.int .i64 s.at_,.int .i64 s.an] 99 false)]
def asR (v:AV D.E) (s:St D.E):C (By×RS):=match v with
 | .ptr b _=>az (cR (s.h.get b)) λo=>match o with
  | .cells cs _ _=>match cs with
   | [l,a,e]=>az (aL D s 0 l) λl=>aP (cT a) λ_ a=>aP (cT e) λ_ e=>.ret ((l:By),⟨a,e⟩)
   | _=>.fail
  | _=>.fail
 | _=>.fail
def bw (y:By×RS):Prop:=0<=y.2.at_/\y.2.at_<=y.1.length/\y.1.length<=1073741824
def Po:bh D where
 f:=41
 Y:=By
 oM:=λargs s=>match args with
  | [a]=>az (aL D s 0 a) λl=>.ret (l:By)
  | _=>.fail
 pre:=λy=>y.length<=1073741824
 args:=λy=>[.list 0 y]
 heap:=λ_=>[]
 res:=λ_=>.ptr 0 0
 dy:=λy=>RT y ⟨0,0⟩
 jY:=0
 oS:=1
def QmK (_:Po.Y):cH D:=dY ()
def Qvb (y:Po.Y):Prop:=lI [] f41 Po QmK y
def G9:bh D:={ Po with f:=48,dy:=λy=>zc y ⟨0,0⟩ }
def Qfn (_:G9.Y):cH D:=dY ()
def QnB (y:G9.Y):Prop:=lI [] f48 G9 Qfn y
def ss:bh D where
 f:=92
 Y:=(By×RS)×RS
 oM:=λargs s=>match args with
  | [p,a,e]=>az (asR p s) λy=>aP (cT a) λ_ a=>aP (cT e) λ_ e=>.ret (y,⟨a,e⟩)
  | _=>.fail
 pre:=λ_=>True
 args:=λy=>[.ptr 0 0,.int .i64 y.2.at_,.int .i64 y.2.an]
 heap:=λy=>RT y.1.1 y.1.2
 res:=λ_=>.num .i64 0
 dy:=λy=>RT y.1.1 y.2
 jY:=1
 oS:=1
def Qfs (_:ss.Y):cH D:=dY ()
def QnC (y:ss.Y):Prop:=lI [] f92 ss Qfs y
def ou:bh D where
 f:=43
 Y:=By×RS
 oM:=λargs s=>match args with
  | [p]=>asR p s
  | _=>.fail
 pre:=bw
 args:=λ_=>[.ptr 0 0]
 heap:=λy=>RT y.1 y.2
 res:=λy=>.int .i64 (cJ y.1 y.2)
 dy:=λy=>RT y.1 (db y.1 y.2)
 jY:=1
 oS:=1
def QmL (y:ou.Y):cH D:=⟨[],[],[(4090,⟨Nat,[0,3,4,57,58],λi=>[(5,.int .u64 (x8 ((vF y.1 y.2).take i))),(59,Qvo i)],[0],λ_=>[],1,λi=>i<=kF y.1 y.2,λi=>kF y.1 y.2-i⟩)],[],1,[]⟩
def Qvc (y:ou.Y):Prop:=lI [ss] f43 ou QmL y
def mM:bh D:={ ou with f:=50,heap:=λy=>zc y.1 y.2,dy:=λy=>zc y.1 (db y.1 y.2) }
def QfD (y:mM.Y):cH D:=⟨[],[],[(4090,⟨Nat,[0,3],λi=>[(4,Qvo (x8 ((vF y.1 y.2).take i))),(5,Qvo i)],[0],λ_=>[],1,λi=>i<=kF y.1 y.2,λi=>kF y.1 y.2-i⟩)],
 [(127,⟨Unit,[0,3],λ_=>[],[0],λ_=>[],1,λ_=>R3 y.1 y.2,λ_=>0⟩)],1,[]⟩
def QnF (y:mM.Y):Prop:=lI [] f50 mM QfD y
def Qbg (y:List UInt8):Prop:=((bJ (ag y) 1))/\aa [y] (aa ([(0:Int),(0:Int)]:List Int) (True))
def QfF:∀y,Qbg y=Qvb y:=λy=>by kernel_rfl
def Xc (y:List UInt8):Prop:=let a:=bM ([]:List UInt8) y;((bJ (ag a) 1))/\(a=y)/\aa ([(0:Int),(0:Int)]:List Int) (True)
def Qeg:∀y,Xc y=QnB y:=λy=>by kernel_rfl
def Xd (y:Prod (Prod (List UInt8) RS) RS):Prop:=aa [y.1.1] (aa [RS.at_ y.2,RS.an y.2] (True))
def Qei:∀y,Xd y=QnC y:=λy=>by kernel_rfl
def Qbh (y:Prod (List UInt8) RS):Prop:=let d:=cJ y.1 y.2;let q1:=db y.1 y.2;let k:=kF y.1 y.2;let f:=vF y.1 y.2;let c:=wD y.1 (RS.at_ y.2);let m:=Bool.not (aB (RS.an y.2) (0:Int));let n:=aB (ag c) (0:Int);let l:=jP .i64 ((UInt8.toNat (gt (0:UInt8) c 0):Nat):Int);let o:=aB ((UInt8.toNat (gt (0:UInt8) c 1):Nat):Int) (0:Int);let p:=aw (0:Int) l;let h:=aw (8:Int) l;let a:=ay .i64 (1:Int) l;let i:=dE c a;let j:=aw (ag c) a;let b:=wD i (1:Int);((m)->((0:Int)=d)/\aa [y.1] (((RS.at_ y.2)=(RS.at_ q1))/\((RS.an y.2)=(RS.an q1))/\True))/\((m=false)->((aG (0:Int) (RS.at_ y.2)))/\((aG (RS.at_ y.2) (ag y.1)))/\aa [y.1] (aa [RS.at_ y.2] (((n)->(Iv True)/\aa ([RS.at_ y.2,(3:Int)]:List Int) (aa [y.1] (aa [RS.at_ y.2,RS.an y.2] (((0:Int)=d)/\aa [y.1] (((RS.at_ y.2)=(RS.at_ q1))/\((3:Int)=(RS.an q1))/\True)))))/\((n=false)->((aG (0:Int) (0:Int)))/\((aw (0:Int) (ag c)))/\((h)->(Iv True)/\aa ([RS.at_ y.2,(4:Int)]:List Int) (aa [y.1] (aa [RS.at_ y.2,RS.an y.2] (((0:Int)=d)/\aa [y.1] (((RS.at_ y.2)=(RS.at_ q1))/\((4:Int)=(RS.an q1))/\True)))))/\((h=false)->((j)->(Iv True)/\aa ([RS.at_ y.2,(3:Int)]:List Int) (aa [y.1] (aa [RS.at_ y.2,RS.an y.2] (((0:Int)=d)/\aa [y.1] (((RS.at_ y.2)=(RS.at_ q1))/\((3:Int)=(RS.an q1))/\True)))))/\((j=false)->((aG (0:Int) a))/\((aG a (ag c)))/\((aG (0:Int) (1:Int)))/\((aG (1:Int) (ag i)))/\(∃z:Nat,aa [c] (aa [l] (aa [b] (aa [ag b] (((0:Int)=((x8 (List.take z f):Nat):Int))/\((0:Int)=((z:Nat):Int))/\aa [y.1] (aa [RS.at_ y.2,RS.an y.2] ((Iv ((z:Nat)<=k)))))))))/\(∀x:Nat,let e:=aB (oC .u64 ((x8 (List.take x f):Nat):Int) (63:Int)) (1:Int);let g:=aw ((x:Nat):Int) (ag b);(Iv ((x:Nat)<=k))->((g)->((aG (0:Int) ((x:Nat):Int)))/\(g)/\((aG (0:Int) (8:Int)))/\∃z:Nat,aa [c] (aa [l] (aa [b] (aa [ag b] (((FZ .u64 (oO .u64 ((x8 (List.take x f):Nat):Int) (8:Int)) (jP .u64 ((UInt8.toNat (gt (0:UInt8) b (Int.toNat ((x:Nat):Int))):Nat):Int)))=((x8 (List.take z f):Nat):Int))/\((ay .i64 ((x:Nat):Int) (1:Int))=((z:Nat):Int))/\aa [y.1] (aa [RS.at_ y.2,RS.an y.2] ((Iv (((z:Nat)<=k)/\((k:Nat) -z:Nat)<((k:Nat) -x))))))))))/\((g=false)->((p)->((aG (0:Int) (1:Int)))/\((aw (1:Int) (ag c)))/\((o)->(Iv True)/\aa ([RS.at_ y.2,(4:Int)]:List Int) (aa [y.1] (aa [RS.at_ y.2,RS.an y.2] (((0:Int)=d)/\aa [y.1] (((RS.at_ y.2)=(RS.at_ q1))/\((4:Int)=(RS.an q1))/\True)))))/\((o=false)->((aG (0:Int) (63:Int)))/\((aG (0:Int) ((x8 (List.take x f):Nat):Int)))/\((e)->(Iv True)/\aa ([RS.at_ y.2,(4:Int)]:List Int) (aa [y.1] (aa [RS.at_ y.2,RS.an y.2] (((0:Int)=d)/\aa [y.1] (((RS.at_ y.2)=(RS.at_ q1))/\((4:Int)=(RS.an q1))/\True)))))/\((e=false)->((jP .i64 ((x8 (List.take x f):Nat):Int))=d)/\aa [y.1] (((ay .i64 (RS.at_ y.2) a)=(RS.at_ q1))/\((RS.an y.2)=(RS.an q1))/\True))))/\((p=false)->((aG (0:Int) (63:Int)))/\((aG (0:Int) ((x8 (List.take x f):Nat):Int)))/\((e)->(Iv True)/\aa ([RS.at_ y.2,(4:Int)]:List Int) (aa [y.1] (aa [RS.at_ y.2,RS.an y.2] (((0:Int)=d)/\aa [y.1] (((RS.at_ y.2)=(RS.at_ q1))/\((4:Int)=(RS.an q1))/\True)))))/\((e=false)->((jP .i64 ((x8 (List.take x f):Nat):Int))=d)/\aa [y.1] (((ay .i64 (RS.at_ y.2) a)=(RS.at_ q1))/\((RS.an y.2)=(RS.an q1))/\True)))))))))))
def QfL:∀y,Qbh y=Qvc y:=λy=>by kernel_rfl
def Xe (y:Prod (List UInt8) RS):Prop:=let l:=vF y.1 y.2;let q1:=cJ y.1 y.2;let k:=kF y.1 y.2;let a:=db y.1 y.2;let m:=Bool.not (aB (RS.an y.2) (0:Int));let n:=aG (ag y.1) (RS.at_ y.2);let b:=ay .i64 (RS.at_ y.2) (1:Int);let c:=jP .i64 ((UInt8.toNat (gt (0:UInt8) y.1 (Int.toNat (RS.at_ y.2))):Nat):Int);let o:=aw (8:Int) c;let p:=aw (0:Int) c;let d:=aB c (8:Int);let e:=aw (127:Int) ((UInt8.toNat (gt (0:UInt8) y.1 (Int.toNat b)):Nat):Int);let h:=aB ((UInt8.toNat (gt (0:UInt8) y.1 (Int.toNat b)):Nat):Int) (0:Int);let i:=aw (cx .i64 (cx .i64 (ag y.1) (RS.at_ y.2)) (1:Int)) c;((m)->((0:Int)=q1)/\aa [y.1] (((RS.at_ y.2)=(RS.at_ a))/\((RS.an y.2)=(RS.an a))/\True))/\((m=false)->aa [RS.at_ y.2] (aa [y.1] (((n)->((0:Int)=q1)/\aa [y.1] (((RS.at_ y.2)=(RS.at_ a))/\((3:Int)=(RS.an a))/\True))/\((n=false)->((aG (0:Int) (RS.at_ y.2)))/\((aw (RS.at_ y.2) (ag y.1)))/\aa [y.1] (aa [RS.at_ y.2,((UInt8.toNat (gt (0:UInt8) y.1 (Int.toNat (RS.at_ y.2))):Nat):Int)] (((o)->((0:Int)=q1)/\aa [y.1] (((RS.at_ y.2)=(RS.at_ a))/\((4:Int)=(RS.an a))/\True))/\((o=false)->aa [y.1] (aa [RS.at_ y.2] (((i)->((0:Int)=q1)/\aa [y.1] (((RS.at_ y.2)=(RS.at_ a))/\((3:Int)=(RS.an a))/\True))/\((i=false)->(((p)->((aG (0:Int) b))/\((aw b (ag y.1)))/\((h)->aa [y.1] (aa [RS.at_ y.2,((UInt8.toNat (gt (0:UInt8) y.1 (Int.toNat b)):Nat):Int)] (((0:Int)=q1)/\aa [y.1] (((RS.at_ y.2)=(RS.at_ a))/\((4:Int)=(RS.an a))/\True))))/\((h=false)->((d)->((aG (0:Int) b))/\((aw b (ag y.1)))/\aa [y.1] (aa [RS.at_ y.2,((UInt8.toNat (gt (0:UInt8) y.1 (Int.toNat b)):Nat):Int)] (aa [y.1] (aa [RS.at_ y.2,((UInt8.toNat (gt (0:UInt8) y.1 (Int.toNat b)):Nat):Int)] (((e)->((0:Int)=q1)/\aa [y.1] (((RS.at_ y.2)=(RS.at_ a))/\((4:Int)=(RS.an a))/\True))/\((e=false)->∃z:Unit,aa [c] (aa [y.1] (aa [RS.at_ y.2,RS.an y.2] ((Iv (R3 y.1 y.2)))))))))))/\((d=false)->aa [y.1] (aa [RS.at_ y.2,((UInt8.toNat (gt (0:UInt8) y.1 (Int.toNat b)):Nat):Int)] (∃z:Unit,aa [c] (aa [y.1] (aa [RS.at_ y.2,RS.an y.2] ((Iv (R3 y.1 y.2))))))))))/\((p=false)->((d)->((aG (0:Int) b))/\((aw b (ag y.1)))/\aa [y.1] (aa [RS.at_ y.2,((UInt8.toNat (gt (0:UInt8) y.1 (Int.toNat b)):Nat):Int)] (((e)->((0:Int)=q1)/\aa [y.1] (((RS.at_ y.2)=(RS.at_ a))/\((4:Int)=(RS.an a))/\True))/\((e=false)->∃z:Unit,aa [c] (aa [y.1] (aa [RS.at_ y.2,RS.an y.2] ((Iv (R3 y.1 y.2)))))))))/\((d=false)->∃z:Unit,aa [c] (aa [y.1] (aa [RS.at_ y.2,RS.an y.2] ((Iv (R3 y.1 y.2))))))))/\(∀x:Unit,(Iv (R3 y.1 y.2))->(∃z:Nat,aa [c] (((0:Int)=((x8 (List.take z l):Nat):Int))/\((0:Int)=((z:Nat):Int))/\aa [y.1] (aa [RS.at_ y.2,RS.an y.2] ((Iv ((z:Nat)<=k))))))/\(∀g:Nat,let f:=ay .i64 b ((g:Nat):Int);let j:=aw ((g:Nat):Int) c;(Iv ((g:Nat)<=k))->((j)->((aG (0:Int) (8:Int)))/\((aG (0:Int) f))/\((aw f (ag y.1)))/\aa [y.1] (aa [RS.at_ y.2,((UInt8.toNat (gt (0:UInt8) y.1 (Int.toNat f)):Nat):Int)] (∃z:Nat,aa [c] (((FZ .i64 (oO .i64 ((x8 (List.take g l):Nat):Int) (8:Int)) (jP .i64 ((UInt8.toNat (gt (0:UInt8) y.1 (Int.toNat f)):Nat):Int)))=((x8 (List.take z l):Nat):Int))/\((ay .i64 ((g:Nat):Int) (1:Int))=((z:Nat):Int))/\aa [y.1] (aa [RS.at_ y.2,RS.an y.2] ((Iv (((z:Nat)<=k)/\((k:Nat) -z:Nat)<((k:Nat) -g)))))))))/\((j=false)->(((x8 (List.take g l):Nat):Int)=q1)/\aa [y.1] (((ay .i64 b c)=(RS.at_ a))/\((RS.an y.2)=(RS.an a))/\True))))))))))))))
def Qem:∀y,Xe y=QnF y:=λy=>by kernel_rfl
theorem QfN (l:By) (x:UInt8):x8 (l++[x])=x8 l*256+x.toNat:=by grind [x8]
theorem R4 (h:i<l.length):x8 (l.take (i+1))=x8 (l.take i)*256+(l[i]).toNat:=by
 grind [List.take_append_getElem,QfN]
theorem QfU (l:By):∀u:Nat,l.foldl (λu x=>u*256+x.toNat) u=u*256 ^ l.length+x8 l:=by
 induction l with
 | nil=>intro u;simp[x8]
 | cons x l a=>
  grind [x8]
theorem QaW (x:UInt8) (l:By):x8 (x::l)=x.toNat*256 ^ l.length+x8 l:=by
 grind [QfU,x8]
theorem R5 (l:By):x8 l<256 ^ l.length:=by
 induction l with
 | nil=>simp[x8]
 | cons x l b=>
  rw[QaW,Zae];have h1:=x.toNat_lt;have a:x.toNat*256 ^ l.length<=255*256 ^ l.length:=Zbc _ ω;omega
theorem Qw6 {u x:Nat} (hu:u<72057594037927936) (c:x<256):FZ .u64 (oO .u64 (u:Int) (8:Int)) (x:Int)=((u*256+x:Nat):Int):=by
 have e:oO .u64 ↑u (8:Int)=((u*256:Nat):Int):=by
  show IntKind.wrap .u64 ((u:Int)*2 ^ 8)=_
  grind [dG,RG]
 rw[e];have t:Nat.lor (u*256) x=u*256+x:=by
  have:=Nat.two_pow_add_eq_or_of_lt (i:=8) (b:=x) c u;rw[show(2:Nat) ^ 8*u=u*256 by omega] at this;simp_all
 show IntKind.wrap .u64 (Int.ofNat (Nat.lor (Dk .u64 (Int.ofNat (u*256))) (Dk .u64 (Int.ofNat x))))=_
 have d:∀n:Nat,n<18446744073709551616->Dk .u64 (Int.ofNat n)=n:=λn a=>Zdr a
 grind [dG,RG]
theorem Qvd {u x:Nat} (hu:u<36028797018963968) (c:x<256):FZ .i64 (oO .i64 (u:Int) (8:Int)) (x:Int)=((u*256+x:Nat):Int):=by
 have e:oO .i64 ↑u (8:Int)=((u*256:Nat):Int):=by
  show IntKind.wrap .i64 ((u:Int)*2 ^ 8)=_
  grind [dG,sq]
 rw[e];have t:Nat.lor (u*256) x=u*256+x:=by
  have:=Nat.two_pow_add_eq_or_of_lt (i:=8) (b:=x) c u;rw[show(2:Nat) ^ 8*u=u*256 by omega] at this;simp_all
 show IntKind.wrap .i64 (Int.ofNat (Nat.lor (Dk .i64 (Int.ofNat (u*256))) (Dk .i64 (Int.ofNat x))))=_
 have d:∀n:Nat,n<18446744073709551616->Dk .i64 (Int.ofNat n)=n:=λn a=>Zdr a
 grind [dG,sq]
theorem QcH {n:Int} (h1: -9223372036854775808<=n) (a:n<=9223372036854775807):jP .i64 n=n:=dG (sq.2 ⟨h1,a⟩)
theorem QfX (h:s.an≠0):G0 l s=(0,s):=by grind [G0]
theorem QmM (h:s.an=0) (a:(l.length:Int)<=s.at_):G0 l s=(0,⟨s.at_,3⟩):=by grind [G0]
theorem QmN (h:s.an=0) (a:s.at_<l.length) (b:8<kF l s):G0 l s=(0,⟨s.at_,4⟩):=by grind [G0]
theorem QmO (h:s.an=0) (a:s.at_<l.length) (b:¬8<kF l s) (c:(l.length:Int)<s.at_+1+kF l s):G0 l s=(0,⟨s.at_,3⟩):=by grind [G0]
theorem QmP (h:s.an=0) (a:s.at_<l.length) (b:¬8<kF l s) (c:¬(l.length:Int)<s.at_+1+kF l s) (d:KI l s):G0 l s=(0,⟨s.at_,4⟩):=by grind [G0]
theorem QmQ (h:s.an=0) (a:s.at_<l.length) (b:¬8<kF l s) (c:¬(l.length:Int)<s.at_+1+kF l s) (d:¬KI l s):G0 l s=((x8 (vF l s):Int),⟨s.at_+1+kF l s,0⟩):=by
 grind [G0]
theorem Qve (y:By) (a:Po.pre y):Qbg y:=by
 have h:y.length<=1073741824:=a;grind [Qbg,br]
theorem QnJ (y:By) (a:G9.pre y):Xc y:=by
 have h:y.length<=1073741824:=a;grind [Xc,br]
theorem QnK (y:(By×RS)×RS) (_:ss.pre y):Xd y:=by
 unfold Xd;simp_all
def Qf0:Ok Po:=nM (tab:=[]) (fn:=f41) (fI:=QmK) (by simp) (by kernel_rfl) (by kernel_rfl) (λ_=>ZcY (by kernel_rfl)) λy a=>Eq.mp (QfF y) (Qve y a)
def QcX:Ok G9:=nM (tab:=[]) (fn:=f48) (fI:=Qfn) (by simp) (by kernel_rfl) (by kernel_rfl) (λ_=>ZcY (by kernel_rfl)) λy a=>Eq.mp (Qeg y) (QnJ y a)
theorem Cn:Ok ss:=nM (tab:=[]) (fn:=f92) (fI:=Qfs) (by simp) (by kernel_rfl) (by kernel_rfl) (λ_=>ZcY (by kernel_rfl)) λy a=>Eq.mp (Qei y) (QnK y a)
theorem Qf4 (h0:0<=s.at_) (a:¬(l.length:Int)<s.at_+1+kF l s):(vF l s).length=kF l s:=by
 unfold vF Qcw;grind
theorem QmR (hi:i<kF l s):gt (0:UInt8) (vF l s) i=l.getD (s.at_.toNat+1+i) 0:=by
 unfold gt vF Qcw;grind
def R6 (h:i<l.length):gt (0:UInt8) l i=l[i]:=oX h
theorem Qvf (y:By×RS) (F:ou.pre y):Qbh y:=by
 have⟨l,s⟩:=y;have i:0<=s.at_/\s.at_<=l.length/\l.length<=1073741824:=F;unfold Qbh;have hk:jP IntKind.i64 ((UInt8.toNat (gt (0:UInt8) (wD l s.at_) 0):Nat):Int)=(kF l s:Int):=by
  have e:gt (0:UInt8) (wD l s.at_) 0=l.getD s.at_.toNat 0:=by unfold gt wD;simp
  rw[e,QcH ω (by have:=(l.getD s.at_.toNat 0).toNat_lt;omega)];rfl
 have hl:ag (wD l s.at_)=↑l.length-s.at_:=by grind [ag,wD]
 have z:kF l s<256:=(l.getD s.at_.toNat 0).toNat_lt;have A:ay IntKind.i64 (1:Int) (kF l s:Int)=1+(kF l s:Int):=ba ω ω;have j:gt (0:UInt8) (wD l s.at_) 1=l.getD (s.at_.toNat+1) 0:=by unfold gt wD;simp
 have B:wD (dE (wD l s.at_) (1+(kF l s:Int))) 1=vF l s:=by
  unfold wD dE vF Qcw;grind [List.drop_take]
 have n:∀u:Nat,oC IntKind.u64 ↑u 63=((u / 9223372036854775808:Nat):Int):=λu=>rfl
 simp only[bL,dw,hk,hl,A,j,B,n,Zai,Zan,Zao];refine⟨λh=>?_,λh=>⟨i.1,i.2.1,λt=>?_,λt=>⟨ω,ω,λv=>?_,λv=>⟨λp=>?_,λp=>?_⟩⟩⟩⟩
 ·grind [QfX,cJ,db]
 ·unfold cJ db;rw[(QmM (l:=l) h ω)];exact⟨⟨trivial⟩,rfl,rfl,rfl⟩
 ·unfold cJ db;rw[(QmN (l:=l) h ω ω)];exact⟨⟨trivial⟩,rfl,rfl,rfl⟩
 ·unfold cJ db;rw[(QmO (l:=l) h ω ω ω)];exact⟨⟨trivial⟩,rfl,rfl,rfl⟩
 ·have k:¬↑l.length<s.at_+1+kF l s:=ω;have b:=Qf4 i.1 k;have C:ag (vF l s)=kF l s:=by rw[au,b]
  have m:=R5 (vF l s);rw[b] at m;refine⟨ω,p,ω,?_,⟨0,rfl,rfl,⟨Zaj _⟩⟩,λx D=>⟨λq=>⟨ω,q,ω,x+1,?_,?_,ω,ω⟩,λq=>?_⟩⟩
  ·grind [ag,dE]
  ·have c:x<(vF l s).length:=ω;rw[R4 c,show((x:Int)).toNat=x from rfl,R6 c,Nl ω (by have:=((vF l s)[x]).toNat_lt;omega)];refine Qw6 ?_ ((vF l s)[x]).toNat_lt;have d:=R5 ((vF l s).take x);rw[Zar,Zbj ω] at d;have f:256 ^ x<=256 ^ 7:=Nat.pow_le_pow_right ω ω;omega
  ·grind
  ·have E:x=kF l s:=by have:=D.out;omega
   have o:(vF l s).take x=vF l s:=ZaA ω;rw[o];have r:x8 (vF l s)<18446744073709551616:=by
    have f:256 ^ (kF l s)<=256 ^ 8:=Nat.pow_le_pow_right ω ω;omega
   have a:¬KI l s->jP IntKind.i64 (x8 (vF l s):Int)=cJ l s/\ay IntKind.i64 s.at_ (1+(kF l s:Int))=(db l s).at_/\s.an=(db l s).an:=λw=>by
    grind [QmQ,KI,cJ,db,QcH]
   have bad:KI l s->Iv True/\0=cJ l s/\s.at_=(db l s).at_/\4=(db l s).an:=λw=>by
    grind [QmP,cJ,db]
   refine⟨λd=>⟨ω,ω,λf=>bad (.inl ⟨ω,ω⟩),λf=>⟨ω,ω,λg=>bad (.inr ω),λg=>a ?_⟩⟩,λd=>⟨ω,ω,λg=>bad (.inr ω),λg=>a ?_⟩⟩
   ·unfold KI;omega
   ·unfold KI;omega
theorem zA:Ok ou:=nM (tab:=[ss]) (fn:=f43) (fI:=QmL) (by grind [Cn]) (by kernel_rfl) (by kernel_rfl) (λ_=>ZcY (by kernel_rfl)) λy a=>Eq.mp (QfL y) (Qvf y a)
theorem QnM (y:By×RS) (I:mM.pre y):Xe y:=by
 have⟨l,s⟩:=y;have u:0<=s.at_/\s.at_<=l.length/\l.length<=1073741824:=I;unfold Xe;have hk:jP IntKind.i64 ((UInt8.toNat (gt (0:UInt8) l s.at_.toNat):Nat):Int)=(kF l s:Int):=by
  rw[QcH ω (by have:=(gt (0:UInt8) l s.at_.toNat).toNat_lt;omega)];rfl
 have D:kF l s<256:=(l.getD s.at_.toNat 0).toNat_lt;have F:ay IntKind.i64 s.at_ (1:Int)=s.at_+1:=ba ω ω;have n:gt (0:UInt8) l (s.at_+1).toNat=l.getD (s.at_.toNat+1) 0:=by unfold gt;congr 1;omega
 have hs:cx IntKind.i64 (cx IntKind.i64 ↑l.length s.at_) 1=↑l.length-s.at_-1:=by grind
 have p:ay IntKind.i64 (s.at_+1) (kF l s:Int)=s.at_+1+(kF l s:Int):=ba ω ω;have q:∀x:Nat,x<=8->ay IntKind.i64 (s.at_+1) ↑x=s.at_+1+↑x:=λx v=>ba ω ω
 simp only[bL,dw,au,hk,F,p,n,hs,Zai,Zan,Zao];refine⟨λh=>?_,λh=>⟨λr=>?_,λr=>⟨u.1,r,λA=>?_,λA=>⟨λB=>?_,λB=>?_⟩⟩⟩⟩
 ·grind [QfX,cJ,db]
 ·grind [QmM,cJ,db]
 ·grind [QmN,cJ,db]
 ·grind [QmO,cJ,db]
 ·have g:¬↑l.length<s.at_+1+kF l s:=ω;have a:=Qf4 u.1 g;have o:=R5 (vF l s);rw[a] at o;have bad:KI l s->0=cJ l s/\s.at_=(db l s).at_/\4=(db l s).an:=λJ=>by
   grind [QmP,cJ,db]
  have small:kF l s≠8->x8 (vF l s)<9223372036854775808:=λc=>by
   have j:256 ^ (kF l s)<=256 ^ 7:=Nat.pow_le_pow_right ω ω;omega
  have bU:kF l s=8->(9223372036854775808<=x8 (vF l s)↔127<(List.getD l (s.at_.toNat+1) 0).toNat):=λc=>by
   have w:=QmR (l:=l) (s:=s) (i:=0) ω;rw[<-w];cases G:vF l s with
   | nil=>rw[G] at a;simp at a;omega
   | cons x m=>
    have E:m.length=7:=by grind
    have z:=QaW x m;have e2:=R5 m;rw[E] at z e2;show _↔127<x.toNat
    omega
  refine⟨⟨λc=>⟨ω,ω,λd=>bad (.inl ⟨ω,ω⟩),λd=>⟨λj=>⟨ω,ω,λt=>bad (.inr ((bU ω).2 ω)),λt=>⟨(),⟨?_⟩⟩⟩,λj=>⟨(),⟨?_⟩⟩⟩⟩,
   λc=>⟨λd=>ω,λd=>⟨(),⟨?_⟩⟩⟩⟩,λ_ k=>⟨⟨0,rfl,rfl,⟨Zaj _⟩⟩,λx v=>⟨λc=>?_,λc=>?_⟩⟩⟩
  ·rintro(⟨_,f⟩ | f)
   ·omega
   ·omega
  ·rintro(⟨_,f⟩ | f)<;>omega
  ·rintro(⟨_,f⟩ | f)<;>omega
  ·have k:=k.out;have C:x8 (vF l s)<9223372036854775808:=by grind [R3,KI]
   have b:x<(vF l s).length:=ω;rw[q x ω];refine⟨ω,ω,ω,x+1,?_,?_,ω,ω⟩
   ·have e:gt (0:UInt8) l (s.at_+1+↑x).toNat=(vF l s)[x]:=by
     rw[<-R6 b,QmR ω];congr 1;omega
    rw[e,R4 b,QcH ω (by have:=((vF l s)[x]).toNat_lt;omega)];refine Qvd ?_ ((vF l s)[x]).toNat_lt;have d:=R5 ((vF l s).take x);rw[Zar,Zbj ω] at d;by_cases j:x=7
    ·have t:=R4 b;grind
    ·have j:256 ^ x<=256 ^ 6:=Nat.pow_le_pow_right ω ω;omega
   ·grind
  ·have H:x=kF l s:=by have:=v.out;omega
   have e:=QmQ (l:=l) h ω ω g k.out;grind [cJ,db]
theorem uF:Ok mM:=nM (tab:=[]) (fn:=f50) (fI:=QfD) (by simp) (by kernel_rfl) (by kernel_rfl) (λ_=>ZcY (by kernel_rfl)) λy a=>Eq.mp (Qem y) (QnM y a)
def T6 (l:By) (s:RS):Bool×RS:=if (db l s).an=0/\1<cJ l s then(false,⟨s.at_,4⟩) else(decide ((db l s).an=0/\cJ l s=1),db l s)
def kP (l:By) (s:RS):Bool:=(T6 l s).1
def gS (l:By) (s:RS):RS:=(T6 l s).2
def T7 (l:By) (s:RS) (m:Int):Int×RS:=if (db l s).an=0/\m<cJ l s then(0,⟨s.at_,2⟩) else(cJ l s,db l s)
def fV (l:By) (s:RS) (m:Int):Int:=(T7 l s m).1
def eB (l:By) (s:RS) (m:Int):RS:=(T7 l s m).2
def R7 (l:By) (s:RS) (m:Int):By×RS:=
 if (eB l s m).an≠0 then([],eB l s m)
 else if (l.length:Int) -(eB l s m).at_<fV l s m then([],⟨s.at_,3⟩)
 else(wD (dE l ((eB l s m).at_+fV l s m)) (eB l s m).at_,⟨(eB l s m).at_+fV l s m,0⟩)
def kR (l:By) (s:RS) (m:Int):By:=(R7 l s m).1
def u0 (l:By) (s:RS) (m:Int):RS:=(R7 l s m).2
def uE:bh D:={ ou with f:=42,res:=λy=>.bool (kP y.1 y.2),dy:=λy=>RT y.1 (gS y.1 y.2) }
def Qf5 (_:uE.Y):cH D:=dY ()
def QnN (y:uE.Y):Prop:=lI [ou,ss] f42 uE Qf5 y
def tB:bh D:={ mM with f:=49,res:=λy=>.bool (kP y.1 y.2),dy:=λy=>zc y.1 (gS y.1 y.2) }
def QcZ (_:tB.Y):cH D:=dY ()
def QhA (y:tB.Y):Prop:=lI [mM] f49 tB QcZ y
def s5:bh D where
 f:=45
 Y:=(By×RS)×Int
 oM:=λargs s=>match args with
  | [p,m]=>az (asR p s) λy=>aP (cT m) λ_ m=>.ret (y,m)
  | _=>.fail
 pre:=λy=>bw y.1
 args:=λy=>[.ptr 0 0,.int .i64 y.2]
 heap:=λy=>RT y.1.1 y.1.2
 res:=λy=>.int .i64 (fV y.1.1 y.1.2 y.2)
 dy:=λy=>RT y.1.1 (eB y.1.1 y.1.2 y.2)
 jY:=1
 oS:=1
def Qf6 (_:s5.Y):cH D:=dY ()
def QnO (y:s5.Y):Prop:=lI [ou,ss] f45 s5 Qf6 y
def tx:bh D:={ s5 with f:=51,heap:=λy=>zc y.1.1 y.1.2,dy:=λy=>zc y.1.1 (eB y.1.1 y.1.2 y.2) }
def Qc6 (_:tx.Y):cH D:=dY ()
def QhB (y:tx.Y):Prop:=lI [mM] f51 tx Qc6 y
def G':bh D:={ s5 with f:=149,res:=λy=>.str (kR y.1.1 y.1.2 y.2),dy:=λy=>RT y.1.1 (u0 y.1.1 y.1.2 y.2) }
def Qf7 (_:G'.Y):cH D:=dY ()
def QnP (y:G'.Y):Prop:=lI [s5,ss] f149 G' Qf7 y
def xN:bh D:={ tx with f:=152,res:=λy=>.str (kR y.1.1 y.1.2 y.2),dy:=λy=>zc y.1.1 (u0 y.1.1 y.1.2 y.2) }
def Qc7 (_:xN.Y):cH D:=dY ()
def QhC (y:xN.Y):Prop:=lI [tx] f152 xN Qc7 y
def R8:bh D:={ ou with f:=44,pre:=λ_=>True,res:=λy=>Qvo y.2.an,dy:=λy=>RT y.1 y.2 }
def QmS (_:R8.Y):cH D:=dY ()
def Qvi (y:R8.Y):Prop:=lI [] f44 R8 QmS y
def Xi (y:Prod (List UInt8) RS):Prop:=let b:=kP y.1 y.2;let q1:=gS y.1 y.2;let d:=cJ y.1 y.2;let a:=db y.1 y.2;let e:=aw (1:Int) d;let c:=aB (RS.an a) (0:Int);(Iv (bw (y.1,y.2)))/\aa [y.1] (aa [RS.at_ y.2,RS.an y.2] (((c)->((e)->(Iv True)/\aa ([RS.at_ y.2,(4:Int)]:List Int) (aa [y.1] (aa [RS.at_ a,RS.an a] ((((aB (4:Int) (0:Int)))->((aB d (1:Int))=b)/\aa [y.1] (((RS.at_ y.2)=(RS.at_ q1))/\((4:Int)=(RS.an q1))/\True))/\(((aB (4:Int) (0:Int))=false)->(false=b)/\aa [y.1] (((RS.at_ y.2)=(RS.at_ q1))/\((4:Int)=(RS.an q1))/\True))))))/\((e=false)->((c)->((aB d (1:Int))=b)/\aa [y.1] (((RS.at_ a)=(RS.at_ q1))/\((RS.an a)=(RS.an q1))/\True))/\((c=false)->(false=b)/\aa [y.1] (((RS.at_ a)=(RS.at_ q1))/\((RS.an a)=(RS.an q1))/\True))))/\((c=false)->((c)->((aB d (1:Int))=b)/\aa [y.1] (((RS.at_ a)=(RS.at_ q1))/\((RS.an a)=(RS.an q1))/\True))/\((c=false)->(false=b)/\aa [y.1] (((RS.at_ a)=(RS.at_ q1))/\((RS.an a)=(RS.an q1))/\True)))))
def Qeo:∀y,Xi y=QnN y:=λy=>by kernel_rfl
def R9 (y:Prod (List UInt8) RS):Prop:=let b:=kP y.1 y.2;let q1:=gS y.1 y.2;let a:=db y.1 y.2;let c:=cJ y.1 y.2;let d:=aw (1:Int) c;let e:=aB (RS.an a) (0:Int);(Iv (bw (y.1,y.2)))/\aa [y.1] (aa [RS.at_ y.2,RS.an y.2] (((e)->((d)->(false=b)/\aa [y.1] (((RS.at_ y.2)=(RS.at_ q1))/\((4:Int)=(RS.an q1))/\True))/\((d=false)->((aB c (1:Int))=b)/\aa [y.1] (((RS.at_ a)=(RS.at_ q1))/\((RS.an a)=(RS.an q1))/\True)))/\((e=false)->((aB c (1:Int))=b)/\aa [y.1] (((RS.at_ a)=(RS.at_ q1))/\((RS.an a)=(RS.an q1))/\True))))
def QbG:∀y,R9 y=QhA y:=λy=>by kernel_rfl
def Xj (y:Prod (Prod (List UInt8) RS) Int):Prop:=let b:=cJ y.1.1 y.1.2;let q1:=db y.1.1 y.1.2;let c:=fV y.1.1 y.1.2 y.2;let a:=eB y.1.1 y.1.2 y.2;let d:=aw y.2 b;let e:=aB (RS.an q1) (0:Int);(Iv (bw (y.1.1,y.1.2)))/\aa [y.1.1] (aa [RS.at_ y.1.2,RS.an y.1.2] (((e)->((d)->(Iv True)/\aa ([RS.at_ y.1.2,(2:Int)]:List Int) (aa [y.1.1] (aa [RS.at_ q1,RS.an q1] (((0:Int)=c)/\aa [y.1.1] (((RS.at_ y.1.2)=(RS.at_ a))/\((2:Int)=(RS.an a))/\True)))))/\((d=false)->(b=c)/\aa [y.1.1] (((RS.at_ q1)=(RS.at_ a))/\((RS.an q1)=(RS.an a))/\True)))/\((e=false)->(b=c)/\aa [y.1.1] (((RS.at_ q1)=(RS.at_ a))/\((RS.an q1)=(RS.an a))/\True))))
def Qep:∀y,Xj y=QnO y:=λy=>by kernel_rfl
def R' (y:Prod (Prod (List UInt8) RS) Int):Prop:=let b:=cJ y.1.1 y.1.2;let q1:=db y.1.1 y.1.2;let c:=fV y.1.1 y.1.2 y.2;let a:=eB y.1.1 y.1.2 y.2;let d:=aw y.2 b;let e:=aB (RS.an q1) (0:Int);(Iv (bw (y.1.1,y.1.2)))/\aa [y.1.1] (aa [RS.at_ y.1.2,RS.an y.1.2] (((e)->((d)->((0:Int)=c)/\aa [y.1.1] (((RS.at_ y.1.2)=(RS.at_ a))/\((2:Int)=(RS.an a))/\True))/\((d=false)->(b=c)/\aa [y.1.1] (((RS.at_ q1)=(RS.at_ a))/\((RS.an q1)=(RS.an a))/\True)))/\((e=false)->(b=c)/\aa [y.1.1] (((RS.at_ q1)=(RS.at_ a))/\((RS.an q1)=(RS.an a))/\True))))
def QbR:∀y,R' y=QhB y:=λy=>by kernel_rfl
def XF (y:Prod (Prod (List UInt8) RS) Int):Prop:=let d:=ag y.1.1;let q1:=kR y.1.1 y.1.2 y.2;let e:=fV y.1.1 y.1.2 y.2;let a:=eB y.1.1 y.1.2 y.2;let b:=u0 y.1.1 y.1.2 y.2;let f:=Bool.not (aB (RS.an a) (0:Int));let c:=ay .i64 (RS.at_ a) e;let g:=dE y.1.1 c;let h:=aw (cx .i64 d (RS.at_ a)) e;let i:=wD g (RS.at_ a);(Iv (bw (y.1.1,y.1.2)))/\aa [y.2] (aa [y.1.1] (aa [RS.at_ y.1.2,RS.an y.1.2] (((f)->(([]:List UInt8)=q1)/\aa [y.1.1] (((RS.at_ a)=(RS.at_ b))/\((RS.an a)=(RS.an b))/\True))/\((f=false)->aa [y.1.1] (aa [RS.at_ a] (((h)->(Iv True)/\aa ([RS.at_ y.1.2,(3:Int)]:List Int) (aa [y.1.1] (aa [RS.at_ a,RS.an a] ((([]:List UInt8)=q1)/\aa [y.1.1] (((RS.at_ y.1.2)=(RS.at_ b))/\((3:Int)=(RS.an b))/\True)))))/\((h=false)->((aG (0:Int) c))/\((aG c d))/\((aG (0:Int) (RS.at_ a)))/\((aG (RS.at_ a) (ag g)))/\aa [y.1.1] (aa [RS.at_ a,RS.at_ a] (aa [i] ((i=q1)/\aa [y.1.1] ((c=(RS.at_ b))/\((RS.an a)=(RS.an b))/\True)))))))))))
def Qeq:∀y,XF y=QnP y:=λy=>by kernel_rfl
def R_ (y:Prod (Prod (List UInt8) RS) Int):Prop:=let f:=ag y.1.1;let q1:=kR y.1.1 y.1.2 y.2;let b:=u0 y.1.1 y.1.2 y.2;let a:=eB y.1.1 y.1.2 y.2;let i:=fV y.1.1 y.1.2 y.2;let g:=aB (RS.an a) (0:Int);let e:=Bool.not g;let d:=ay .i64 (RS.at_ a) i;let h:=dE y.1.1 d;let j:=aw (cx .i64 f (RS.at_ a)) i;let c:=wD h (RS.at_ a);(Iv (bw (y.1.1,y.1.2)))/\aa [y.2] (aa [y.1.1] (aa [RS.at_ y.1.2,RS.an y.1.2] (((g)->aa [RS.an a] (aa [y.1.1] (aa [RS.at_ a] (((j)->(([]:List UInt8)=q1)/\aa [y.1.1] (((RS.at_ y.1.2)=(RS.at_ b))/\((3:Int)=(RS.an b))/\True))/\((j=false)->((e)->(([]:List UInt8)=q1)/\aa [y.1.1] (((RS.at_ a)=(RS.at_ b))/\((RS.an a)=(RS.an b))/\True))/\((e=false)->((aG (0:Int) d))/\((aG d f))/\((aG (0:Int) (RS.at_ a)))/\((aG (RS.at_ a) (ag h)))/\aa [y.1.1] (aa [RS.at_ a,RS.at_ a] (aa [c] ((c=q1)/\aa [y.1.1] ((d=(RS.at_ b))/\((RS.an a)=(RS.an b))/\True))))))))))/\((g=false)->aa [RS.an a] (((e)->(([]:List UInt8)=q1)/\aa [y.1.1] (((RS.at_ a)=(RS.at_ b))/\((RS.an a)=(RS.an b))/\True))/\((e=false)->((aG (0:Int) d))/\((aG d f))/\((aG (0:Int) (RS.at_ a)))/\((aG (RS.at_ a) (ag h)))/\aa [y.1.1] (aa [RS.at_ a,RS.at_ a] (aa [c] ((c=q1)/\aa [y.1.1] ((d=(RS.at_ b))/\((RS.an a)=(RS.an b))/\True))))))))))
def QbT:∀y,R_ y=QhC y:=λy=>by kernel_rfl
def QbU (y:Prod (List UInt8) RS):Prop:=aa [RS.an y.2] (aa [y.1] (aa [RS.at_ y.2,RS.an y.2] (True)))
def Qf8:∀y,QbU y=Qvi y:=λy=>by kernel_rfl
theorem jr (h:bw (l,s)):bw (l,db l s)/\0<=cJ l s/\cJ l s<=9223372036854775807/\((db l s).an≠0->cJ l s=0):=by
 obtain⟨h1,a,b⟩:0<=s.at_/\s.at_<=l.length/\l.length<=1073741824:=h;unfold db cJ bw G0;grind [KI]
theorem pP {m:Int} (h:bw (l,s)):bw (l,eB l s m)/\0<=fV l s m/\fV l s m<=9223372036854775807/\((eB l s m).an≠0->fV l s m=0)/\(fV l s m<=max m 0):=by
 have⟨h1,a,b,c⟩:=jr h;unfold eB fV T7;split
 ·exact⟨h,by simp,by simp,λ_=>rfl,ω⟩
 ·grind
theorem QnR (y:By×RS) (b:uE.pre y):Xi y:=by
 have a:=b;unfold Xi;simp only[dA,hU];refine⟨⟨a⟩,?_⟩
 repeat' first
  | exact⟨trivial⟩
  | exact And.intro rfl rfl
  | (intro _)
  | (refine And.intro ?_ ?_)
 all_goals grind [kP,gS,T6,aB]
theorem RY:Ok uE:=nM (tab:=[ou,ss]) (fn:=f42) (fI:=Qf5) (by grind [zA,Cn]) (by kernel_rfl) (by kernel_rfl) (λ_=>ZcY (by kernel_rfl)) λy a=>Eq.mp (Qeo y) (QnR y a)
theorem QhD (y:By×RS) (b:tB.pre y):R9 y:=by
 have a:=b;have⟨h1,c,d,e⟩:=jr a;unfold R9;simp only[dA,hU];refine⟨⟨a⟩,?_⟩
 repeat' first
  | exact⟨trivial⟩
  | exact And.intro rfl rfl
  | (intro _)
  | (refine And.intro ?_ ?_)
 all_goals grind [kP,gS,T6,aB]
theorem Mh:Ok tB:=nM (tab:=[mM]) (fn:=f49) (fI:=QcZ) (by grind [uF]) (by kernel_rfl) (by kernel_rfl) (λ_=>ZcY (by kernel_rfl)) λy a=>Eq.mp (QbG y) (QhD y a)
theorem QnS (y:(By×RS)×Int) (a:s5.pre y):Xj y:=by
 unfold Xj;simp only[bL];refine⟨⟨a⟩,?_⟩
 repeat' first
  | exact⟨trivial⟩
  | (intro _)
  | (refine And.intro ?_ ?_)
 all_goals grind [fV,eB,T7]
theorem Mi:Ok s5:=nM (tab:=[ou,ss]) (fn:=f45) (fI:=Qf6) (by grind [zA,Cn]) (by kernel_rfl) (by kernel_rfl) (λ_=>ZcY (by kernel_rfl)) λy a=>Eq.mp (Qep y) (QnS y a)
theorem QhE (y:(By×RS)×Int) (a:tx.pre y):R' y:=by
 unfold R';simp only[bL];refine⟨⟨a⟩,?_⟩
 repeat' first
  | exact⟨trivial⟩
  | (intro _)
  | (refine And.intro ?_ ?_)
 all_goals grind [fV,eB,T7]
theorem Ml:Ok tx:=nM (tab:=[mM]) (fn:=f51) (fI:=Qc6) (by grind [uF]) (by kernel_rfl) (by kernel_rfl) (λ_=>ZcY (by kernel_rfl)) λy a=>Eq.mp (QbR y) (QhE y a)
theorem QnT (y:(By×RS)×Int) (b:G'.pre y):XF y:=by
 have⟨⟨l,s⟩,m⟩:=y;have a:=b;have⟨⟨g1,g2,g3⟩,c,d,e,_⟩:=pP (m:=m) a;simp only at g1 g2 g3;unfold XF;have hs:cx IntKind.i64 ↑l.length (eB l s m).at_=↑l.length-(eB l s m).at_:=jQ ω ω;simp only[bL,dw,Zai,au,hs,Zan,Zao];have f:fV l s m<=↑l.length-(eB l s m).at_->ay IntKind.i64 (eB l s m).at_ (fV l s m)=(eB l s m).at_+fV l s m:=λ_=>ba ω ω
 have ht:fV l s m<=↑l.length-(eB l s m).at_->((dE l ((eB l s m).at_+fV l s m)).length:Int)=(eB l s m).at_+fV l s m:=λ_=>by grind [dE]
 refine⟨⟨a⟩,?_⟩
 repeat' first
  | exact⟨trivial⟩
  | (intro _)
  | (refine And.intro ?_ ?_)
 all_goals grind [kR,u0,R7]
theorem QhF:Ok G':=nM (tab:=[s5,ss]) (fn:=f149) (fI:=Qf7) (by grind [Mi,Cn]) (by kernel_rfl) (by kernel_rfl) (λ_=>ZcY (by kernel_rfl)) λy a=>Eq.mp (Qeq y) (QnT y a)
theorem QhG (y:(By×RS)×Int) (b:xN.pre y):R_ y:=by
 have⟨⟨l,s⟩,m⟩:=y;have a:=b;have⟨⟨g1,g2,g3⟩,c,d,e,_⟩:=pP (m:=m) a;simp only at g1 g2 g3;unfold R_;have hs:cx IntKind.i64 ↑l.length (eB l s m).at_=↑l.length-(eB l s m).at_:=jQ ω ω;simp only[bL,dw,Zai,au,hs,Zan,Zao];have f:fV l s m<=↑l.length-(eB l s m).at_->ay IntKind.i64 (eB l s m).at_ (fV l s m)=(eB l s m).at_+fV l s m:=λ_=>ba ω ω
 have ht:fV l s m<=↑l.length-(eB l s m).at_->((dE l ((eB l s m).at_+fV l s m)).length:Int)=(eB l s m).at_+fV l s m:=λ_=>by grind [dE]
 refine⟨⟨a⟩,?_⟩
 repeat' first
  | exact⟨trivial⟩
  | (intro _)
  | (refine And.intro ?_ ?_)
 all_goals grind [kR,u0,R7]
theorem Qf9:Ok xN:=nM (tab:=[tx]) (fn:=f152) (fI:=Qc7) (by grind [Ml]) (by kernel_rfl) (by kernel_rfl) (λ_=>ZcY (by kernel_rfl)) λy a=>Eq.mp (QbT y) (QhG y a)
theorem Qvj (y:By×RS) (a:R8.pre y):QbU y:=by
 unfold QbU;simp_all
def Qga:Ok R8:=nM (tab:=[]) (fn:=f44) (fI:=QmS) (by simp) (by kernel_rfl) (by kernel_rfl) (λ_=>ZcY (by kernel_rfl)) λy a=>Eq.mp (Qf8 y) (Qvj y a)
end
end sx
namespace sx
open Go Go.RowKit
noncomputable section
def sN (l:By) (s:RS):Nat->RS
 | 0=>s
 | n+1=>db l (sN l s n)
def dc (l:By) (s:RS) (i:Nat):Int:=cJ l (sN l s i) -1
def QmT (l:By) (s:RS):cn:=⟨dc l s 0,dc l s 1,dc l s 2,dc l s 3,dc l s 4,dc l s 5,dc l s 6,dc l s 7,dc l s 8,dc l s 9⟩
def x5 (l:By) (s:RS):RS:=sN l s 10
def QaX (l:By) (s:RS):aX:=⟨cJ l s,dc l (db l s) 0,dc l (db l s) 1,dc l (db l s) 2,dc l (db l s) 3,dc l (db l s) 4,dc l (db l s) 5,dc l (db l s) 6,dc l (db l s) 7,dc l (db l s) 8,dc l (db l s) 9⟩
def ov (l:By) (s:RS):RS:=x5 l (db l s)
def xO:bh D:={ ou with f:=146,res:=λy=>.agg (dj 11 (QmT y.1 y.2)),dy:=λy=>RT y.1 (x5 y.1 y.2) }
def Qgb (_:xO.Y):cH D:=⟨[],[],[],[],11,[]⟩
def QnY (y:xO.Y):Prop:=lI [ou] f146 xO Qgb y
def xP:bh D:={ mM with f:=151,res:=λy=>.agg (dj 11 (QmT y.1 y.2)),dy:=λy=>zc y.1 (x5 y.1 y.2) }
def Qc8 (_:xP.Y):cH D:=⟨[],[],[],[],11,[]⟩
def QhH (y:xP.Y):Prop:=lI [mM] f151 xP Qc8 y
def Sa:bh D:={ ou with f:=148,res:=λy=>.agg (dj 1 (QaX y.1 y.2)),dy:=λy=>RT y.1 (ov y.1 y.2) }
def QmU (_:Sa.Y):cH D:=dY ()
def Qvk (y:Sa.Y):Prop:=lI [ou,xO] f148 Sa QmU y
def tz (l:By) (s:RS) (m:Int):Int:=fV l s m
def dp (l:By) (s:RS) (m:Int):RS:=if (eB l s m).an=0/\(l.length:Int) -(eB l s m).at_<fV l s m then⟨s.at_,3⟩ else eB l s m
def FU (l:By) (s:RS) (m:Int):Int:=if (dp l s m).an≠0 then 0 else fV l s m
section
variable {α:Type} (one:RS->α) (tC:RS->RS)
def Co (s:RS):Nat->RS
 | 0=>s
 | i+1=>tC (Co s i)
def Ns (s:RS) (i:Nat):List α:=(List.range i).map λj=>one (Co tC s j)
def zB (s:RS):Nat->Nat
 | 0=>0
 | n+1=>if zB s n=n/\(Co tC s n).an=0 then n+1 else zB s n
end
def zT (l:By) (s:RS):RS:=Co (ov l) (dp l s 400) (zB (ov l) (dp l s 400) (tz l s 400).toNat)
def tD (l:By) (s:RS) (part:Bool):List aX:=if (zT l s).an≠0/\part=false then[] else Ns (QaX l) (ov l) (dp l s 400) (zB (ov l) (dp l s 400) (tz l s 400).toNat)
def vX (tC:RS->RS) (s:RS) (i:Nat):Prop:=∀j,j<i->(Co tC s j).an=0
def G_:bh D where
 f:=147
 Y:=By×RS
 oM:=λargs s=>match args with
  | [p,_,_]=>asR p s
  | _=>.fail
 pre:=bw
 args:=λ_=>[.ptr 0 0,.num .i64 400,.func (.func 148) [] []]
 heap:=λy=>RT y.1 y.2
 res:=λy=>.list 1 (tD y.1 y.2 false)
 dy:=λy=>RT y.1 (zT y.1 y.2)
 jY:=1
 oS:=1
def Qgc (y:G_.Y):cH D:=⟨[],[],[(506,⟨Nat,[0,2,8],λi=>[(9,.grow 1 (Ns (QaX y.1) (ov y.1) (dp y.1 y.2 400) i) 1),(10,Qvo i)],[],λi=>RT y.1 (Co (ov y.1) (dp y.1 y.2 400) i)++[(1,.tok 1 179)],2,λi=>i<=(tz y.1 y.2 400).toNat/\vX (ov y.1) (dp y.1 y.2 400) i,λi=>(tz y.1 y.2 400).toNat-i⟩)],
 [(15,⟨Unit,[0,2],λ_=>[(8,Qvo (tz y.1 y.2 400))],[],λ_=>RT y.1 (dp y.1 y.2 400),1,λ_=>True,λ_=>0⟩)],1,[]⟩
def Qn1 (y:G_.Y):Prop:=lI [s5,ss,Sa] f147 G_ Qgc y
def xQ:bh D:={ s5 with f:=150,heap:=λy=>zc y.1.1 y.1.2,res:=λy=>Qvo (FU y.1.1 y.1.2 y.2),dy:=λy=>zc y.1.1 (dp y.1.1 y.1.2 y.2) }
def Qdd (_:xQ.Y):cH D:=dY ()
def QhK (y:xQ.Y):Prop:=lI [tx] f150 xQ Qdd y
end
end sx
set_option maxRecDepth 100000
set_option maxHeartbeats 4000000
namespace sx
noncomputable section
open Go Go.RowKit cls syn
def XQ (y:Prod (List UInt8) RS):Prop:=let a:=db y.1 y.2;let q1:=x5 y.1 y.2;let c:=db y.1 a;let d:=db y.1 c;let e:=db y.1 d;let f:=db y.1 e;let g:=db y.1 f;let h:=db y.1 g;let i:=db y.1 h;let j:=db y.1 i;let b:=db y.1 j;(Iv (bw (y.1,y.2)))/\aa [y.1] (aa [RS.at_ y.2,RS.an y.2] ((Iv (bw (y.1,a)))/\aa [y.1] (aa [RS.at_ a,RS.an a] ((Iv (bw (y.1,c)))/\aa [y.1] (aa [RS.at_ c,RS.an c] ((Iv (bw (y.1,d)))/\aa [y.1] (aa [RS.at_ d,RS.an d] ((Iv (bw (y.1,e)))/\aa [y.1] (aa [RS.at_ e,RS.an e] ((Iv (bw (y.1,f)))/\aa [y.1] (aa [RS.at_ f,RS.an f] ((Iv (bw (y.1,g)))/\aa [y.1] (aa [RS.at_ g,RS.an g] ((Iv (bw (y.1,h)))/\aa [y.1] (aa [RS.at_ h,RS.an h] ((Iv (bw (y.1,i)))/\aa [y.1] (aa [RS.at_ i,RS.an i] ((Iv (bw (y.1,j)))/\aa [y.1] (aa [RS.at_ j,RS.an j] (((cx .i64 (cJ y.1 y.2) (1:Int))=(dc y.1 y.2 0))/\((cx .i64 (cJ y.1 a) (1:Int))=(dc y.1 y.2 1))/\((cx .i64 (cJ y.1 c) (1:Int))=(dc y.1 y.2 2))/\((cx .i64 (cJ y.1 d) (1:Int))=(dc y.1 y.2 3))/\((cx .i64 (cJ y.1 e) (1:Int))=(dc y.1 y.2 4))/\((cx .i64 (cJ y.1 f) (1:Int))=(dc y.1 y.2 5))/\((cx .i64 (cJ y.1 g) (1:Int))=(dc y.1 y.2 6))/\((cx .i64 (cJ y.1 h) (1:Int))=(dc y.1 y.2 7))/\((cx .i64 (cJ y.1 i) (1:Int))=(dc y.1 y.2 8))/\((cx .i64 (cJ y.1 j) (1:Int))=(dc y.1 y.2 9))/\aa [y.1] (((RS.at_ b)=(RS.at_ q1))/\((RS.an b)=(RS.an q1))/\True)))))))))))))))))))))
def Qer:∀y,XQ y=QnY y:=λy=>by kernel_rfl
def Sb (y:Prod (List UInt8) RS):Prop:=let a:=db y.1 y.2;let q1:=x5 y.1 y.2;let c:=db y.1 a;let d:=db y.1 c;let e:=db y.1 d;let f:=db y.1 e;let g:=db y.1 f;let h:=db y.1 g;let i:=db y.1 h;let j:=db y.1 i;let b:=db y.1 j;(Iv (bw (y.1,y.2)))/\aa [y.1] (aa [RS.at_ y.2,RS.an y.2] ((Iv (bw (y.1,a)))/\aa [y.1] (aa [RS.at_ a,RS.an a] ((Iv (bw (y.1,c)))/\aa [y.1] (aa [RS.at_ c,RS.an c] ((Iv (bw (y.1,d)))/\aa [y.1] (aa [RS.at_ d,RS.an d] ((Iv (bw (y.1,e)))/\aa [y.1] (aa [RS.at_ e,RS.an e] ((Iv (bw (y.1,f)))/\aa [y.1] (aa [RS.at_ f,RS.an f] ((Iv (bw (y.1,g)))/\aa [y.1] (aa [RS.at_ g,RS.an g] ((Iv (bw (y.1,h)))/\aa [y.1] (aa [RS.at_ h,RS.an h] ((Iv (bw (y.1,i)))/\aa [y.1] (aa [RS.at_ i,RS.an i] ((Iv (bw (y.1,j)))/\aa [y.1] (aa [RS.at_ j,RS.an j] (((cx .i64 (cJ y.1 y.2) (1:Int))=(dc y.1 y.2 0))/\((cx .i64 (cJ y.1 a) (1:Int))=(dc y.1 y.2 1))/\((cx .i64 (cJ y.1 c) (1:Int))=(dc y.1 y.2 2))/\((cx .i64 (cJ y.1 d) (1:Int))=(dc y.1 y.2 3))/\((cx .i64 (cJ y.1 e) (1:Int))=(dc y.1 y.2 4))/\((cx .i64 (cJ y.1 f) (1:Int))=(dc y.1 y.2 5))/\((cx .i64 (cJ y.1 g) (1:Int))=(dc y.1 y.2 6))/\((cx .i64 (cJ y.1 h) (1:Int))=(dc y.1 y.2 7))/\((cx .i64 (cJ y.1 i) (1:Int))=(dc y.1 y.2 8))/\((cx .i64 (cJ y.1 j) (1:Int))=(dc y.1 y.2 9))/\aa [y.1] (((RS.at_ b)=(RS.at_ q1))/\((RS.an b)=(RS.an q1))/\True)))))))))))))))))))))
def QbV:∀y,Sb y=QhH y:=λy=>by kernel_rfl
def QbW (y:Prod (List UInt8) RS):Prop:=let g:=cJ y.1 y.2;let q1:=db y.1 y.2;let e:=ov y.1 y.2;let f:=x5 y.1 q1;let h:=dc y.1 q1 9;let i:=dc y.1 q1 8;let j:=dc y.1 q1 7;let k:=dc y.1 q1 6;let l:=dc y.1 q1 5;let m:=dc y.1 q1 4;let a:=dc y.1 q1 3;let b:=dc y.1 q1 2;let c:=dc y.1 q1 1;let d:=dc y.1 q1 0;(Iv (bw (y.1,y.2)))/\aa [y.1] (aa [RS.at_ y.2,RS.an y.2] ((Iv (bw (y.1,q1)))/\aa [y.1] (aa [RS.at_ q1,RS.an q1,g,d,c,b,a,m,l,k,j,i,h] (aa [y.1] (((RS.at_ f)=(RS.at_ e))/\((RS.an f)=(RS.an e))/\True)))))
def Qgd:∀y,QbW y=Qvk y:=λy=>by kernel_rfl
def Yz (y:Prod (List UInt8) RS):Prop:=let f:=zT y.1 y.2;let q1:=tD y.1 y.2 false;let i:=tz y.1 y.2 (400:Int);let c:=dp y.1 y.2 (400:Int);let d:=eB y.1 y.2 (400:Int);let p:=fV y.1 y.2 (400:Int);let o:=Int.toNat i;let q:=aB (RS.an d) (0:Int);let r:=aw (cx .i64 (ag y.1) (RS.at_ d)) p;(Iv (bw (y.1,y.2)))/\aa ([(400:Int)]:List Int) (aa [y.1] (aa [RS.at_ y.2,RS.an y.2] ((((q)->aa [RS.an d] (aa [y.1] (aa [RS.at_ d] (((r)->(Iv True)/\aa ([RS.at_ y.2,(3:Int)]:List Int) (aa [y.1] (aa [RS.at_ d,RS.an d] (∃z:Unit,(p=i)/\aa [y.1] (((RS.at_ y.2)=(RS.at_ c))/\((3:Int)=(RS.an c))/\(Iv True))))))/\((r=false)->∃z:Unit,(p=i)/\aa [y.1] (((RS.at_ d)=(RS.at_ c))/\((RS.an d)=(RS.an c))/\(Iv True)))))))/\((q=false)->aa [RS.an d] (∃z:Unit,(p=i)/\aa [y.1] (((RS.at_ d)=(RS.at_ c))/\((RS.an d)=(RS.an c))/\(Iv True)))))/\(∀x:Unit,(Iv True)->(∃z:Nat,let s:=Co (ov y.1) c z;aa [i] ((([]:List aX)=(Ns (QaX y.1) (ov y.1) c z))/\((0:Int)=((z:Nat):Int))/\aa [y.1] (((RS.at_ c)=(RS.at_ s))/\((RS.an c)=(RS.an s))/\(Iv (((z:Nat)<=o)/\vX (ov y.1) c z)))))/\(∀j:Nat,let k:=aw ((j:Nat):Int) i;let a:=Co (ov y.1) c j;let b:=db y.1 a;let l:=ov y.1 a;let g:=Ns (QaX y.1) (ov y.1) c j;let h:=aB (RS.an a) (0:Int);let e:=Bool.not h;let m:=bM g ((aX.mk (cJ y.1 a) (dc y.1 b 0) (dc y.1 b 1) (dc y.1 b 2) (dc y.1 b 3) (dc y.1 b 4) (dc y.1 b 5) (dc y.1 b 6) (dc y.1 b 7) (dc y.1 b 8) (dc y.1 b 9))::([]:List aX));(Iv (((j:Nat)<=o)/\vX (ov y.1) c j))->((k)->((h)->(Iv (bw (y.1,a)))/\aa [y.1] (aa [RS.at_ a,RS.an a] (((bJ (ag m) 88))/\∃z:Nat,let n:=Co (ov y.1) c z;aa [i] ((m=(Ns (QaX y.1) (ov y.1) c z))/\((ay .i64 ((j:Nat):Int) (1:Int))=((z:Nat):Int))/\aa [y.1] (((RS.at_ l)=(RS.at_ n))/\((RS.an l)=(RS.an n))/\(Iv ((((z:Nat)<=o)/\vX (ov y.1) c z)/\((o:Nat) -z:Nat)<((o:Nat) -j))))))))/\((h=false)->((e)->(([]:List aX)=q1)/\aa [y.1] (((RS.at_ a)=(RS.at_ f))/\((RS.an a)=(RS.an f))/\True))/\((e=false)->(g=q1)/\aa [y.1] (((RS.at_ a)=(RS.at_ f))/\((RS.an a)=(RS.an f))/\True))))/\((k=false)->((e)->(([]:List aX)=q1)/\aa [y.1] (((RS.at_ a)=(RS.at_ f))/\((RS.an a)=(RS.an f))/\True))/\((e=false)->(g=q1)/\aa [y.1] (((RS.at_ a)=(RS.at_ f))/\((RS.an a)=(RS.an f))/\True))))))))
def Qes:∀y,Yz y=Qn1 y:=λy=>by kernel_rfl
def Sc (y:Prod (Prod (List UInt8) RS) Int):Prop:=let d:=fV y.1.1 y.1.2 y.2;let q1:=dp y.1.1 y.1.2 y.2;let a:=eB y.1.1 y.1.2 y.2;let b:=FU y.1.1 y.1.2 y.2;let e:=aB (RS.an a) (0:Int);let c:=Bool.not e;let f:=aw (cx .i64 (ag y.1.1) (RS.at_ a)) d;(Iv (bw (y.1.1,y.1.2)))/\aa [y.2] (aa [y.1.1] (aa [RS.at_ y.1.2,RS.an y.1.2] (((e)->aa [RS.an a] (aa [y.1.1] (aa [RS.at_ a] (((f)->((0:Int)=b)/\aa [y.1.1] (((RS.at_ y.1.2)=(RS.at_ q1))/\((3:Int)=(RS.an q1))/\True))/\((f=false)->((c)->((0:Int)=b)/\aa [y.1.1] (((RS.at_ a)=(RS.at_ q1))/\((RS.an a)=(RS.an q1))/\True))/\((c=false)->(d=b)/\aa [y.1.1] (((RS.at_ a)=(RS.at_ q1))/\((RS.an a)=(RS.an q1))/\True)))))))/\((e=false)->aa [RS.an a] (((c)->((0:Int)=b)/\aa [y.1.1] (((RS.at_ a)=(RS.at_ q1))/\((RS.an a)=(RS.an q1))/\True))/\((c=false)->(d=b)/\aa [y.1.1] (((RS.at_ a)=(RS.at_ q1))/\((RS.an a)=(RS.an q1))/\True)))))))
def QbX:∀y,Sc y=QhK y:=λy=>by kernel_rfl
end
end sx
namespace sx
open Go Go.RowKit
set_option maxRecDepth 100000
variable {l:By} {s:RS}
theorem su (h:bw (l,s)):∀n,bw (l,sN l s n)
 | 0=>h
 | n+1=>(jr (su h n)).1
def l9 (h:bw (l,s)) (n:Nat):cx IntKind.i64 (cJ l (sN l s n)) (1:Int)=dc l s n:=by
 have⟨_,h1,a,_⟩:=jr (su h n);exact jQ ω ω
def BC (h:bw (l,s)):bw (l,x5 l s):=su h 10
def YA (h:bw (l,s)):bw (l,ov l s):=BC (jr h).1
def xR {m:Int} (h:bw (l,s)):bw (l,dp l s m):=by
 have⟨h1,_⟩:=pP (m:=m) h;unfold dp;split
 ·exact h
 ·exact h1
section
variable {α:Type} {one:RS->α} {tC:RS->RS} {s:RS}
theorem wy {n i:Nat} (hi:i<=n) (a:vX tC s i) (c:i=n\/(Co tC s i).an≠0):zB tC s n=i:=by
 induction n generalizing i with
 | zero=>
  have:i=0:=ω;subst this;rfl
 | succ n b=>
  have e:zB tC s (n+1)=if zB tC s n=n/\(Co tC s n).an=0 then n+1 else zB tC s n:=rfl
  by_cases h:i=n+1
  ·subst h;rw[e,Zac ⟨b ω (λj d=>a j ω) (.inl rfl),a n ω⟩]
  ·grind
theorem Mm (i:Nat):Ns one tC s (i+1)=Ns one tC s i++[one (Co tC s i)]:=by
 grind [Ns,List.range_succ]
theorem C_ (i:Nat):(Ns one tC s i).length=i:=by grind [Ns]
theorem BD {l:By} (a:∀s,bw (l,s)->bw (l,tC s)) (h:bw (l,s)):∀i,bw (l,Co tC s i)
 | 0=>h
 | i+1=>a _ (BD a h i)
theorem Cm {i:Nat} (h:vX tC s i) (a:(Co tC s i).an=0):vX tC s (i+1):=λj b=>by
 by_cases e:j=i
 ·grind
 ·exact h j ω
end
def Qok (y:By×RS) (a:xO.pre y):XQ y:=by
 have h:=a;unfold XQ;simp only[dw,Zai];exact⟨⟨su h 0⟩,⟨su h 1⟩,⟨su h 2⟩,⟨su h 3⟩,⟨su h 4⟩,⟨su h 5⟩,⟨su h 6⟩,⟨su h 7⟩,⟨su h 8⟩,⟨su h 9⟩,l9 h 0,l9 h 1,l9 h 2,l9 h 3,l9 h 4,l9 h 5,l9 h 6,l9 h 7,l9 h 8,l9 h 9,rfl,rfl⟩
theorem Qde:Ok xO:=nM (tab:=[ou]) (fn:=f146) (fI:=Qgb) (by grind [zA]) (by kernel_rfl) (by kernel_rfl) (λ_=>ZcY (by kernel_rfl)) λy a=>Eq.mp (Qer y) (Qok y a)
def Qit (y:By×RS) (a:xP.pre y):Sb y:=by
 have h:=a;unfold Sb;simp only[dw,Zai];exact⟨⟨su h 0⟩,⟨su h 1⟩,⟨su h 2⟩,⟨su h 3⟩,⟨su h 4⟩,⟨su h 5⟩,⟨su h 6⟩,⟨su h 7⟩,⟨su h 8⟩,⟨su h 9⟩,l9 h 0,l9 h 1,l9 h 2,l9 h 3,l9 h 4,l9 h 5,l9 h 6,l9 h 7,l9 h 8,l9 h 9,rfl,rfl⟩
theorem Qge:Ok xP:=nM (tab:=[mM]) (fn:=f151) (fI:=Qc8) (by grind [uF]) (by kernel_rfl) (by kernel_rfl) (λ_=>ZcY (by kernel_rfl)) λy a=>Eq.mp (QbV y) (Qit y a)
def Qvl (y:By×RS) (a:Sa.pre y):QbW y:=by
 have h:=a;unfold QbW;simp only[dw,Zai];exact⟨⟨h⟩,⟨(jr h).1⟩,rfl,rfl⟩
theorem Qol:Ok Sa:=nM (tab:=[ou,xO]) (fn:=f148) (fI:=QmU) (by grind [zA,Qde]) (by kernel_rfl) (by kernel_rfl) (λ_=>ZcY (by kernel_rfl)) λy a=>Eq.mp (Qgd y) (Qvl y a)
theorem Qiu (y:(By×RS)×Int) (b:xQ.pre y):Sc y:=by
 have⟨⟨l,s⟩,m⟩:=y;have a:=b;have⟨⟨g1,g2,g3⟩,c,d,e,_⟩:=pP (m:=m) a;simp only at g1 g2 g3;unfold Sc;have hs:cx IntKind.i64 ↑l.length (eB l s m).at_=↑l.length-(eB l s m).at_:=jQ ω ω;simp only[bL,dw,Zai,au,hs,Zan,Zao];refine⟨⟨a⟩,?_⟩
 repeat' first
  | exact⟨trivial⟩
  | (intro _)
  | (refine And.intro ?_ ?_)
 all_goals grind [FU,dp]
theorem Qgf:Ok xQ:=nM (tab:=[tx]) (fn:=f150) (fI:=Qdd) (by grind [Ml]) (by kernel_rfl) (by kernel_rfl) (λ_=>ZcY (by kernel_rfl)) λy a=>Eq.mp (QbX y) (Qiu y a)
theorem QoD (y:By×RS) (g:G_.pre y):Yz y:=by
 have⟨l,s⟩:=y;have c:=g;have⟨⟨g1,g2,g3⟩,i,j,k,n⟩:=pP (m:=400) c;simp only at g1 g2 g3;unfold Yz;have hs:cx IntKind.i64 ↑l.length (eB l s 400).at_=↑l.length-(eB l s 400).at_:=jQ ω ω;simp only[bL,dw,Zai,au,aT,hs,Zan,Zao,br];refine⟨⟨c⟩,⟨λb=>⟨λa=>⟨⟨trivial⟩,(),rfl,?_,?_,⟨trivial⟩⟩,λa=>⟨(),rfl,?_,?_,⟨trivial⟩⟩⟩,λb=>⟨(),rfl,?_,?_,⟨trivial⟩⟩⟩,λ_ _=>⟨⟨0,rfl,rfl,rfl,rfl,Zaj _,λ_ h=>absurd h ω⟩,λx e=>?_⟩⟩
 ·grind [dp]
 ·grind [dp]
 ·grind [dp]
 ·grind [dp]
 ·grind [dp]
 ·grind [dp]
 ·have f:=e.out.1;have d:=e.out.2;have o:tz l s 400=fV l s 400:=rfl;have hl:(Ns (QaX l) (ov l) (dp l s 400) x).length=x:=C_ x;refine⟨λb=>⟨λa=>⟨⟨(BD (tC:=ov l) (λs h=>YA h) (xR (m:=400) c) x)⟩,?_,x+1,?_,?_,rfl,rfl,⟨ω,Cm d a⟩,ω⟩,λa=>?_⟩,λb=>?_⟩
  ·grind
  ·rw[Mm];rfl
  ·grind
  ·grind [wy,tD,zT]
  ·grind [wy,tD,zT]
theorem Qiv:Ok G_:=nM (tab:=[s5,ss,Sa]) (fn:=f147) (fI:=Qgc) (by grind [Mi,Cn,Qol]) (by kernel_rfl) (by kernel_rfl) (λ_=>ZcY (by kernel_rfl)) λy a=>Eq.mp (Qes y) (QoD y a)
end sx
set_option maxRecDepth 100000
set_option maxHeartbeats 4000000
namespace sx
noncomputable section
open Go Go.RowKit cls syn
def u9 (l:By) (s:RS):RS:=x5 l (gS l s)
def Ha (l:By) (p:Bool) (s:RS):dd:=⟨kP l s,dc l (gS l s) 0,dc l (gS l s) 1,dc l (gS l s) 2,dc l (gS l s) 3,dc l (gS l s) 4,dc l (gS l s) 5,dc l (gS l s) 6,dc l (gS l s) 7,dc l (gS l s) 8,dc l (gS l s) 9,tD l (u9 l s) p⟩
def nu (l:By) (s:RS):RS:=zT l (u9 l s)
def tA (l:By) (s:RS):RS:=Co (nu l) (dp l s 8) (zB (nu l) (dp l s 8) (tz l s 8).toNat)
def fM (l:By) (s:RS) (p:Bool):List dd:=if (tA l s).an≠0/\p=false then[] else Ns (Ha l p) (nu l) (dp l s 8) (zB (nu l) (dp l s 8) (tz l s 8).toNat)
def mK (l:By) (s:RS):RS:=u0 l s 3
def kS (l:By) (s:RS):RS:=db l (mK l s)
def Sd (l:By) (s:RS) (p:Bool):dM:=⟨kR l s 3,cJ l (mK l s),fM l (kS l s) p⟩
def kT (l:By) (s:RS):RS:=tA l (kS l s)
def xS (l:By) (s:RS):RS:=db l (db l s)
def wA (l:By) (s:RS):RS:=gS l (gS l (xS l s))
def Qet (l:By) (s:RS):RS:=db l (db l (wA l s))
def sr (l:By) (s:RS):RS:=tA l (Qet l s)
def F4 (l:By) (s:RS) (p:Bool):bd:=⟨cJ l s,cJ l (db l s),kP l (xS l s),kP l (gS l (xS l s)),cJ l (wA l s),cJ l (db l (wA l s)),fM l (Qet l s) p,Sd l (sr l s) p,Sd l (kT l (sr l s)) p,Sd l (kT l (kT l (sr l s))) p⟩
def x6 (l:By) (s:RS):RS:=kT l (kT l (kT l (sr l s)))
def T0:bh D:={ ou with f:=145,res:=λy=>.agg (dj 2 (Ha y.1 false y.2)),dy:=λy=>RT y.1 (nu y.1 y.2) }
def QmV (_:T0.Y):cH D:=dY ()
def Qvm (y:T0.Y):Prop:=lI [uE,xO,G_] f145 T0 QmV y
def Hb:bh D where
 f:=144
 Y:=By×RS
 oM:=λargs s=>match args with
  | [p,_,_]=>asR p s
  | _=>.fail
 pre:=bw
 args:=λ_=>[.ptr 0 0,.num .i64 8,.func (.func 145) [] []]
 heap:=λy=>RT y.1 y.2
 res:=λy=>.list 2 (fM y.1 y.2 false)
 dy:=λy=>RT y.1 (tA y.1 y.2)
 jY:=1
 oS:=1
def Qgg (y:Hb.Y):cH D:=⟨[],[],[(506,⟨Nat,[0,2,8],λi=>[(9,.grow 2 (Ns (Ha y.1 false) (nu y.1) (dp y.1 y.2 8) i) 1),(10,Qvo i)],[],λi=>RT y.1 (Co (nu y.1) (dp y.1 y.2 8) i)++[(1,.tok 2 106)],2,λi=>i<=(tz y.1 y.2 8).toNat/\vX (nu y.1) (dp y.1 y.2 8) i,λi=>(tz y.1 y.2 8).toNat-i⟩)],
 [(15,⟨Unit,[0,2],λ_=>[(8,Qvo (tz y.1 y.2 8))],[],λ_=>RT y.1 (dp y.1 y.2 8),1,λ_=>True,λ_=>0⟩)],1,[]⟩
def QoF (y:Hb.Y):Prop:=lI [s5,ss,T0] f144 Hb Qgg y
def YB:bh D:={ ou with f:=93,res:=λy=>.list 2 (fM y.1 y.2 false),dy:=λy=>RT y.1 (tA y.1 y.2) }
def Qvn (_:YB.Y):cH D:=dY ()
def Qw7 (y:YB.Y):Prop:=lI [Hb] f93 YB Qvn y
def T1:bh D:={ ou with f:=94,res:=λy=>.agg (QnQ (Sd y.1 y.2 false)),dy:=λy=>RT y.1 (kT y.1 y.2) }
def QmW (_:T1.Y):cH D:=dY ()
def Qvp (y:T1.Y):Prop:=lI [G',ou,YB] f94 T1 QmW y
def Hc:bh D:={ ou with f:=46,res:=λy=>.agg (Qhu (F4 y.1 y.2 false)),dy:=λy=>RT y.1 (x6 y.1 y.2) }
def Qgh (_:Hc.Y):cH D:=dY ()
def QoG (y:Hc.Y):Prop:=lI [ou,uE,YB,T1] f46 Hc Qgh y
end
end sx
end Go.Proofs.YtiiiphndmbabcaaGreat
