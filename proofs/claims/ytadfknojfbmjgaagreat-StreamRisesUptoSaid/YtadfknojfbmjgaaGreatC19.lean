/- StreamRises: a part of the proof. -/
import Derived.Test.YtadfknojfbmjgaaGreatC18
set_option linter.all false
namespace Go.Proofs.YtadfknojfbmjgaaGreat
set_option maxRecDepth 100000
set_option maxHeartbeats 4000000
namespace sx
noncomputable section
open Go Go.RowKit cls syn
variable {G:List Gt}
def SZ (y:(((List Int)×(List Int))×bO)×Int):Prop:=let d:=(tx y).1;let e:=(tx y).2;let j:=((d.i:Nat):Int);let b:=y.1.1.1;let k:=az y.1.2.err 0;let l:=an .i64 y.1.2.i 1;let n:=aC (ab b) y.1.2.i;let c:=gt 0 b y.1.2.i.toNat;let h:=(b,y.1.1.2);let m:=place (gq h) y.1.2.i.toNat;let f:=λp:Prop=>aa [b,y.1.1.2] p;let g:Prop:=(y.1.2.ae=((d.ae:Nat):Int)/\cj k 4 y.1.2.err=d.err/\cj k y.2 y.1.2.wh=d.wh/\True);let a:Prop:=(f (l=j/\y.1.2.ae=((d.ae:Nat):Int)/\y.1.2.err=d.err/\y.1.2.wh=d.wh/\True));aa [y.1.2.i] (aa [b] (ag n (Iv (fv (h,bO.mk y.1.2.i 0 y.1.2.ae y.1.2.err y.1.2.wh)/\True)/\aa ([4,y.2]:List Int) (aa [b,y.1.1.2] (aa [y.1.2.i,y.1.2.ae,y.1.2.err,y.1.2.wh] ([]=e/\f (y.1.2.i=j/\g))))) (aC 0 y.1.2.i/\ax y.1.2.i (ab b)/\aa [b] (aa [y.1.2.i,c] (ag (az c (-1)) (Iv (fv (h,bO.mk y.1.2.i 0 y.1.2.ae y.1.2.err y.1.2.wh)/\y.1.2.i<=(b.length:Int))/\aa [b,y.1.1.2] (aa [y.1.2.i,y.1.2.ae,y.1.2.err,y.1.2.wh] (Iv (fv (h,bO.mk y.1.2.i 0 y.1.2.ae y.1.2.err y.1.2.wh)/\True)/\aa ([4,m]:List Int) (aa [b,y.1.1.2] (aa [y.1.2.i,y.1.2.ae,y.1.2.err,y.1.2.wh] ([]=e/\f (y.1.2.i=j/\y.1.2.ae=((d.ae:Nat):Int)/\cj k 4 y.1.2.err=d.err/\cj k m y.1.2.wh=d.wh/\True))))))) (ag (az c 110) ([(10,10)]=e/\a) (ag (az c 116) ([(9,9)]=e/\a) (ag (az c 114) ([(13,13)]=e/\a) (ag (az c 100) ([(48,57)]=e/\a) (ag (az c 115) (Iv (3<=2000000)/\aa ([[(9,10),(13,13),(32,32)]]:List (List (Int×Int))) (aL [(9,10),(13,13),(32,32)]=e/\a)) (ag (az c 119) (Iv (4<=2000000)/\aa ([[(48,57),(65,90),(95,95),(97,122)]]:List (List (Int×Int))) (aL [(48,57),(65,90),(95,95),(97,122)]=e/\a)) (Iv True/\aa [c] (ag (!(ic c)) (Iv (fv (h,bO.mk l 0 y.1.2.ae y.1.2.err y.1.2.wh)/\True)/\aa ([4,y.2]:List Int) (aa [b,y.1.1.2] (aa [l,y.1.2.ae,y.1.2.err,y.1.2.wh] ([]=e/\f (l=j/\g))))) (([(c,c)]:List (Int×Int))=e/\a))))))))))))))
def S0 (y:((List Int)×(List Int))×bO):Prop:=let l:=(ze y).2;let d:=(ze y).1;let h:=y.2.i.toNat;let m:=((d.ae:Nat):Int);let n:=((d.i:Nat):Int);let j:=an .i64 y.2.i 1;let b:=gt 0 y.1.1 h;let o:=(y.1.1,y.1.2);let c:=place (gq o) h;let k:=(o,bO.mk j 0 y.2.ae y.2.err y.2.wh);let a:=(tx (k,c)).1;let g:=λp:Prop=>aa [y.1.1,y.1.2] p;let e:Prop:=(([(b,b)]:List (Int×Int))=l/\c=place (gq y.1) h/\g (j=n/\y.2.ae=m/\y.2.err=d.err/\y.2.wh=d.wh/\True));let f:Prop:=(Iv (fv k/\True)/\aa ([4,c]:List Int) (aa [y.1.1,y.1.2] (aa [j,y.2.ae,y.2.err,y.2.wh] ([]=l/\c=place (gq y.1) h/\g (j=n/\y.2.ae=m/\cj (az y.2.err 0) 4 y.2.err=d.err/\cj (az y.2.err 0) c y.2.wh=d.wh/\True)))));Iv (fv (o,bO.mk y.2.i 0 y.2.ae y.2.err y.2.wh)/\y.2.i<=(y.1.1.length:Int))/\aa [y.1.1,y.1.2] (aa [y.2.i,y.2.ae,y.2.err,y.2.wh] (aC 0 y.2.i/\ax y.2.i (ab y.1.1)/\aa [y.1.1] (aa [y.2.i,b] (ag (az b 92) (Iv (fv k/\Qby (k,c))/\aa [c] (aa [y.1.1,y.1.2] (aa [j,y.2.ae,y.2.err,y.2.wh] ((tx (k,c)).2=l/\c=place (gq y.1) h/\g (((a.i:Nat):Int)=n/\((a.ae:Nat):Int)=m/\a.err=d.err/\a.wh=d.wh/\True))))) (ag (az b 91) (ag (az b 91) (f) (e)) (ag (az b 45) (ag (az b 45) (f) (e)) (ag (az b (-1)) (f) (e))))))))
def S1 (y:(((List Int)×(List Int))×bO)×Int):Prop:=let b:=az y.1.2.err 0;let f:=aQ (gq y.1.1) (nn y.1.2) 41;let c:=(y.1.1.1,y.1.1.2);let d:=bO.mk y.1.2.i 0 y.1.2.ae y.1.2.err y.1.2.wh;let g:=!(aQ (gq c) (nn d) 41);let a:=ite (y.1.2.err=0/\f=false) (Ps.ak (gq y.1.1) (nn y.1.2) (ix (gq y.1.1) y.2) 4) (nn y.1.2);let e:Prop:=(aa [y.1.1.1,y.1.1.2] (an .i64 y.1.2.i 1=((a.i+1:Nat):Int)/\y.1.2.ae=((a.ae:Nat):Int)/\y.1.2.err=a.err/\y.1.2.wh=a.wh/\True));ag b (Iv (fv (c,d)/\(0:Int)<=(41:Int)/\(41:Int)<=(127:Int))/\aa ([41]:List Int) (aa [y.1.1.1,y.1.1.2] (aa [y.1.2.i,y.1.2.ae,y.1.2.err,y.1.2.wh] (ag g (Iv (fv (c,d)/\True)/\aa ([4,y.2]:List Int) (aa [y.1.1.1,y.1.1.2] (aa [y.1.2.i,y.1.2.ae,y.1.2.err,y.1.2.wh] (aa [y.1.1.1,y.1.1.2] (an .i64 y.1.2.i 1=((a.i+1:Nat):Int)/\y.1.2.ae=((a.ae:Nat):Int)/\cj b 4 y.1.2.err=a.err/\cj b y.2 y.1.2.wh=a.wh/\True))))) (e))))) (e)
def S2 (y:((List Int)×(List Int))×bO):Prop:=let L:=(Ce y).1;let M:=(Ce y).2;let N:=(((gL y).i:Nat):Int);let w:=(((gL y).ae:Nat):Int);let q:=(re y).1;let e:=(nP y).1;let Q:=az (gL y).err 0;let B:=((y.2.ae.toNat:Nat):Int);let n:=(nP y).2.1;let I:=(nP y).2.2;let f:=((e.ae:Nat):Int);let g:=((e.i:Nat):Int);let j:=an .i64 y.2.i 1;let h:=an .i64 N 1;let c:=(y.1.1,y.1.2);let a:=gq c;let d:=place a y.2.i.toNat;let r:=bO.mk j 0 y.2.ae y.2.err y.2.wh;let s:=bO.mk g 0 f e.err e.wh;let t:=gv a (nn r);let b:=gI a (nn r);let k:=(eE b).1;let u:=(eE b).2;let O:=!(aQ a (nn s) 125);let l:=((b6 a (a.length-j.toNat) j.toNat []).1:Int);let m:=an .i64 l 1;let C:=bO.mk l 0 B y.2.err y.2.wh;let v:=bO.mk m 0 B y.2.err y.2.wh;let P:=aQ a (nn C) 44;let J:=λp:Prop=>aa [d] (aa [b] (aa [t] p));let o:=λp:Prop=>aa [y.1.1,y.1.2] p;let K:=λp:Prop=>aa [d] (aa [b] (aa [n] (aa [I] (aa [y.1.1,y.1.2] p))));let D:Prop:=(y.2.err=e.err/\y.2.wh=e.wh/\(Iv True));let E:Prop:=(aa [y.1.1,y.1.2] (aa [h,w,(gL y).err,(gL y).wh] ((Iv True))));let F:Prop:=(∃z:Unit,K (g=N/\f=w/\e.err=(gL y).err/\e.wh=(gL y).wh/\(Iv True)));let G:Prop:=(Iv (fv (c,bO.mk h 0 w (gL y).err (gL y).wh)/\True)/\aa ([2,d]:List Int) (aa [y.1.1,y.1.2] (aa [h,w,(gL y).err,(gL y).wh] (k=(re y).2.1/\L=(re y).2.2/\o (h=((q.i:Nat):Int)/\w=((q.ae:Nat):Int)/\cj Q 2 (gL y).err=q.err/\cj Q d (gL y).wh=q.wh/\True)))));let H:Prop:=(∃z:Unit,J (b=n/\false=I/\o (l=g/\B=f/\D)));let A:Prop:=(Iv (fv (c,s)/\True)/\aa ([4,d]:List Int) (aa [y.1.1,y.1.2] (aa [g,f,e.err,e.wh] (∃z:Unit,K (g=N/\f=w/\cj (az e.err 0) 4 e.err=(gL y).err/\cj (az e.err 0) d e.wh=(gL y).wh/\(Iv True))))));Iv (fv (c,bO.mk y.2.i 0 y.2.ae y.2.err y.2.wh)/\y.2.i<=(y.1.1.length:Int))/\aa [y.1.1,y.1.2] (aa [y.2.i,y.2.ae,y.2.err,y.2.wh] (Iv (fv (c,r)/\True)/\aa [y.1.1,y.1.2] (aa [j,y.2.ae,y.2.err,y.2.wh] ((ag t (Iv (fv (c,C)/\(0:Int)<=(44:Int)/\(44:Int)<=(127:Int))/\aa ([44]:List Int) (aa [y.1.1,y.1.2] (aa [l,B,y.2.err,y.2.wh] (ag P (Iv (fv (c,v)/\True)/\aa [y.1.1,y.1.2] (aa [m,B,y.2.err,y.2.wh] (∃z:Unit,J (gI a (nn v)=n/\(!(gv a (nn v)))=I/\o (((b6 a (a.length-m.toNat) m.toNat []).1:Int)=g/\((B.toNat:Nat):Int)=f/\D))))) (H))))) (H))/\(∀x:Unit,(Iv True)->(ag (!t) (A) (Iv (fv (c,s)/\(0:Int)<=(125:Int)/\(125:Int)<=(127:Int))/\aa ([125]:List Int) (aa [y.1.1,y.1.2] (aa [g,f,e.err,e.wh] (ag O (A) (ag (!I) (Iv True/\aa [n] (aa [b] (ag (ie n b) (A) (F)))) (F)))))))/\(∀x1:Unit,(Iv True)->Iv (kT b)/\aa [b] (Iv (kT n)/\aa [n] ((ag I (∃z:Unit,aa [d,k] (aa [u] ((-1)=L/\true=M/\E))) (∃z:Unit,aa [d,k] (aa [u] ((eE n).1=L/\(eE n).2=M/\E))))/\(∀R:Unit,(Iv True)->ag (!u) (G) (ag (!M) (G) (k=(re y).2.1/\L=(re y).2.2/\o (h=((q.i:Nat):Int)/\w=((q.ae:Nat):Int)/\(gL y).err=q.err/\(gL y).wh=q.wh/\True))))))))))))
def S3 (y:(((List Int)×(List Int))×bO)×Int):Prop:=let q0:=(((oz y).i:Nat):Int);let q1:=(((oz y).ae:Nat):Int);let q2:=(xR y).1;let g:=(sB y).1;let u:=(sB y).2.1;let E:=((g.i:Nat):Int);let c:=y.1.1.1;let F:=((g.ae:Nat):Int);let q8:=(sB y).2.2;let N:=c.length;let G:=az g.err 0;let o:=aQ (gq y.1.1) (nn y.1.2) 94;let n:=aY (gq y.1.1) (nn y.1.2) 94;let O:=((n.ae:Nat):Int);let H:=((n.i:Nat):Int);let h:=(c,y.1.1.2);let j:=gq h;let P:=bO.mk y.1.2.i 0 y.1.2.ae y.1.2.err y.1.2.wh;let I:=bO.mk E 0 F g.err g.wh;let q19:=aQ j (nn P) 94;let q20:=!(aQ j (nn I) 93);let r21:=λp:Prop=>aa [o] (aa [u] (aa [c,y.1.1.2] p));let m:=λp:Prop=>aa [y.2] (aa [o] p);let f:=λp:Prop=>aa [c,y.1.1.2] p;let Q:Prop:=(y.1.2.ae=O/\y.1.2.err=n.err/\y.1.2.wh=n.wh/\(Iv True));let R:Prop:=(f (an .i64 q0 1=((q2.i:Nat):Int)/\q1=((q2.ae:Nat):Int)/\(oz y).err=q2.err/\(oz y).wh=q2.wh/\True));let S:Prop:=(∃z:Unit,r21 (E=q0/\F=q1/\g.err=(oz y).err/\g.wh=(oz y).wh/\(Iv True)));let T:Prop:=(Iv (fv (h,I)/\True)/\aa ([4,y.2]:List Int) (aa [c,y.1.1.2] (aa [E,F,g.err,g.wh] (∃z:Unit,r21 (E=q0/\F=q1/\cj G 4 g.err=(oz y).err/\cj G y.2 g.wh=(oz y).wh/\(Iv True))))));(Iv (fv (h,P)/\(0:Int)<=(94:Int)/\(94:Int)<=(127:Int))/\aa ([94]:List Int) (aa [c,y.1.1.2] (aa [y.1.2.i,y.1.2.ae,y.1.2.err,y.1.2.wh] (ag q19 (∃z:Unit,aa [y.2] (true=o/\f (an .i64 y.1.2.i 1=H/\Q))) (∃z:Unit,aa [y.2] (false=o/\f (y.1.2.i=H/\Q)))))))/\(∀x:Unit,(Iv True)->((∃z:bO×(List (Int×Int))×Bool,m ([]=z.2.1/\false=z.2.2/\f (H=z.1.i/\O=z.1.ae/\n.err=z.1.err/\n.wh=z.1.wh/\(Iv (HY y z)))))/\(∀x1:bO×(List (Int×Int))×Bool,let q28:=ax x1.1.i (ab c);let U:=bO.mk x1.1.i 0 x1.1.ae x1.1.err x1.1.wh;let v:=place j x1.1.i.toNat;let q:=(h,U);let q32:=!(aQ j (nn U) 93);let l:=(ze q).2;let a:=(ze q).1;let d:=((a.ae:Nat):Int);let w:=((a.i:Nat):Int);let J:=az a.err 0;let e:=an .i64 w 1;let A:=(gt (0,0) l 0).1;let q40:=aC (ab c) e;let V:=bO.mk w 0 d a.err a.wh;let B:=bO.mk e 0 d a.err a.wh;let q43:=!(aQ j (nn V) 45);let k:=(h,B);let q45:=aQ j (nn B) 45;let q46:=aQ j (nn B) 91;let q47:=aQ j (nn B) 93;let b:=(ze k).1;let r:=(ze k).2;let s:=((b.i:Nat):Int);let t:=((b.ae:Nat):Int);let C:=az b.err 0;let D:=(gt (0,0) r 0).1;let W:=aZ x1.2.1 [(A,D)];let K:Prop:=(∃z:Unit,m (x1.2.1=u/\x1.2.2=q8/\f (x1.1.i=E/\x1.1.ae=F/\x1.1.err=g.err/\x1.1.wh=g.wh/\(Iv True))));let X:Prop:=(fits (ab (aZ x1.2.1 l)) 8/\∃z:bO×(List (Int×Int))×Bool,m (aZ x1.2.1 l=z.2.1/\true=z.2.2/\f (w=z.1.i/\d=z.1.ae/\a.err=z.1.err/\a.wh=z.1.wh/\(Iv (HY y z/\(N-z.1.i.toNat)<(N-x1.1.i.toNat))))));let Y:Prop:=(Iv (fv k/\True)/\aa ([4,v]:List Int) (aa [c,y.1.1.2] (aa [e,d,a.err,a.wh] (∃z:Unit,m (x1.2.1=u/\true=q8/\f (e=E/\d=F/\cj J 4 a.err=g.err/\cj J v a.wh=g.wh/\(Iv True)))))));let L:Prop:=(aa [e] (aa [c] (Y)));let Z:Prop:=(ag C (Tt 1 (ax 0 (ab l)/\Tt 1 (ax 0 (ab r)/\fits (ab W) 8/\aa [A,D] (∃z:bO×(List (Int×Int))×Bool,m (W=z.2.1/\true=z.2.2/\f (s=z.1.i/\t=z.1.ae/\b.err=z.1.err/\b.wh=z.1.wh/\(Iv (HY y z/\(N-z.1.i.toNat)<(N-x1.1.i.toNat))))))))) (∃z:bO×(List (Int×Int))×Bool,m (x1.2.1=z.2.1/\true=z.2.2/\f (s=z.1.i/\t=z.1.ae/\b.err=z.1.err/\b.wh=z.1.wh/\(Iv (HY y z/\(N-z.1.i.toNat)<(N-x1.1.i.toNat)))))));let M:Prop:=(Iv (fv (h,bO.mk s 0 t b.err b.wh)/\True)/\aa ([4,v]:List Int) (aa [c,y.1.1.2] (aa [s,t,b.err,b.wh] (∃z:Unit,m (x1.2.1=u/\true=q8/\f (s=E/\t=F/\cj C 4 b.err=g.err/\cj C v b.wh=g.wh/\(Iv True)))))));(Iv (HY y x1))->ag (az x1.1.err 0) (ag q28 (Iv (fv q/\(0:Int)<=(93:Int)/\(93:Int)<=(127:Int))/\aa ([93]:List Int) (aa [c,y.1.1.2] (aa [x1.1.i,x1.1.ae,x1.1.err,x1.1.wh,x1.1.err,x1.1.i] (aa [c] (ag q32 (Iv (fv q/\QbM q)/\aa [c,y.1.1.2] (aa [x1.1.i,x1.1.ae,x1.1.err,x1.1.wh] (ag (!J) (X) (Iv (fv (h,V)/\(0:Int)<=(45:Int)/\(45:Int)<=(127:Int))/\aa ([45]:List Int) (aa [c,y.1.1.2] (aa [w,d,a.err,a.wh] (ag q43 (X) (ag q40 (L) (Iv (fv k/\(0:Int)<=(93:Int)/\(93:Int)<=(127:Int))/\aa ([93]:List Int) (aa [c,y.1.1.2] (aa [e,d,a.err,a.wh] (ag q47 (L) (Iv (fv k/\(0:Int)<=(91:Int)/\(91:Int)<=(127:Int))/\aa ([91]:List Int) (aa [c,y.1.1.2] (aa [e,d,a.err,a.wh] (ag q46 (L) (Iv (fv k/\(0:Int)<=(45:Int)/\(45:Int)<=(127:Int))/\aa ([45]:List Int) (aa [c,y.1.1.2] (aa [e,d,a.err,a.wh,e] (aa [c] (ag q45 (Y) (Iv (fv k/\QbM k)/\aa [c,y.1.1.2] (aa [e,d,a.err,a.wh] (ag C (Iv True/\aa [l] (ag (!(cY l)) (aa [b.err] (M)) (Iv True/\aa [r] (ag (!(cY r)) (aa [b.err] (M)) (Tt 1 (ax 0 (ab l)/\Tt 1 (ax 0 (ab r)/\aa [b.err,A,D] (ag (ax D A) (M) (Z))))))))) (aa [b.err] (Z)))))))))))))))))))))))))) (K)))))) (aa [x1.1.err,x1.1.i] (aa [c] (K)))) (aa [x1.1.err] (K))))/\(∀x1:Unit,(Iv True)->(ag G (ag (!q8) (T) (Iv (fv (h,I)/\(0:Int)<=(93:Int)/\(93:Int)<=(127:Int))/\aa ([93]:List Int) (aa [c,y.1.1.2] (aa [E,F,g.err,g.wh] (ag q20 (T) (S)))))) (S))/\(∀x2:Unit,(Iv True)->ag o (Iv (u.length<=2000000)/\aa [u] (lB u=(xR y).2/\R)) (Iv (u.length<=2000000)/\aa [u] (aL u=(xR y).2/\R)))))
theorem No (c:∀g∈G,1<=g.2/\g.2<=4) {i j:Nat} (hi:i<=G.length) (e:j<=G.length) (h:place G i=place G j):i=j:=by
 have step:∀d k,k+d<=G.length->place G k+d<=place G (k+d):=λd=>by
  induction d with
  | zero=>intro k _;simp
  | succ d b=>
   intro k hk;have:=b k ω;grind [g_,List.getElem_mem]
 rcases Zcs i j with a | a | a
 ·have:=step (j-i) i ω;rw[show i+(j-i)=j by omega] at this;omega
 ·exact a
 ·have:=step (i-j) j ω;rw[show j+(i-j)=i by omega] at this;omega
theorem EG (a:∀g∈G,1<=g.2/\g.2<=4) {i:Nat} (hi:i<=G.length):ix G (place G i)=i:=by
 have h:∃j,j<=G.length/\place G j=place G i:=⟨i,hi,rfl⟩;unfold ix;grind [No]
theorem KS {a:Int} (h:xQ G a):place G (ix G a)=a:=by
 obtain⟨i,h1,b⟩:=h;have h:∃j,j<=G.length/\place G j=a:=⟨i,h1,b.symm⟩;unfold ix;grind
theorem wrE (G:List Gt) (s:Ps) (f:Nat) (e:Int):(s.ak G f e).err=cj (az s.err 0) e s.err:=by
 grind [Ps.ak,cj]
theorem wrW (G:List Gt) (s:Ps) (f:Nat) (e:Int):(s.ak G f e).wh=cj (az s.err 0) (place G f) s.wh:=by
 grind [Ps.ak,cj]
structure QF (p:QL) (i g:Nat):Prop where
 q:Ca p
 i:i<=100000
 g:g<=4
 hl:(gq p).length=p.1.length
 len:p.1.length<=1000
variable {p:QL} {i:Nat}
variable {g:Nat}
def fv.out {s:bO} (h:fv (p,s)):∃(i g:Nat),s=⟨i,0,g,s.err,s.wh⟩/\QF p i g:=by
 obtain⟨h1,f,j,k⟩:Ca p/\(0<=s.i/\s.i<=100000)/\s.opens=0/\0<=s.ae/\s.ae<=4:=h;obtain⟨i,hi⟩:=Zau f.1;obtain⟨g,l⟩:=Zau k.1;obtain⟨a,b,c,d,e⟩:=s;simp only at*
 subst hi l j;exact⟨i,g,rfl,h1,ω,ω,xO p,h1.len⟩
def QF.ok (h:QF p i g) (e w:Int):fv (p,⟨i,0,g,e,w⟩):=⟨h.q,⟨ZaF _,by have:=h.i;show(i:Int)<=_;omega⟩,rfl,ZaF _,by have:=h.g;show(g:Int)<=_;omega⟩
def QF.to (h:QF p i g) {s t:Ps} {k:Nat} (r:RB (gq p) k s t) (hk:k<=50000):QF p t.i t.ae:=⟨h.q,by have:=r.len;have:=h.hl;have:=h.len;omega,r.gm,h.hl,h.len⟩
def ez0 (a c:Nat) (e w:Int):nn ⟨a,0,c,e,w⟩=⟨a,0,c,e,w⟩:=rfl
def Ic {α β:Type} (p:α×β):(p.1,p.2)=p:=rfl
theorem bz {n:Nat} (h:n<=1000000):an .i64 (n:Int) 1=((n+1:Nat):Int):=KN h
theorem QqD (y:QS×Int) (t:HV.pre y):SZ y:=by
 obtain⟨⟨p,s⟩,a⟩:=y;obtain⟨h0,h1,l⟩:fv (p,s)/\s.i<=p.1.length/\xQ (gq p) a:=t;obtain⟨i,g,es,f⟩:=h0.out;obtain⟨_,_,_,e,w⟩:=s;cases es;simp only at h1;have o:=KS l;have hl:=f.hl;have hlen:=f.len;have ok:=λj (m:j<=100000)=>(⟨f.q,m,f.g,hl,hlen⟩:QF p j g).ok e w
 have eS:tx ((p,⟨i,0,g,e,w⟩),a)=r_ (gq p) ⟨i,0,g,e,w⟩ (ix (gq p) a):=rfl;unfold SZ;simp only[QaU,dq,aj,dA,Zad,Zan,Zao,bz (n:=i) ω,Int.ofNat_le,Zd0];rw[eS];unfold r_;have wr:∀(j c:Nat) (b:Int),b=place (gq p) c->((j:Int)=((Ps.ak (gq p) ⟨j,0,g,e,w⟩ c 4).i:Nat)/\(g:Int)=((Ps.ak (gq p) ⟨j,0,g,e,w⟩ c 4).ae:Nat)/\cj (az e 0) 4 e=(Ps.ak (gq p) ⟨j,0,g,e,w⟩ c 4).err/\cj (az e 0) b w=(Ps.ak (gq p) ⟨j,0,g,e,w⟩ c 4).wh):=λj c b d=>by
  rw[wrE,wrW,<-d];simp
 refine⟨λk=>?_,λk=>⟨ZaF _,k,λk1=>?_,λk1=>?_⟩⟩
 ·grind
 ·have u:=f.q.p0 i;rcases f.q.rune (i:=i) ω with⟨_,h⟩ | ⟨d,_,_⟩
  ·omega
  ·grind
 ·have nx:=ok (i+1) ω;rcases f.q.rune (i:=i) ω with⟨d,h⟩ | ⟨_,h,_⟩
  ·rw[Zaa (by grind),Zaa (by grind)];dsimp only;rw[h];generalize aD (gq p) i=r;refine⟨λk2=>by simp_all,λk2=>?_⟩;rw[Zaa k2];refine⟨λk2=>by simp_all,λk2=>?_⟩;rw[Zaa k2];refine⟨λk2=>by simp_all,λk2=>?_⟩;rw[Zaa k2];refine⟨λk2=>by simp_all,λk2=>?_⟩;rw[Zaa k2];refine⟨λk2=>by simp_all,λk2=>?_⟩;rw[Zaa k2];refine⟨λk2=>by simp_all,λk2=>?_⟩;rw[Zaa k2];refine⟨λk2=>?_,λk2=>?_⟩
   ·rw[Zaa (by grind)];exact⟨nx,rfl,wr (i+1) _ a o.symm⟩
   ·simp_all
  ·omega
def Qcs (h:Ok lP):Ok HV:=okZ [sw,zd,lP,SF] Tryz.f179 (λ_=>cX ()) ⟨ux,EB,h,Qje⟩ QqD
theorem EH (G:List Gt) (j g a:Nat) (e w er b:Int) (c:b=place G a):(j:Int)=((Ps.ak G ⟨j,0,g,e,w⟩ a er).i:Nat)/\(g:Int)=((Ps.ak G ⟨j,0,g,e,w⟩ a er).ae:Nat)/\cj (az e 0) er e=(Ps.ak G ⟨j,0,g,e,w⟩ a er).err/\cj (az e 0) b w=(Ps.ak G ⟨j,0,g,e,w⟩ a er).wh:=by
 rw[wrE,wrW,<-c];simp
theorem QqE (y:QS) (d:SX.pre y):S0 y:=by
 obtain⟨p,s⟩:=y;obtain⟨h0,h1⟩:fv (p,s)/\s.i<p.1.length:=d;obtain⟨i,g,es,f⟩:=h0.out;obtain⟨_,_,_,e,w⟩:=s;cases es;simp only at h1;have hl:=f.hl;have hlen:=f.len;have ok:=λj (c:j<=100000)=>(⟨f.q,c,f.g,hl,hlen⟩:QF p j g).ok e w
 have eS:ze (p,⟨i,0,g,e,w⟩)=fl (gq p) ⟨i,0,g,e,w⟩:=rfl;have b:tx ((p,⟨((i+1:Nat):Int),0,g,e,w⟩),place (gq p) i)=r_ (gq p) ⟨i+1,0,g,e,w⟩ i:=by
  unfold tx;rw[EG f.q.n ω];rfl
 unfold S0;simp only[QaU,dq,aj,dA,Zad,bz (n:=i) ω,Zd0];rw[b,eS];unfold fl;refine⟨⟨ok i f.i,ω⟩,ZaF _,ω,?_⟩;rcases f.q.rune (i:=i) ω with⟨a,h⟩ | ⟨a,h,_⟩
 ·rw[Zaa (by grind)];dsimp only;rw[h];have l:=f.q.p0 i;generalize aD (gq p) i=r at*
  refine⟨λk=>?_,λk=>?_⟩
  ·rw[Zac k];exact⟨⟨ok (i+1) ω,by assumption,i,by grind,rfl⟩,rfl,rfl,rfl,rfl,rfl⟩
  ·rw[Zaa k];have A:(r=91\/r=45)->fv (p,⟨((i+1:Nat):Int),0,g,e,w⟩)/\[]=(if r=91\/r=45 then((Ps.next ⟨i,0,g,e,w⟩).ak (gq p) i 4,[]) else(Ps.next ⟨i,0,g,e,w⟩,[(r,r)]):Ps×List Rg).2/\((i+1:Nat):Int)=((if r=91\/r=45 then((Ps.next ⟨i,0,g,e,w⟩).ak (gq p) i 4,[]) else(Ps.next ⟨i,0,g,e,w⟩,[(r,r)]):Ps×List Rg).1.i:Nat)/\(g:Int)=((if r=91\/r=45 then((Ps.next ⟨i,0,g,e,w⟩).ak (gq p) i 4,[]) else(Ps.next ⟨i,0,g,e,w⟩,[(r,r)]):Ps×List Rg).1.ae:Nat)/\cj (az e 0) 4 e=(if r=91\/r=45 then((Ps.next ⟨i,0,g,e,w⟩).ak (gq p) i 4,[]) else(Ps.next ⟨i,0,g,e,w⟩,[(r,r)]):Ps×List Rg).1.err/\cj (az e 0) (place (gq p) i) w=(if r=91\/r=45 then((Ps.next ⟨i,0,g,e,w⟩).ak (gq p) i 4,[]) else(Ps.next ⟨i,0,g,e,w⟩,[(r,r)]):Ps×List Rg).1.wh:=λh=>by
    rw[Zac h];exact⟨ok (i+1) ω,rfl,EH (gq p) (i+1) g i e w 4 _ rfl⟩
   grind [Ps.next]
 ·rw[Zac (show eD (gq p) i=true from a)];rw[h];refine⟨λk=>ω,λ_=>⟨λk=>ω,λ_=>⟨λk=>ω,λ_=>⟨λ_=>?_,λk=>absurd rfl k⟩⟩⟩⟩;exact⟨ok (i+1) ω,rfl,EH (gq p) (i+1) g i e w 4 _ rfl⟩
def Qjo (h:Ok lP):Ok SX:=okZ [zd,HV,sw] Tryz.f196 (λ_=>cX ()) ⟨EB,Qcs h,ux⟩ QqE
theorem QqF (y:QS×Int) (c:Nn.pre y):S1 y:=by
 obtain⟨⟨p,s⟩,a⟩:=y;obtain⟨h0,h1,b⟩:fv (p,s)/\s.i<=90000/\xQ (gq p) a:=c;obtain⟨i,g,es,f⟩:=h0.out;obtain⟨_,_,_,e,w⟩:=s;cases es;simp only at h1;have d:=KS b;unfold S1;simp only[dq,gg,iH,bz (n:=i) ω,Zan,Zao];have ok:=f.ok e w;have c1:∀x:Int,x=41->(0:Int)<=41/\(41:Int)<=127:=λ_ _=>by decide
 have en:nn ⟨(i:Int),0,(g:Int),e,w⟩=⟨i,0,g,e,w⟩:=rfl;rw[en];have st:¬(e=0/\aQ (gq p) ⟨i,0,g,e,w⟩ 41=false)->(((i+1:Nat):Int)=(((if e=0/\aQ (gq p) ⟨i,0,g,e,w⟩ 41=false then Ps.ak (gq p) ⟨i,0,g,e,w⟩ (ix (gq p) a) 4 else⟨i,0,g,e,w⟩:Ps).i+1:Nat):Int))/\(g:Int)=((if e=0/\aQ (gq p) ⟨i,0,g,e,w⟩ 41=false then Ps.ak (gq p) ⟨i,0,g,e,w⟩ (ix (gq p) a) 4 else⟨i,0,g,e,w⟩:Ps).ae:Nat)/\e=(if e=0/\aQ (gq p) ⟨i,0,g,e,w⟩ 41=false then Ps.ak (gq p) ⟨i,0,g,e,w⟩ (ix (gq p) a) 4 else⟨i,0,g,e,w⟩:Ps).err/\w=(if e=0/\aQ (gq p) ⟨i,0,g,e,w⟩ 41=false then Ps.ak (gq p) ⟨i,0,g,e,w⟩ (ix (gq p) a) 4 else⟨i,0,g,e,w⟩:Ps).wh:=λh=>by grind
 grind [EH]
def Qjp:Ok Nn:=okZ [rb,sw] Tryz.f195 (λ_=>cX ()) ⟨xP,ux⟩ QqF
theorem Qjq (y:QS) (N:HW.pre y):S2 y:=by
 obtain⟨p,s⟩:=y;obtain⟨h0,h1⟩:fv (p,s)/\s.i<p.1.length:=N;obtain⟨i,g,es,f⟩:=h0.out;obtain⟨_,_,_,e,w⟩:=s;cases es;simp only at h1;have hl:=f.hl;have hlen:=f.len;have hi:i<(gq p).length:=ω;obtain⟨d,F⟩:∃d,b6 (gq p) ((gq p).length-(i+1)) (i+1) []=d:=⟨_,rfl⟩;have E:dh (gq p) ⟨i+1,0,g,e,w⟩=⟨d.1,0,g,e,w⟩:=by rw[<-F];rfl
 have P:RB (gq p) 0 ⟨i,0,g,e,w⟩ ⟨i,0,g,e,w⟩:=RB.refl (by grind) f.g;have H:RB (gq p) 0 ⟨i,0,g,e,w⟩ ⟨d.1,0,g,e,w⟩:=by rw[<-E];exact vK (P.pf hi)
 obtain⟨ok,c⟩:∃ok,gv (gq p) ⟨i+1,0,g,e,w⟩=ok:=⟨_,rfl⟩;obtain⟨m,C⟩:∃m,gI (gq p) ⟨i+1,0,g,e,w⟩=m:=⟨_,rfl⟩;have gm:kT m:=by grind [pZ]
 have u:nP (p,⟨i,0,g,e,w⟩)=if ok/\aQ (gq p) ⟨d.1,0,g,e,w⟩ 44=true then(dh (gq p) ⟨d.1+1,0,g,e,w⟩,gI (gq p) ⟨d.1+1,0,g,e,w⟩,!gv (gq p) ⟨d.1+1,0,g,e,w⟩) else(⟨d.1,0,g,e,w⟩,m,false):=by
  rw[<-c,<-C];unfold nP;rw[aq];have r:dh (gq (p,(⟨i,0,g,e,w⟩:bO)).1) (nn (p,(⟨i,0,g,e,w⟩:bO)).2).next=⟨d.1,0,g,e,w⟩:=E;rw[r];rfl
 obtain⟨j,n,op,l,D,J⟩:∃j n op,nP (p,⟨i,0,g,e,w⟩)=(⟨j,0,g,e,w⟩,n,op)/\RB (gq p) 0 ⟨i,0,g,e,w⟩ ⟨j,0,g,e,w⟩/\kT n:=by
  rw[u];split
  ·rename_i L
   have A:=cQ L.2;exact⟨_,_,_,rfl,vK (H.pf A),pZ _ _⟩
  ·grind
 have v:gL (p,⟨i,0,g,e,w⟩)=if ok=false\/aQ (gq p) ⟨j,0,g,e,w⟩ 125=false\/(op=false/\ie n m) then Ps.ak (gq p) ⟨j,0,g,e,w⟩ i 4 else⟨j,0,g,e,w⟩:=by
  unfold gL;rw[aq,l,<-c,<-C];rfl
 have I:Ce (p,⟨i,0,g,e,w⟩)=if op then(-1,true) else eE n:=by
  unfold Ce;rw[aq,l]
 have eS:re (p,⟨i,0,g,e,w⟩)=(if (eE m).2=false\/(Ce (p,⟨i,0,g,e,w⟩)).2=false then(gL (p,⟨i,0,g,e,w⟩)).next.ak (gq p) i 2 else(gL (p,⟨i,0,g,e,w⟩)).next,(eE m).1,(Ce (p,⟨i,0,g,e,w⟩)).1):=by
  have r:ej (gq p) ⟨i,0,g,e,w⟩=jG (gq p) i (nP (p,⟨i,0,g,e,w⟩)).1 m (nP (p,⟨i,0,g,e,w⟩)).2.1 ok (nP (p,⟨i,0,g,e,w⟩)).2.2:=by
   grind [ej,Ps.next]
  unfold re;rw[aq];refine r.trans ?_;rw[l,v,I];rfl
 have Q:RB (gq p) 0 ⟨i,0,g,e,w⟩ (gL (p,⟨i,0,g,e,w⟩)):=by
  rw[v];split
  ·exact D.ak _ _
  ·exact D
 have R:(gL (p,⟨i,0,g,e,w⟩)).ae=g:=by rw[v];split<;>simp
 have OD:=f.ok e w;have o:=λ(x:Nat) (M:x<=100000)=>(⟨f.q,M,f.g,hl,hlen⟩:QF p x g).ok e w
 have O:=D.len;have dl:=H.len;have V:=Q.len;simp only at O dl;unfold S2;simp only[dq,gg,iH,bz (n:=i) ω,Zad,Zan,Zao,ZaX,ZaY,ZaZ,ez2,ez0,Ic,F,c,C];have T:ok->aQ (gq p) ⟨d.1,0,g,e,w⟩ 44->gI (gq p) ⟨d.1+1,0,g,e,w⟩=n/\(!gv (gq p) ⟨d.1+1,0,g,e,w⟩)=op/\(b6 (gq p) ((gq p).length-(d.1+1)) (d.1+1) []).1=j:=λa b=>by
  rw[Zac ⟨a,b⟩,l] at u;injection u with h1 z
  injection z with z K
  exact⟨z.symm,K.symm,(ZaR Ps.i h1).symm⟩
 have U:¬(ok/\aQ (gq p) ⟨d.1,0,g,e,w⟩ 44)->m=n/\false=op/\d.1=j:=λa=>by
  grind
 simp only[l,bz (n:=d.1) ω,Zad,ez0,and_self,Zai];refine⟨⟨OD,ω⟩,o _ ω,⟨λk=>⟨⟨o _ ω,by decide,by decide⟩,λk1=>⟨?_,?_⟩,λk1=>?_⟩,λk=>?_⟩,⟨?_,?_⟩⟩
 ·grind
 ·grind
 ·grind
 ·grind
 ·have S:(ok=false\/aQ (gq p) ⟨j,0,g,e,w⟩ 125=false\/(op=false/\ie n m))->fv (p,⟨j,0,g,e,w⟩)/\(j:Int)=((gL (p,⟨i,0,g,e,w⟩)).i:Nat)/\(g:Int)=((gL (p,⟨i,0,g,e,w⟩)).ae:Nat)/\cj (az e 0) 4 e=(gL (p,⟨i,0,g,e,w⟩)).err/\cj (az e 0) (place (gq p) i) w=(gL (p,⟨i,0,g,e,w⟩)).wh:=λh=>by
   grind [EH]
  grind
 ·refine⟨gm,J,⟨λk=>?_,λk=>?_⟩,?_⟩
  ·grind
  ·grind
  ·have G:fv (p,⟨(((gL (p,⟨i,0,g,e,w⟩)).i+1:Nat):Int),0,((gL (p,⟨i,0,g,e,w⟩)).ae:Nat),(gL (p,⟨i,0,g,e,w⟩)).err,(gL (p,⟨i,0,g,e,w⟩)).wh⟩):=(⟨f.q,ω,by rw[R];exact f.g,hl,hlen⟩:QF p _ _).ok _ _;rw[bz ω,eS];generalize gL (p,⟨i,0,g,e,w⟩)=t at*
   generalize Ce (p,⟨i,0,g,e,w⟩)=h at*
   have B:(eE m).2=false\/h.2=false->(if (eE m).2=false\/h.2=false then t.next.ak (gq p) i 2 else t.next)=t.next.ak (gq p) i 2:=λk=>Zac k
   have bad:(eE m).2=false\/h.2=false->((t.i+1:Nat):Int)=((if (eE m).2=false\/h.2=false then t.next.ak (gq p) i 2 else t.next:Ps).i:Nat)/\(t.ae:Int)=((if (eE m).2=false\/h.2=false then t.next.ak (gq p) i 2 else t.next:Ps).ae:Nat)/\cj (az t.err 0) 2 t.err=(if (eE m).2=false\/h.2=false then t.next.ak (gq p) i 2 else t.next:Ps).err/\cj (az t.err 0) (place (gq p) i) t.wh=(if (eE m).2=false\/h.2=false then t.next.ak (gq p) i 2 else t.next:Ps).wh:=λk=>by
    rw[B k,wrE,wrW];exact⟨by rw[XC];rfl,by rw[BV];rfl,rfl,rfl⟩
   refine⟨λk=>⟨G,rfl,rfl,bad (.inl k)⟩,λk=>⟨λk1=>⟨G,rfl,rfl,bad (.inr k1)⟩,λk1=>?_⟩⟩;rw[Zaa (by grind)];exact⟨rfl,rfl,rfl,rfl,rfl,rfl⟩
def Qjr:Ok HW:=okZ [zd,Nj,rb,SI,sw,Ni] Tryz.f149 Qqx ⟨EB,Qjj,xP,Qjh,ux,Qji⟩ Qjq
def KT (p:QL) (i g:Nat) (e w:Int):ze (p,⟨i,0,g,e,w⟩)=fl (gq p) ⟨i,0,g,e,w⟩:=rfl
theorem nQ {l:List Rg} (h:cY l):l.length=1:=by
 grind [cY]
theorem QqG (y:QS×Int) (hy:HZ.pre y):S3 y:=by
 obtain⟨⟨p,s⟩,a0⟩:=y;obtain⟨h0,h1,h2⟩:fv (p,s)/\s.i<=p.1.length/\xQ (gq p) a0:=hy;obtain⟨i,g,es,f⟩:=h0.out;obtain⟨_,_,_,e,w⟩:=s;cases es;simp only at h1;have hx:=KS h2;have hl:=f.hl;have hlen:=f.len;have q:=λ(j k:Nat) (e w:Int) (hj:j<=100000) (hk:k<=4)=>(⟨f.q,hj,hk,hl,hlen⟩:QF p j k).ok e w
 have r0:RB (gq p) 0 ⟨i,0,g,e,w⟩ ⟨i,0,g,e,w⟩:=RB.refl (by grind) f.g;have rs:=r0.skip 94;have en:nn ⟨(i:Int),0,(g:Int),e,w⟩=⟨i,0,g,e,w⟩:=rfl;obtain⟨R,S⟩:∃R,sB ((p,⟨i,0,g,e,w⟩),a0)=R:=⟨_,rfl⟩;have eR:R=dp (gq p) ((gq p).length+2-(aY (gq p) ⟨i,0,g,e,w⟩ 94).i) (aY (gq p) ⟨i,0,g,e,w⟩ 94) [] false:=by
  grind [sB,aq]
 have O:RB (gq p) 0 ⟨i,0,g,e,w⟩ R.1:=by grind [sy]
 have W:oz ((p,⟨i,0,g,e,w⟩),a0)=if R.1.err=0/\(R.2.2=false\/aQ (gq p) R.1 93=false) then R.1.ak (gq p) (ix (gq p) a0) 4 else R.1:=by
  grind [oz,aq]
 have rT:RB (gq p) 0 ⟨i,0,g,e,w⟩ (oz ((p,⟨i,0,g,e,w⟩),a0)):=by
  rw[W];split
  ·exact O.ak _ _
  ·exact O
 have eS:xR ((p,⟨i,0,g,e,w⟩),a0)=((oz ((p,⟨i,0,g,e,w⟩),a0)).next,if aQ (gq p) ⟨i,0,g,e,w⟩ 94 then lB R.2.1 else aL R.2.1):=by
  unfold xR;rw[aq,W,eR];rfl
 have Rl:=O.len;have Rm:=O.gm;have Tl:=rT.len;have Ro:R.1.opens=0:=O.op;have V:(⟨R.1.i,0,R.1.ae,R.1.err,R.1.wh⟩:Ps)=R.1:=by rw[<-Ro]
 have lR:R.2.1.length<=50000:=by
  grind [sy]
 unfold S3;simp only[QaU,dq,Zad,Zan,Zao,ZaX,ZaY,ZaZ,Ic,en,S,aj,aO,aU,dA,bz (n:=i) ω,bz (n:=(oz ((p,⟨i,0,g,e,w⟩),a0)).i) ω,ez0,V];refine⟨⟨⟨q i g e w ω f.g,by decide,by decide⟩,λk=>?_,λk=>?_⟩,⟨⟨(zz (aY (gq p) ⟨i,0,g,e,w⟩ 94),[],false),rfl,rfl,rfl,rfl,rfl,rfl,?_⟩,λx X=>?_⟩,?_,?_⟩
 ·rw[qY k,k];exact⟨rfl,rfl,rfl,rfl,rfl⟩
 ·grind [qZ]
 ·exact⟨⟨ZaF _,by have:=rs.len;show((aY (gq p) ⟨i,0,g,e,w⟩ 94).i:Int)<=(p.1.length:Int);omega⟩,by show((aY (gq p) ⟨i,0,g,e,w⟩ 94).opens:Int)=0;rw[rs.op];rfl,⟨ZaF _,by have:=rs.gm;show((aY (gq p) ⟨i,0,g,e,w⟩ 94).ae:Int)<=4;omega⟩,Zaj _,_,by show p.1.length+2<=(gq p).length+2-_+(aY (gq p) ⟨i,0,g,e,w⟩ 94).i;have:=rs.len;omega,(eR.symm.trans S.symm)⟩
 ·obtain⟨⟨r,xo,D,F,G⟩,l,b⟩:=x;obtain⟨i1,i2,i3,i4,n,i5,i6⟩:=X;have i1:0<=r/\r<=(p.1.length:Int):=i1;have i2:xo=0:=i2;have i3:0<=D/\D<=4:=i3;subst i2;obtain⟨r,rfl⟩:=Zau i1.1;obtain⟨D,rfl⟩:=Zau i3.1;have i4:l.length<=20*r:=i4;have i5:p.1.length+2<=n+r:=i5;have i6:dp (gq p) n ⟨r,0,D,F,G⟩ l b=R:=i6.trans S;have qx:=q r D F G ω ω;have ex:nn ⟨(r:Int),0,(D:Int),F,G⟩=⟨r,0,D,F,G⟩:=rfl;simp only[ex,KT,Zad];have stop:¬(F=0/\r<(gq p).length/\aQ (gq p) ⟨r,0,D,F,G⟩ 93=false)->l=R.2.1/\b=R.2.2/\(r:Int)=(R.1.i:Nat)/\(D:Int)=(R.1.ae:Nat)/\F=R.1.err/\G=R.1.wh:=λh=>by
   have:R=(⟨r,0,D,F,G⟩,l,b):=by
    rw[<-i6];cases n with
    | zero=>rfl
    | succ n=>unfold dp;rw[Zaa h]
   grind
  obtain⟨n,rfl⟩:∃m,n=m+1:=⟨n-1,ω⟩;have cont:∀(d A:Nat) (o B:Int) (J:List Rg),r<d->d<=p.1.length->A<=4->J.length<=20*d->dp (gq p) n ⟨d,0,A,o,B⟩ J true=R->∃z:bO×List Rg×Bool,J=z.2.1/\true=z.2.2/\(d:Int)=z.1.i/\(A:Int)=z.1.ae/\o=z.1.err/\B=z.1.wh/\HY ((p,⟨i,0,g,e,w⟩),a0) z/\p.1.length-z.1.i.toNat<p.1.length-r:=λd A o B J c1 c2 c3 c4 c5=>
   ⟨(⟨d,0,A,o,B⟩,J,true),rfl,rfl,rfl,rfl,rfl,rfl,⟨⟨ZaF _,by grind⟩,rfl,⟨ZaF _,by grind⟩,c4,n,by show p.1.length+2<=n+d;omega,c5.trans S.symm⟩,by grind⟩
  refine⟨λk1=>⟨λk2=>⟨⟨qx,by decide,by decide⟩,λk3=>⟨⟨qx,k2⟩,?_⟩,λk3=>stop λh=>by grind⟩,λk2=>stop λh=>ω⟩,λk1=>stop λh=>k1 h.1⟩;have rx:RB (gq p) 0 ⟨r,0,D,F,G⟩ ⟨r,0,D,F,G⟩:=RB.refl (by grind) (by grind);obtain⟨b1,Z,b3⟩:=vL rx (show r<(gq p).length by omega);have u:dp (gq p) (n+1) ⟨r,0,D,F,G⟩ l b=(let m:=kP (gq p) (fl (gq p) ⟨r,0,D,F,G⟩).1 r (fl (gq p) ⟨r,0,D,F,G⟩).2 l
   if m.2.2 then(m.1,m.2.1,true) else dp (gq p) n m.1 m.2.1 true):=by
   conv=>lhs;unfold dp
   grind
  rw[u] at i6;obtain⟨⟨⟨d,to,A,o,B⟩,a⟩,ht⟩:∃t,fl (gq p) ⟨r,0,D,F,G⟩=t:=⟨_,rfl⟩;rw[ht] at b1 Z b3 i6 ⊢;have t0:to=0:=b1.op;subst t0;have t1:d<=(gq p).length:=b1.len;have U:A<=4:=b1.gm;have t3:r<d:=Z;have t4:a.length<=8:=b3;simp only[ez0,bz (n:=d) ω];have fit:∀(J:List Rg),J.length<=l.length+8->((J.length:Nat):Int)*(8:Nat)<=140737488355328:=λJ h=>by omega
  have H:o≠0\/aQ (gq p) ⟨d,0,A,o,B⟩ 45=false->dp (gq p) n ⟨d,0,A,o,B⟩ (l++a) true=R:=λh=>by
   grind [kP]
  have lA:(l++a).length<=20*d:=by grind
  have qt:=q d A o B ω U;have T:=q (d+1) A o B ω U;refine⟨λk4=>⟨fit _ (by grind),cont _ _ _ _ _ t3 ω U lA (H (.inl k4))⟩,λk4=>⟨⟨qt,by decide,by decide⟩,λk5=>⟨fit _ (by grind),cont _ _ _ _ _ t3 ω U lA (H (.inr k5))⟩,λk5=>?_⟩⟩;have t5:=cQ k5;simp only at t5;have j0:¬(o≠0\/aQ (gq p) ⟨d,0,A,o,B⟩ 45=false):=by grind
  have i7:=i6;unfold kP at i7;simp only at i7;rw[Zaa j0] at i7;have nx:Ps.next ⟨d,0,A,o,B⟩=⟨d+1,0,A,o,B⟩:=rfl;rw[nx] at i7;have C:((gq p).length<=d+1\/aQ (gq p) ⟨d+1,0,A,o,B⟩ 93\/aQ (gq p) ⟨d+1,0,A,o,B⟩ 91\/aQ (gq p) ⟨d+1,0,A,o,B⟩ 45)->fv (p,⟨((d+1:Nat):Int),0,A,o,B⟩)/\l=R.2.1/\true=R.2.2/\((d+1:Nat):Int)=(R.1.i:Nat)/\(A:Int)=(R.1.ae:Nat)/\cj (az o 0) 4 o=R.1.err/\cj (az o 0) (place (gq p) r) B=R.1.wh:=λh=>by
   grind [EH]
  refine⟨λk6=>C (.inl ω),λk6=>⟨⟨T,by decide,by decide⟩,λk7=>C (.inr (.inl k7)),λk7=>⟨⟨T,by decide,by decide⟩,λk8=>C (.inr (.inr (.inl k8))),λk8=>⟨⟨T,by decide,by decide⟩,λk9=>C (.inr (.inr (.inr k9))),λk9=>⟨⟨T,by assumption⟩,?_⟩⟩⟩⟩⟩;have j1:¬((gq p).length<=d+1\/aQ (gq p) ⟨d+1,0,A,o,B⟩ 93\/aQ (gq p) ⟨d+1,0,A,o,B⟩ 91\/aQ (gq p) ⟨d+1,0,A,o,B⟩ 45):=by
   grind
  rw[Zaa j1] at i7;have ru:RB (gq p) 0 ⟨r,0,D,F,G⟩ ⟨d+1,0,A,o,B⟩:=b1.pf (show d<_ by omega);obtain⟨Q,d2,d3⟩:=vL ru (show d+1<(gq p).length by omega);obtain⟨⟨⟨M,vo,N,I,P⟩,c⟩,hv⟩:∃v,fl (gq p) ⟨d+1,0,A,o,B⟩=v:=⟨_,rfl⟩;rw[KT p (d+1) A o B];rw[hv] at Q d2 d3 i7 ⊢;have v0:vo=0:=Q.op;subst v0;have v1:M<=(gq p).length:=Q.len;have Y:N<=4:=Q.gm;have v3:d+1<M:=d2;simp only at i7 ⊢;have qv:=q M N I P ω Y;have g0:∀l:List Rg,(l.getD 0 (0,0)).1=oX l:=λ_=>rfl
  simp only[g0];have E:(I=0/\(cY a=false\/cY c=false\/oX c<oX a))->fv (p,⟨(M:Int),0,N,I,P⟩)/\l=R.2.1/\true=R.2.2/\(M:Int)=(R.1.i:Nat)/\(N:Int)=(R.1.ae:Nat)/\cj (az I 0) 4 I=R.1.err/\cj (az I 0) (place (gq p) r) P=R.1.wh:=λh=>by
   grind [EH]
  have K:¬(I=0/\(cY a=false\/cY c=false\/oX c<oX a))->I=0->dp (gq p) n ⟨M,0,N,I,P⟩ (l++[(oX a,oX c)]) true=R:=λh h2=>by
   grind
  have L:I≠0->dp (gq p) n ⟨M,0,N,I,P⟩ l true=R:=λh=>by
   grind
  refine⟨λm1=>⟨λm2=>E ⟨m1,.inl m2⟩,λm2=>⟨λm3=>E ⟨m1,.inr (.inl m3)⟩,λm3=>⟨by have:=nQ m2;omega,by have:=nQ m3;omega,λm4=>E ⟨m1,.inr (.inr m4)⟩,λm4=>⟨λ_=>⟨by have:=nQ m2;omega,by have:=nQ m3;omega,fit _ (by simp),?_⟩,λh=>absurd m1 h⟩⟩⟩⟩,λm1=>⟨λh=>absurd h m1,λ_=>?_⟩⟩
  ·refine cont _ _ _ _ _ ω ω Y (by simp;omega) (K ?_ m1);grind
  ·exact cont _ _ _ _ _ ω ω Y ω (L m1)
 ·have bad:R.1.err=0/\(R.2.2=false\/aQ (gq p) R.1 93=false)->(R.1.i:Int)=((oz ((p,⟨i,0,g,e,w⟩),a0)).i:Nat)/\(R.1.ae:Int)=((oz ((p,⟨i,0,g,e,w⟩),a0)).ae:Nat)/\cj (az R.1.err 0) 4 R.1.err=(oz ((p,⟨i,0,g,e,w⟩),a0)).err/\cj (az R.1.err 0) a0 R.1.wh=(oz ((p,⟨i,0,g,e,w⟩),a0)).wh:=λh=>by
   rw[W,Zac h,wrE,wrW,hx];simp
  grind
 ·rw[eS];exact⟨λk=>⟨ω,by grind,rfl,rfl,rfl,rfl⟩,λk=>⟨ω,by grind,rfl,rfl,rfl,rfl⟩⟩
def Qjs (h:Ok lP) (a:Ok o_):Ok HZ:=okZ [rb,SX,SH,sw,o_,lP] Tryz.f177 Qqz ⟨xP,Qjo h,Qjg,ux,a,h⟩ QqG
abbrev QD:=QS×Int
def yO (y:QD):Ps->Ps×List Nd:=y5 (gq y.1.1) (20-y.2.toNat) (y.2.toNat+1)
def lT (y:QD):Nat:=5*(20-y.2.toNat)
def Qct (y:QD):Prop:=0<=y.2/\y.2<=20
def S4 (y:QD):Prop:=Qct y/\y.1.2.i<=y.1.1.1.length
def ltP (y:QD):Prop:=Qct y/\y.1.2.i<y.1.1.1.length
def ZA (f:FuncId) (pre:QD->Prop) (F:QD->Ps×List Nd):bf D:=xN f QD (·.1) SE pre (λy=>[Qu9 y.2]) (λy=>zz (F y).1) λy=>.list 7 (F y).2
def e9 (y:QD):Ps×List Nd:=lk (uk (gq y.1.1) (yO y) y.2.toNat (nn y.1.2))
def ij (y:QD):Ps×List Nd:=lk (oy (gq y.1.1) (yO y) y.2.toNat (nn y.1.2))
def j7 (y:QD):Ps×List Nd:=lk (sd (gq y.1.1) (yO y) y.2.toNat (nn y.1.2))
def fV (y:QD):Ps×List Nd:=lk (fG (gq y.1.1) (yO y) y.2.toNat (nn y.1.2))
abbrev QG:=QS×Int×Int
def gd (y:QG):QD:=(y.1,y.2.1)
def qG (y:QG):Ps×List Nd:=lk (jh (gq y.1.1) (yO (gd y)) y.2.1.toNat (nn y.1.2) (ix (gq y.1.1) y.2.2))
def xV:bf D:=ZA 53 S4 e9
def AG:bf D:=ZA 85 S4 ij
def AH:bf D:=ZA 121 ltP j7
def EI:bf D:=ZA 148 ltP fV
def EJ:bf D:=xN 175 QG (·.1) Qcn (λy=>S4 (gd y)/\xQ (gq y.1.1) y.2.2) (λy=>[Qu9 y.2.1,Qu9 y.2.2]) (λy=>zz (qG y).1) λy=>.list 7 (qG y).2
def rfT (n:Nat):vE:=[xV.under (λy=>lT y+4) n,AG.under (λy=>lT y+3) n,AH.under (λy=>lT y+2) n,EI.under (λy=>lT y+1) n,EJ.under (λy=>lT (gd y)) n]
def rfW (l:vE) (i:Nat) (fn:Func) (k:bf D) (a:k.Y->cH D) (n:Nat) (y:k.Y):Prop:=vc (rfT (n+i)++l) fn k a y
def Qcu (p:QL) (s:bO):List (Nat×AO D.E):=qO p s++[(1,.tok 9 77)]
def stI (y:QD) (s:bO):Prop:=fv (y.1.1,s)/\(nn y.1.2).i<=(nn s).i/\(nn s).i<=y.1.1.1.length+30
def KU (y:QD) (x:bO×List (List Nd)):Prop:=stI y x.1/\0<x.2.length/\total x.2+2*x.2.length<=3*((nn x.1).i-(nn y.1.2).i)+3/\∃n,y.1.1.1.length+2<=n+(nn x.1).i/\
 (dJ (gq y.1.1) (yO y) y.2.toNat n (nn x.1) x.2).1=(e9 y).1/\bK 4 (dJ (gq y.1.1) (yO y) y.2.toNat n (nn x.1) x.2).2=(e9 y).2
def AI (y:QD) (x:bO×List (List Nd)):Nat:=y.1.1.1.length+30-(nn x.1).i
def Qcv (y:xV.Y):cH D:=⟨[],[],[(28,⟨bO×List (List Nd),[0,1],λx=>[(5,.grow 9 x.2 1)],[],λx=>Qcu y.1.1 x.1,2,KU y,AI y⟩)],[],1,[]⟩
def Qju (y:xV.Y):Prop:=rfW [rb,Cb] 4 Tryz.f53 xV Qcv (lT y) y
def KV (y:QD) (x:bO×List (List Nd)):Prop:=stI y x.1/\x.2.length<=(nn x.1).i-(nn y.1.2).i/\total x.2<=3*((nn x.1).i-(nn y.1.2).i)/\∃n,y.1.1.1.length+2<=n+(nn x.1).i/\
 (ea (gq y.1.1) (yO y) y.2.toNat n (nn x.1) x.2).1=(ij y).1/\bK 3 (ea (gq y.1.1) (yO y) y.2.toNat n (nn x.1) x.2).2=(ij y).2
def Qcw (y:AG.Y):cH D:=⟨[],[],[(28,⟨bO×List (List Nd),[0,1],λx=>[(5,.grow 9 x.2 1)],[],λx=>Qcu y.1.1 x.1,2,KV y,AI y⟩)],[],1,[]⟩
def Qjv (y:AG.Y):Prop:=rfW [rb,Cb] 3 Tryz.f85 AG Qcw (lT y) y
def wq (y:QD):Ps×Int×Int:=lk (if aQ (gq y.1.1) (fV y).1 42 then((fV y).1.next,0,-1) else if aQ (gq y.1.1) (fV y).1 43 then((fV y).1.next,1,-1) else if aQ (gq y.1.1) (fV y).1 63 then((fV y).1.next,0,1) else ej (gq y.1.1) (fV y).1)
def AJ (y:QD):Prop:=(fV y).1.err=0/\(fV y).1.i<y.1.1.1.length/\(aQ (gq y.1.1) (fV y).1 42\/aQ (gq y.1.1) (fV y).1 43\/aQ (gq y.1.1) (fV y).1 63\/aQ (gq y.1.1) (fV y).1 123)
def Qcx (y:AH.Y):cH D:=⟨[],[],[],[(31,⟨Unit,[0,5],λ_=>[(6,.ptr 1 0)],[],λ_=>qO y.1.1 (zz (wq y).1)++[(1,.cells [Qu9 5,.cF,Qu9 (wq y).2.1,Qu9 (wq y).2.2,.bool false,Qu9 0,Qu9 1] 131 false)],2,λ_=>AJ y,λ_=>0⟩)],1,[]⟩
def Qjw (y:AH.Y):Prop:=rfW [rb,HW] 2 Tryz.f121 AH Qcx (lT y) y
def Qjx (y:EI.Y):Prop:=rfW [zd,sw,HZ,HV,AA,o_] 1 Tryz.f148 EI (λ_=>cX ()) (lT y) y
def Qjy (y:EJ.Y):Prop:=rfW [rb,sw,Nn] 0 Tryz.f175 EJ (λ_=>cX ()) (lT (gd y)) y
def Ie (y:(((List Int)×(List Int))×bO)×Int):Prop:=let g:=(e9 y).1;let n:=((g.i:Nat):Int);let o:=((g.ae:Nat):Int);let h:=(y.1.1.1,y.1.1.2);let f:=(h,bO.mk y.1.2.i 0 y.1.2.ae y.1.2.err y.1.2.wh);let j:=(ij (f,y.2)).1;let k:=λp:Prop=>aa [y.1.1.1,y.1.1.2] p;Iv ((fv f/\S4 (f,y.2))/\(lT (f,y.2)+3)<(lT y+4))/\aa [y.2] (aa [y.1.1.1,y.1.1.2] (aa [y.1.2.i,y.1.2.ae,y.1.2.err,y.1.2.wh] ((∃z:bO×(List (List Nd)),aa [y.2] (([(ij (f,y.2)).2]:List (List Nd))=z.2/\k (((j.i:Nat):Int)=z.1.i/\((j.ae:Nat):Int)=z.1.ae/\j.err=z.1.err/\j.wh=z.1.wh/\(Iv (KU y z)))))/\(∀x:bO×(List (List Nd)),let l:=an .i64 x.1.i 1;let m:=bO.mk x.1.i 0 x.1.ae x.1.err x.1.wh;let q:=aQ (gq h) (nn m) 124;let c:=(h,bO.mk l 0 x.1.ae x.1.err x.1.wh);let a:=(c,y.2);let b:=(ij a).1;let d:=aZ x.2 [(ij a).2];let e:Prop:=(Iv (total x.2<=100000/\x.2.length<=100000)/\aa ([4]:List Int) (aa [x.2] (bK 4 x.2=(e9 y).2/\k (x.1.i=n/\x.1.ae=o/\x.1.err=g.err/\x.1.wh=g.wh/\True))));(Iv (KU y x))->ag (az x.1.err 0) (Iv (fv (h,m)/\(0:Int)<=(124:Int)/\(124:Int)<=(127:Int))/\aa ([124]:List Int) (aa [y.1.1.1,y.1.1.2] (aa [x.1.i,x.1.ae,x.1.err,x.1.wh] (ag q (Iv ((fv c/\S4 a)/\(lT a+3)<(lT y+4))/\aa [y.2] (aa [y.1.1.1,y.1.1.2] (aa [l,x.1.ae,x.1.err,x.1.wh] (fits (ab d) 24/\∃z:bO×(List (List Nd)),aa [y.2] (d=z.2/\k (((b.i:Nat):Int)=z.1.i/\((b.ae:Nat):Int)=z.1.ae/\b.err=z.1.err/\b.wh=z.1.wh/\(Iv (KU y z/\AI y z<AI y x)))))))) (e))))) (e)))))
def S5:∀y,Ie y=Qju y:=λy=>by kernel_rfl
def Ig (y:(((List Int)×(List Int))×bO)×Int):Prop:=let h:=(ij y).1;let k:=(ij y).2;let l:=((h.i:Nat):Int);let m:=((h.ae:Nat):Int);let d:=(y.1.1.1,y.1.1.2);let j:=λp:Prop=>aa [y.1.1.1,y.1.1.2] p;(∃z:bO×(List (List Nd)),aa [y.2] ([]=z.2/\j (y.1.2.i=z.1.i/\y.1.2.ae=z.1.ae/\y.1.2.err=z.1.err/\y.1.2.wh=z.1.wh/\(Iv (KV y z)))))/\(∀x:bO×(List (List Nd)),let n:=ax x.1.i (ab y.1.1.1);let e:=bO.mk x.1.i 0 x.1.ae x.1.err x.1.wh;let o:=!(aQ (gq d) (nn e) 41);let q:=!(aQ (gq d) (nn e) 124);let a:=((d,e),y.2);let b:=(j7 a).1;let f:=aZ x.2 [(j7 a).2];let c:Prop:=(Iv (total x.2<=100000/\x.2.length<=100000)/\aa ([3]:List Int) (aa [x.2] (bK 3 x.2=k/\j (x.1.i=l/\x.1.ae=m/\x.1.err=h.err/\x.1.wh=h.wh/\True))));let g:Prop:=(aa [x.1.err,x.1.i] (aa [y.1.1.1] (c)));(Iv (KV y x))->ag (az x.1.err 0) (ag n (Iv (fv (d,e)/\(0:Int)<=(124:Int)/\(124:Int)<=(127:Int))/\aa ([124]:List Int) (aa [y.1.1.1,y.1.1.2] (aa [x.1.i,x.1.ae,x.1.err,x.1.wh] (ag q (Iv (fv (d,e)/\(0:Int)<=(41:Int)/\(41:Int)<=(127:Int))/\aa ([41]:List Int) (aa [y.1.1.1,y.1.1.2] (aa [x.1.i,x.1.ae,x.1.err,x.1.wh,x.1.err,x.1.i] (aa [y.1.1.1] (ag o (Iv ((fv (d,e)/\ltP a)/\(lT a+2)<(lT y+3))/\aa [y.2] (aa [y.1.1.1,y.1.1.2] (aa [x.1.i,x.1.ae,x.1.err,x.1.wh] (fits (ab f) 24/\∃z:bO×(List (List Nd)),aa [y.2] (f=z.2/\j (((b.i:Nat):Int)=z.1.i/\((b.ae:Nat):Int)=z.1.ae/\b.err=z.1.err/\b.wh=z.1.wh/\(Iv (KV y z/\AI y z<AI y x)))))))) (c)))))) (g))))) (g)) (aa [x.1.err] (c)))
def S6:∀y,Ig y=Qjv y:=λy=>by kernel_rfl
def Ih (y:(((List Int)×(List Int))×bO)×Int):Prop:=let r:=(j7 y).1;let F:=(j7 y).2;let c:=(wq y).1;let I:=((r.i:Nat):Int);let s:=(wq y).2.2;let J:=((r.ae:Nat):Int);let t:=(wq y).2.1;let u:=((c.i:Nat):Int);let D:=((c.ae:Nat):Int);let f:=y.1.1.1;let g:=(f,y.1.1.2);let v:=bO.mk u 0 D c.err c.wh;let w:=(g,bO.mk y.1.2.i 0 y.1.2.ae y.1.2.err y.1.2.wh);let G:=aQ (gq g) (nn v) 63;let h:=(w,y.2);let j:=(fV h).2;let a:=(fV h).1;let k:=((a.ae:Nat):Int);let b:=((a.i:Nat):Int);let H:=aC (ab f) b;let d:=gt 0 f b.toNat;let A:=aZ [Nd.mk 5 [] t s true 0 1] j;let B:=aZ [Nd.mk 5 [] t s false 0 1] j;let e:=(g,bO.mk b 0 k a.err a.wh);let l:=(re e).1;let q:=λp:Prop=>aa [f,y.1.1.2] p;let m:=λp:Prop=>aa [j] (aa ([5]:List Int) p);let E:=λp:Prop=>aa ([0,1]:List Int) (aa [f,y.1.1.2] p);let C:Prop:=(D=J/\c.err=r.err/\c.wh=r.wh/\True);let n:Prop:=(false=false/\E (an .i64 b 1=u/\k=D/\a.err=c.err/\a.wh=c.wh/\(Iv (AJ y))));let o:Prop:=(j=F/\q (b=I/\k=J/\a.err=r.err/\a.wh=r.wh/\True));Iv ((fv w/\ltP h)/\(lT h+1)<(lT y+2))/\aa [y.2] (aa [f,y.1.1.2] (aa [y.1.2.i,y.1.2.ae,y.1.2.err,y.1.2.wh] (ag (!(az a.err 0)) (aa [a.err] (o)) (aa [a.err,b] (aa [f] (ag H (o) ((aC 0 b/\ax b (ab f)/\aa [f] (aa [b,d] (ag (az d 42) (∃z:Unit,m (0=t/\(-1)=s/\n)) (ag (az d 43) (∃z:Unit,m (1=t/\(-1)=s/\n)) (ag (az d 63) (∃z:Unit,m (0=t/\1=s/\n)) (ag (az d 123) (Iv (fv e/\QbM e)/\aa [f,y.1.1.2] (aa [b,k,a.err,a.wh] (∃z:Unit,m ((re e).2.1=t/\(re e).2.2=s/\false=false/\E (((l.i:Nat):Int)=u/\((l.ae:Nat):Int)=D/\l.err=c.err/\l.wh=c.wh/\(Iv (AJ y))))))) (o)))))))/\(∀x:Unit,(Iv (AJ y))->Iv (fv (g,v)/\(0:Int)<=(63:Int)/\(63:Int)<=(127:Int))/\aa ([63]:List Int) (aa [f,y.1.1.2] (aa [u,D,c.err,c.wh] (ag G (fits (ab A) 72/\A=F/\q (an .i64 u 1=I/\C)) (fits (ab B) 72/\B=F/\q (u=I/\C)))))))))))))
def S7:∀y,Ih y=Qjw y:=λy=>by kernel_rfl
def Ii (y:(((List Int)×(List Int))×bO)×Int):Prop:=let f:=(fV y).1;let n:=(fV y).2;let t:=((f.ae:Nat):Int);let u:=((f.i:Nat):Int);let j:=y.1.1.1;let o:=an .i64 y.1.2.i 1;let a:=gt 0 j y.1.2.i.toNat;let w:=(j,y.1.1.2);let e:=place (gq w) y.1.2.i.toNat;let x:=([(a,a)]:List (Int×Int));let b:=(w,bO.mk o 0 y.1.2.ae y.1.2.err y.1.2.wh);let q:=(tx (b,e)).2;let k:=(xR (b,e)).1;let l:=(tx (b,e)).1;let r:=(xR (b,e)).2;let s:=gd (b,(y.2,e));let g:=qG (b,(y.2,e));let v:=λp:Prop=>aa [e] (aa [j,y.1.1.2] (aa [o,y.1.2.ae,y.1.2.err,y.1.2.wh] p));let h:=λp:Prop=>aa [j,y.1.1.2] p;let m:Prop:=(h (o=u/\y.1.2.ae=t/\y.1.2.err=f.err/\y.1.2.wh=f.wh/\True));let c:Prop:=(Iv True/\aa [x] (([xb x]:List Nd)=n/\m));let d:Prop:=(Iv (fv b/\True)/\aa ([4,e]:List Int) (aa [j,y.1.1.2] (aa [o,y.1.2.ae,y.1.2.err,y.1.2.wh] ([]=n/\h (o=u/\y.1.2.ae=t/\cj (az y.1.2.err 0) 4 y.1.2.err=f.err/\cj (az y.1.2.err 0) e y.1.2.wh=f.wh/\True)))));Iv (fv (w,bO.mk y.1.2.i 0 y.1.2.ae y.1.2.err y.1.2.wh)/\y.1.2.i<=(j.length:Int))/\aa [j,y.1.1.2] (aa [y.1.2.i,y.1.2.ae,y.1.2.err,y.1.2.wh] (aC 0 y.1.2.i/\ax y.1.2.i (ab j)/\aa [j] (aa [y.1.2.i,a] (ag (az a 40) (Iv ((fv b/\S4 s/\xQ (gq w) e)/\lT s<(lT y+1))/\aa [y.2,e] (aa [j,y.1.1.2] (aa [o,y.1.2.ae,y.1.2.err,y.1.2.wh] (g.2=n/\h (((g.1.i:Nat):Int)=u/\((g.1.ae:Nat):Int)=t/\g.1.err=f.err/\g.1.wh=f.wh/\True))))) (ag (az a 91) (Iv (fv b/\Qby (b,e))/\v (Iv True/\aa [r] (([xb r]:List Nd)=n/\h (((k.i:Nat):Int)=u/\((k.ae:Nat):Int)=t/\k.err=f.err/\k.wh=f.wh/\True)))) (ag (az a 46) (Iv (1<=2000000)/\aa ([[(10,10)]]:List (List (Int×Int))) (Iv True/\aa [lB [(10,10)]] (([xb (lB [(10,10)])]:List Nd)=n/\m))) (ag (az a 94) (([Nd.mk 7 [] 0 0 false 0 0]:List Nd)=n/\m) (ag (az a 36) (([Nd.mk 8 [] 0 0 false 0 0]:List Nd)=n/\m) (ag (az a 92) (Iv (fv b/\Qby (b,e))/\v (Iv True/\aa [q] (([xb q]:List Nd)=n/\h (((l.i:Nat):Int)=u/\((l.ae:Nat):Int)=t/\l.err=f.err/\l.wh=f.wh/\True)))) (ag (az a 42) (ag (az a 42) (d) (c)) (ag (az a 43) (ag (az a 43) (d) (c)) (ag (az a 63) (ag (az a 63) (d) (c)) (ag (az a 123) (ag (az a 123) (d) (c)) (ag (az a 125) (ag (az a 125) (d) (c)) (ag (az a 93) (ag (az a 93) (d) (c)) (ag (az a 41) (ag (az a 41) (d) (c)) (ag (az a 124) (ag (az a 124) (d) (c)) (ag (az a (-1)) (d) (c)))))))))))))))))))
def S8:∀y,Ii y=Qjx y:=λy=>by kernel_rfl
def Ij (y:(((List Int)×(List Int))×bO)×Int×Int):Prop:=let k:=(qG y).1;let v:=(qG y).2;let z:=((k.i:Nat):Int);let D:=((k.ae:Nat):Int);let c:=y.1.1.1;let l:=an .i64 y.2.1 1;let L:=aC 4 y.1.2.ae;let G:=az y.1.2.err 0;let K:=an .i64 y.1.2.i 2;let H:=an .i64 y.1.2.i 1;let r:=an .i64 y.1.2.ae 1;let a:=(c,y.1.1.2);let b:=gq a;let w:=gt 0 c H.toNat;let f:=bO.mk y.1.2.i 0 y.1.2.ae y.1.2.err y.1.2.wh;let x:=aQ b (nn f) 63;let g:=(a,bO.mk y.1.2.i 0 r y.1.2.err y.1.2.wh);let h:=(a,bO.mk K 0 y.1.2.ae y.1.2.err y.1.2.wh);let d:=(e9 (h,l)).1;let e:=(e9 (g,l)).1;let s:=((d.i:Nat):Int);let A:=((e.ae:Nat):Int);let B:=((d.ae:Nat):Int);let t:=((e.i:Nat):Int);let C:=aZ [Nd.mk 6 [] 0 0 false r 1] (e9 (g,l)).2;let m:=bO.mk t 0 A e.err e.wh;let n:=bO.mk s 0 B d.err d.wh;let I:=aQ b (nn n) 41;let J:=aQ b (nn m) 41;let o:=ite (d.err=0/\I=false) (Ps.ak b (nn n) (ix b y.2.2) 4) (nn n);let q:=ite (e.err=0/\J=false) (Ps.ak b (nn m) (ix b y.2.2) 4) (nn m);let j:=λp:Prop=>aa [c,y.1.1.2] p;let u:Prop:=(cj G y.2.2 y.1.2.wh=k.wh/\True);let E:Prop:=(Iv (fv (a,f)/\True)/\aa ([4,y.2.2]:List Int) (aa [c,y.1.1.2] (aa [y.1.2.i,y.1.2.ae,y.1.2.err,y.1.2.wh] ([]=v/\j (y.1.2.i=z/\y.1.2.ae=D/\cj G 4 y.1.2.err=k.err/\u)))));let F:Prop:=(ag (aC 20 y.2.1) (Iv (fv (a,f)/\True)/\aa ([10,y.2.2]:List Int) (aa [c,y.1.1.2] (aa [y.1.2.i,y.1.2.ae,y.1.2.err,y.1.2.wh] ([]=v/\j (y.1.2.i=z/\y.1.2.ae=D/\cj G 10 y.1.2.err=k.err/\u))))) (ag x (Iv ((fv h/\S4 (h,l))/\(lT (h,l)+4)<(lT (gd y)+0))/\aa [l] (aa [c,y.1.1.2] (aa [K,y.1.2.ae,y.1.2.err,y.1.2.wh] (Iv (fv (a,n)/\s<=90000/\xQ b y.2.2)/\aa [y.2.2] (aa [c,y.1.1.2] (aa [s,B,d.err,d.wh] ((e9 (h,l)).2=v/\j (((o.i+1:Nat):Int)=z/\((o.ae:Nat):Int)=D/\o.err=k.err/\o.wh=k.wh/\True)))))))) (ag L (Iv (fv (a,f)/\True)/\aa ([13,y.2.2]:List Int) (aa [c,y.1.1.2] (aa [y.1.2.i,y.1.2.ae,y.1.2.err,y.1.2.wh] ([]=v/\j (y.1.2.i=z/\y.1.2.ae=D/\cj G 13 y.1.2.err=k.err/\u))))) (Iv ((fv g/\S4 (g,l))/\(lT (g,l)+4)<(lT (gd y)+0))/\aa [l] (aa [c,y.1.1.2] (aa [y.1.2.i,r,y.1.2.err,y.1.2.wh] (Iv (fv (a,m)/\t<=90000/\xQ b y.2.2)/\aa [y.2.2] (aa [c,y.1.1.2] (aa [t,A,e.err,e.wh] (fits (ab C) 72/\C=v/\j (((q.i+1:Nat):Int)=z/\((q.ae:Nat):Int)=D/\q.err=k.err/\q.wh=k.wh/\True)))))))))));Iv (fv (a,f)/\(0:Int)<=(63:Int)/\(63:Int)<=(127:Int))/\aa ([63]:List Int) (aa [c,y.1.1.2] (aa [y.1.2.i,y.1.2.ae,y.1.2.err,y.1.2.wh] (ag x (ag (aC (ab c) H) (aa [y.1.2.i] (aa [c] (E))) (aC 0 H/\ax H (ab c)/\aa [y.1.2.i] (aa [c,c] (aa [y.1.2.i,w] (ag (!(az w 58)) (E) (F)))))) (F))))
def S9:∀y,Ij y=Qjy y:=λy=>by kernel_rfl
end
end sx
end Go.Proofs.YtadfknojfbmjgaaGreat
