/- StreamTurned: a part of the proof. -/
import Derived.Test.YtklaonhcplaofaaGreatC6
set_option linter.all false
namespace Go.Proofs.YtklaonhcplaofaaGreat
open Go.Proofs.Tryz
set_option maxRecDepth 100000
set_option maxHeartbeats 4000000
namespace sx
noncomputable section
open Go Go.RowKit cls syn
variable {G:List Gt}
def Sq (y:(((List Int)×(List Int))×bZ)×Int):Prop:=let d:=(sZ y).1;let q1:=(sZ y).2;let h:=((d.i:Nat):Int);let b:=y.1.1.1;let j:=aC y.1.2.aq 0;let k:=aw .i64 y.1.2.i 1;let m:=aH (ag b) y.1.2.i;let c:=gt 0 b y.1.2.i.toNat;let g:=(b,y.1.1.2);let l:=aO (gq g) y.1.2.i.toNat;let e:=λp:Prop=>aa [b,y.1.1.2] p;let f:Prop:=(y.1.2.ae=((d.ae:Nat):Int)/\cn j 4 y.1.2.aq=d.aq/\cn j y.2 y.1.2.wh=d.wh/\True);let a:Prop:=(e (k=h/\y.1.2.ae=((d.ae:Nat):Int)/\y.1.2.aq=d.aq/\y.1.2.wh=d.wh/\True));aa [y.1.2.i] (aa [b] (ak m (Iv (fc (g,bZ.mk y.1.2.i 0 y.1.2.ae y.1.2.aq y.1.2.wh)/\True)/\aa ([4,y.2]:List Int) (aa [b,y.1.1.2] (aa [y.1.2.i,y.1.2.ae,y.1.2.aq,y.1.2.wh] ([]=q1/\e (y.1.2.i=h/\f))))) (aH 0 y.1.2.i/\ay y.1.2.i (ag b)/\aa [b] (aa [y.1.2.i,c] (ak (aC c (-1)) (Iv (fc (g,bZ.mk y.1.2.i 0 y.1.2.ae y.1.2.aq y.1.2.wh)/\y.1.2.i<=(b.length:Int))/\aa [b,y.1.1.2] (aa [y.1.2.i,y.1.2.ae,y.1.2.aq,y.1.2.wh] (Iv (fc (g,bZ.mk y.1.2.i 0 y.1.2.ae y.1.2.aq y.1.2.wh)/\True)/\aa ([4,l]:List Int) (aa [b,y.1.1.2] (aa [y.1.2.i,y.1.2.ae,y.1.2.aq,y.1.2.wh] ([]=q1/\e (y.1.2.i=h/\y.1.2.ae=((d.ae:Nat):Int)/\cn j 4 y.1.2.aq=d.aq/\cn j l y.1.2.wh=d.wh/\True))))))) (ak (aC c 110) ([(10,10)]=q1/\a) (ak (aC c 116) ([(9,9)]=q1/\a) (ak (aC c 114) ([(13,13)]=q1/\a) (ak (aC c 100) ([(48,57)]=q1/\a) (ak (aC c 115) (Iv (3<=2000000)/\aa ([[(9,10),(13,13),(32,32)]]:List (List (Int×Int))) (aV [(9,10),(13,13),(32,32)]=q1/\a)) (ak (aC c 119) (Iv (4<=2000000)/\aa ([[(48,57),(65,90),(95,95),(97,122)]]:List (List (Int×Int))) (aV [(48,57),(65,90),(95,95),(97,122)]=q1/\a)) (Iv True/\aa [c] (ak (!(gX c)) (Iv (fc (g,bZ.mk k 0 y.1.2.ae y.1.2.aq y.1.2.wh)/\True)/\aa ([4,y.2]:List Int) (aa [b,y.1.1.2] (aa [k,y.1.2.ae,y.1.2.aq,y.1.2.wh] ([]=q1/\e (k=h/\f))))) (([(c,c)]:List (Int×Int))=q1/\a))))))))))))))
def Sr (y:((List Int)×(List Int))×bZ):Prop:=let k:=(yB y).2;let q1:=(yB y).1;let g:=y.2.i.toNat;let l:=((q1.ae:Nat):Int);let m:=((q1.i:Nat):Int);let h:=aw .i64 y.2.i 1;let b:=gt 0 y.1.1 g;let n:=(y.1.1,y.1.2);let c:=aO (gq n) g;let j:=(n,bZ.mk h 0 y.2.ae y.2.aq y.2.wh);let a:=(sZ (j,c)).1;let f:=λp:Prop=>aa [y.1.1,y.1.2] p;let d:Prop:=(([(b,b)]:List (Int×Int))=k/\c=aO (gq y.1) g/\f (h=m/\y.2.ae=l/\y.2.aq=q1.aq/\y.2.wh=q1.wh/\True));let e:Prop:=(Iv (fc j/\True)/\aa ([4,c]:List Int) (aa [y.1.1,y.1.2] (aa [h,y.2.ae,y.2.aq,y.2.wh] ([]=k/\c=aO (gq y.1) g/\f (h=m/\y.2.ae=l/\cn (aC y.2.aq 0) 4 y.2.aq=q1.aq/\cn (aC y.2.aq 0) c y.2.wh=q1.wh/\True)))));Iv (fc (n,bZ.mk y.2.i 0 y.2.ae y.2.aq y.2.wh)/\y.2.i<=(y.1.1.length:Int))/\aa [y.1.1,y.1.2] (aa [y.2.i,y.2.ae,y.2.aq,y.2.wh] (aH 0 y.2.i/\ay y.2.i (ag y.1.1)/\aa [y.1.1] (aa [y.2.i,b] (ak (aC b 92) (Iv (fc j/\Mu (j,c))/\aa [c] (aa [y.1.1,y.1.2] (aa [h,y.2.ae,y.2.aq,y.2.wh] ((sZ (j,c)).2=k/\c=aO (gq y.1) g/\f (((a.i:Nat):Int)=m/\((a.ae:Nat):Int)=l/\a.aq=q1.aq/\a.wh=q1.wh/\True))))) (ak (aC b 91) (ak (aC b 91) (e) (d)) (ak (aC b 45) (ak (aC b 45) (e) (d)) (ak (aC b (-1)) (e) (d))))))))
def Ss (y:(((List Int)×(List Int))×bZ)×Int):Prop:=let b:=aC y.1.2.aq 0;let q1:=a8 (gq y.1.1) (nn y.1.2) 41;let c:=(y.1.1.1,y.1.1.2);let d:=bZ.mk y.1.2.i 0 y.1.2.ae y.1.2.aq y.1.2.wh;let f:=!(a8 (gq c) (nn d) 41);let a:=ite (y.1.2.aq=0/\q1=false) (Ps.ax (gq y.1.1) (nn y.1.2) (ix (gq y.1.1) y.2) 4) (nn y.1.2);let e:Prop:=(aa [y.1.1.1,y.1.1.2] (aw .i64 y.1.2.i 1=((a.i+1:Nat):Int)/\y.1.2.ae=((a.ae:Nat):Int)/\y.1.2.aq=a.aq/\y.1.2.wh=a.wh/\True));ak b (Iv (fc (c,d)/\(0:Int)<=(41:Int)/\(41:Int)<=(127:Int))/\aa ([41]:List Int) (aa [y.1.1.1,y.1.1.2] (aa [y.1.2.i,y.1.2.ae,y.1.2.aq,y.1.2.wh] (ak f (Iv (fc (c,d)/\True)/\aa ([4,y.2]:List Int) (aa [y.1.1.1,y.1.1.2] (aa [y.1.2.i,y.1.2.ae,y.1.2.aq,y.1.2.wh] (aa [y.1.1.1,y.1.1.2] (aw .i64 y.1.2.i 1=((a.i+1:Nat):Int)/\y.1.2.ae=((a.ae:Nat):Int)/\cn b 4 y.1.2.aq=a.aq/\cn b y.2 y.1.2.wh=a.wh/\True))))) (e))))) (e)
def Su (y:((List Int)×(List Int))×bZ):Prop:=let L:=(BB y).1;let q1:=(BB y).2;let M:=(((gv y).i:Nat):Int);let w:=(((gv y).ae:Nat):Int);let q:=(qG y).1;let e:=(nm y).1;let P:=aC (gv y).aq 0;let B:=((y.2.ae.toNat:Nat):Int);let n:=(nm y).2.1;let I:=(nm y).2.2;let f:=((e.ae:Nat):Int);let g:=((e.i:Nat):Int);let j:=aw .i64 y.2.i 1;let h:=aw .i64 M 1;let c:=(y.1.1,y.1.2);let a:=gq c;let d:=aO a y.2.i.toNat;let r:=bZ.mk j 0 y.2.ae y.2.aq y.2.wh;let s:=bZ.mk g 0 f e.aq e.wh;let t:=ga a (nn r);let b:=gp a (nn r);let k:=(eg b).1;let u:=(eg b).2;let N:=!(a8 a (nn s) 125);let l:=((cj a (a.length-j.toNat) j.toNat []).1:Int);let m:=aw .i64 l 1;let C:=bZ.mk l 0 B y.2.aq y.2.wh;let v:=bZ.mk m 0 B y.2.aq y.2.wh;let O:=a8 a (nn C) 44;let J:=λp:Prop=>aa [d] (aa [b] (aa [t] p));let o:=λp:Prop=>aa [y.1.1,y.1.2] p;let K:=λp:Prop=>aa [d] (aa [b] (aa [n] (aa [I] (aa [y.1.1,y.1.2] p))));let D:Prop:=(y.2.aq=e.aq/\y.2.wh=e.wh/\(Iv True));let E:Prop:=(aa [y.1.1,y.1.2] (aa [h,w,(gv y).aq,(gv y).wh] ((Iv True))));let F:Prop:=(∃z:Unit,K (g=M/\f=w/\e.aq=(gv y).aq/\e.wh=(gv y).wh/\(Iv True)));let G:Prop:=(Iv (fc (c,bZ.mk h 0 w (gv y).aq (gv y).wh)/\True)/\aa ([2,d]:List Int) (aa [y.1.1,y.1.2] (aa [h,w,(gv y).aq,(gv y).wh] (k=(qG y).2.1/\L=(qG y).2.2/\o (h=((q.i:Nat):Int)/\w=((q.ae:Nat):Int)/\cn P 2 (gv y).aq=q.aq/\cn P d (gv y).wh=q.wh/\True)))));let H:Prop:=(∃z:Unit,J (b=n/\false=I/\o (l=g/\B=f/\D)));let A:Prop:=(Iv (fc (c,s)/\True)/\aa ([4,d]:List Int) (aa [y.1.1,y.1.2] (aa [g,f,e.aq,e.wh] (∃z:Unit,K (g=M/\f=w/\cn (aC e.aq 0) 4 e.aq=(gv y).aq/\cn (aC e.aq 0) d e.wh=(gv y).wh/\(Iv True))))));Iv (fc (c,bZ.mk y.2.i 0 y.2.ae y.2.aq y.2.wh)/\y.2.i<=(y.1.1.length:Int))/\aa [y.1.1,y.1.2] (aa [y.2.i,y.2.ae,y.2.aq,y.2.wh] (Iv (fc (c,r)/\True)/\aa [y.1.1,y.1.2] (aa [j,y.2.ae,y.2.aq,y.2.wh] ((ak t (Iv (fc (c,C)/\(0:Int)<=(44:Int)/\(44:Int)<=(127:Int))/\aa ([44]:List Int) (aa [y.1.1,y.1.2] (aa [l,B,y.2.aq,y.2.wh] (ak O (Iv (fc (c,v)/\True)/\aa [y.1.1,y.1.2] (aa [m,B,y.2.aq,y.2.wh] (∃z:Unit,J (gp a (nn v)=n/\(!(ga a (nn v)))=I/\o (((cj a (a.length-m.toNat) m.toNat []).1:Int)=g/\((B.toNat:Nat):Int)=f/\D))))) (H))))) (H))/\(∀x:Unit,(Iv True)->(ak (!t) (A) (Iv (fc (c,s)/\(0:Int)<=(125:Int)/\(125:Int)<=(127:Int))/\aa ([125]:List Int) (aa [y.1.1,y.1.2] (aa [g,f,e.aq,e.wh] (ak N (A) (ak (!I) (Iv True/\aa [n] (aa [b] (ak (gY n b) (A) (F)))) (F)))))))/\(∀Q:Unit,(Iv True)->Iv (kt b)/\aa [b] (Iv (kt n)/\aa [n] ((ak I (∃z:Unit,aa [d,k] (aa [u] ((-1)=L/\true=q1/\E))) (∃z:Unit,aa [d,k] (aa [u] ((eg n).1=L/\(eg n).2=q1/\E))))/\(∀R:Unit,(Iv True)->ak (!u) (G) (ak (!q1) (G) (k=(qG y).2.1/\L=(qG y).2.2/\o (h=((q.i:Nat):Int)/\w=((q.ae:Nat):Int)/\(gv y).aq=q.aq/\(gv y).wh=q.wh/\True))))))))))))
def Sv (y:(((List Int)×(List Int))×bZ)×Int):Prop:=let q0:=(((nU y).i:Nat):Int);let q1:=(((nU y).ae:Nat):Int);let q2:=(xi y).1;let h:=(rU y).1;let v:=(rU y).2.1;let F:=((h.i:Nat):Int);let d:=y.1.1.1;let G:=((h.ae:Nat):Int);let q8:=(rU y).2.2;let O:=d.length;let H:=aC h.aq 0;let q:=a8 (gq y.1.1) (nn y.1.2) 94;let o:=bj (gq y.1.1) (nn y.1.2) 94;let P:=((o.ae:Nat):Int);let I:=((o.i:Nat):Int);let j:=(d,y.1.1.2);let k:=gq j;let Q:=bZ.mk y.1.2.i 0 y.1.2.ae y.1.2.aq y.1.2.wh;let J:=bZ.mk F 0 G h.aq h.wh;let q19:=a8 k (nn Q) 94;let q20:=!(a8 k (nn J) 93);let r21:=λp:Prop=>aa [q] (aa [v] (aa [d,y.1.1.2] p));let n:=λp:Prop=>aa [y.2] (aa [q] p);let g:=λp:Prop=>aa [d,y.1.1.2] p;let R:Prop:=(y.1.2.ae=P/\y.1.2.aq=o.aq/\y.1.2.wh=o.wh/\(Iv True));let S:Prop:=(g (aw .i64 q0 1=((q2.i:Nat):Int)/\q1=((q2.ae:Nat):Int)/\(nU y).aq=q2.aq/\(nU y).wh=q2.wh/\True));let T:Prop:=(∃z:Unit,r21 (F=q0/\G=q1/\h.aq=(nU y).aq/\h.wh=(nU y).wh/\(Iv True)));let U:Prop:=(Iv (fc (j,J)/\True)/\aa ([4,y.2]:List Int) (aa [d,y.1.1.2] (aa [F,G,h.aq,h.wh] (∃z:Unit,r21 (F=q0/\G=q1/\cn H 4 h.aq=(nU y).aq/\cn H y.2 h.wh=(nU y).wh/\(Iv True))))));(Iv (fc (j,Q)/\(0:Int)<=(94:Int)/\(94:Int)<=(127:Int))/\aa ([94]:List Int) (aa [d,y.1.1.2] (aa [y.1.2.i,y.1.2.ae,y.1.2.aq,y.1.2.wh] (ak q19 (∃z:Unit,aa [y.2] (true=q/\g (aw .i64 y.1.2.i 1=I/\R))) (∃z:Unit,aa [y.2] (false=q/\g (y.1.2.i=I/\R)))))))/\(∀x:Unit,(Iv True)->((∃z:bZ×(List (Int×Int))×Bool,n ([]=z.2.1/\false=z.2.2/\g (I=z.1.i/\P=z.1.ae/\o.aq=z.1.aq/\o.wh=z.1.wh/\(Iv (GX y z)))))/\(∀b:bZ×(List (Int×Int))×Bool,let q28:=ay b.1.i (ag d);let V:=bZ.mk b.1.i 0 b.1.ae b.1.aq b.1.wh;let w:=aO k b.1.i.toNat;let r:=(j,V);let q32:=!(a8 k (nn V) 93);let m:=(yB r).2;let a:=(yB r).1;let e:=((a.ae:Nat):Int);let A:=((a.i:Nat):Int);let K:=aC a.aq 0;let f:=aw .i64 A 1;let B:=(gt (0,0) m 0).1;let q40:=aH (ag d) f;let W:=bZ.mk A 0 e a.aq a.wh;let C:=bZ.mk f 0 e a.aq a.wh;let q43:=!(a8 k (nn W) 45);let l:=(j,C);let q45:=a8 k (nn C) 45;let q46:=a8 k (nn C) 91;let q47:=a8 k (nn C) 93;let c:=(yB l).1;let s:=(yB l).2;let t:=((c.i:Nat):Int);let u:=((c.ae:Nat):Int);let D:=aC c.aq 0;let E:=(gt (0,0) s 0).1;let X:=bC b.2.1 [(B,E)];let L:Prop:=(∃z:Unit,n (b.2.1=v/\b.2.2=q8/\g (b.1.i=F/\b.1.ae=G/\b.1.aq=h.aq/\b.1.wh=h.wh/\(Iv True))));let Y:Prop:=(bx (ag (bC b.2.1 m)) 8/\∃z:bZ×(List (Int×Int))×Bool,n (bC b.2.1 m=z.2.1/\true=z.2.2/\g (A=z.1.i/\e=z.1.ae/\a.aq=z.1.aq/\a.wh=z.1.wh/\(Iv (GX y z/\(O-z.1.i.toNat)<(O-b.1.i.toNat))))));let Z:Prop:=(Iv (fc l/\True)/\aa ([4,w]:List Int) (aa [d,y.1.1.2] (aa [f,e,a.aq,a.wh] (∃z:Unit,n (b.2.1=v/\true=q8/\g (f=F/\e=G/\cn K 4 a.aq=h.aq/\cn K w a.wh=h.wh/\(Iv True)))))));let M:Prop:=(aa [f] (aa [d] (Z)));let q59:Prop:=(ak D (Tt 1 (ay 0 (ag m)/\Tt 1 (ay 0 (ag s)/\bx (ag X) 8/\aa [B,E] (∃z:bZ×(List (Int×Int))×Bool,n (X=z.2.1/\true=z.2.2/\g (t=z.1.i/\u=z.1.ae/\c.aq=z.1.aq/\c.wh=z.1.wh/\(Iv (GX y z/\(O-z.1.i.toNat)<(O-b.1.i.toNat))))))))) (∃z:bZ×(List (Int×Int))×Bool,n (b.2.1=z.2.1/\true=z.2.2/\g (t=z.1.i/\u=z.1.ae/\c.aq=z.1.aq/\c.wh=z.1.wh/\(Iv (GX y z/\(O-z.1.i.toNat)<(O-b.1.i.toNat)))))));let N:Prop:=(Iv (fc (j,bZ.mk t 0 u c.aq c.wh)/\True)/\aa ([4,w]:List Int) (aa [d,y.1.1.2] (aa [t,u,c.aq,c.wh] (∃z:Unit,n (b.2.1=v/\true=q8/\g (t=F/\u=G/\cn D 4 c.aq=h.aq/\cn D w c.wh=h.wh/\(Iv True)))))));(Iv (GX y b))->ak (aC b.1.aq 0) (ak q28 (Iv (fc r/\(0:Int)<=(93:Int)/\(93:Int)<=(127:Int))/\aa ([93]:List Int) (aa [d,y.1.1.2] (aa [b.1.i,b.1.ae,b.1.aq,b.1.wh,b.1.aq,b.1.i] (aa [d] (ak q32 (Iv (fc r/\Sk r)/\aa [d,y.1.1.2] (aa [b.1.i,b.1.ae,b.1.aq,b.1.wh] (ak (!K) (Y) (Iv (fc (j,W)/\(0:Int)<=(45:Int)/\(45:Int)<=(127:Int))/\aa ([45]:List Int) (aa [d,y.1.1.2] (aa [A,e,a.aq,a.wh] (ak q43 (Y) (ak q40 (M) (Iv (fc l/\(0:Int)<=(93:Int)/\(93:Int)<=(127:Int))/\aa ([93]:List Int) (aa [d,y.1.1.2] (aa [f,e,a.aq,a.wh] (ak q47 (M) (Iv (fc l/\(0:Int)<=(91:Int)/\(91:Int)<=(127:Int))/\aa ([91]:List Int) (aa [d,y.1.1.2] (aa [f,e,a.aq,a.wh] (ak q46 (M) (Iv (fc l/\(0:Int)<=(45:Int)/\(45:Int)<=(127:Int))/\aa ([45]:List Int) (aa [d,y.1.1.2] (aa [f,e,a.aq,a.wh,f] (aa [d] (ak q45 (Z) (Iv (fc l/\Sk l)/\aa [d,y.1.1.2] (aa [f,e,a.aq,a.wh] (ak D (Iv True/\aa [m] (ak (!(db m)) (aa [c.aq] (N)) (Iv True/\aa [s] (ak (!(db s)) (aa [c.aq] (N)) (Tt 1 (ay 0 (ag m)/\Tt 1 (ay 0 (ag s)/\aa [c.aq,B,E] (ak (ay E B) (N) (q59))))))))) (aa [c.aq] (q59)))))))))))))))))))))))))) (L)))))) (aa [b.1.aq,b.1.i] (aa [d] (L)))) (aa [b.1.aq] (L))))/\(∀b:Unit,(Iv True)->(ak H (ak (!q8) (U) (Iv (fc (j,J)/\(0:Int)<=(93:Int)/\(93:Int)<=(127:Int))/\aa ([93]:List Int) (aa [d,y.1.1.2] (aa [F,G,h.aq,h.wh] (ak q20 (U) (T)))))) (T))/\(∀x2:Unit,(Iv True)->ak q (Iv (v.length<=2000000)/\aa [v] (kQ v=(xi y).2/\S)) (Iv (v.length<=2000000)/\aa [v] (aV v=(xi y).2/\S)))))
theorem Mx (c:∀g∈G,1<=g.2/\g.2<=4) {i j:Nat} (hi:i<=G.length) (e:j<=G.length) (h:aO G i=aO G j):i=j:=by
 have step:∀d k,k+d<=G.length->aO G k+d<=aO G (k+d):=λd=>by
  induction d with
  | zero=>intro k _;simp
  | succ d b=>
   intro k hk;have:=b k ω;grind [gR]
 rcases Zcs i j with a | a | a
 ·have:=step (j-i) i ω;rw[show i+(j-i)=j by omega] at this;omega
 ·exact a
 ·have:=step (i-j) j ω;rw[show j+(i-j)=i by omega] at this;omega
theorem DR (a:∀g∈G,1<=g.2/\g.2<=4) {i:Nat} (hi:i<=G.length):ix G (aO G i)=i:=by
 have h:∃j,j<=G.length/\aO G j=aO G i:=⟨i,hi,rfl⟩;unfold ix;grind [Mx]
theorem JW {a:Int} (h:xh G a):aO G (ix G a)=a:=by
 have⟨i,h1,b⟩:=h;have h:∃j,j<=G.length/\aO G j=a:=⟨i,h1,b.symm⟩;unfold ix;grind
theorem wrE (G:List Gt) (s:Ps) (f:Nat) (e:Int):(s.ax G f e).aq=cn (aC s.aq 0) e s.aq:=by
 grind [Ps.ax,cn]
theorem wrW (G:List Gt) (s:Ps) (f:Nat) (e:Int):(s.ax G f e).wh=cn (aC s.aq 0) (aO G f) s.wh:=by
 grind [Ps.ax,cn]
structure QF (p:QL) (i g:Nat):Prop where
 q:Bw p
 i:i<=100000
 g:g<=4
 hl:(gq p).length=p.1.length
 len:p.1.length<=1000
variable {p:QL} {i:Nat}
variable {g:Nat}
def fc.out {s:bZ} (h:fc (p,s)):∃(i g:Nat),s=⟨i,0,g,s.aq,s.wh⟩/\QF p i g:=by
 obtain⟨h1,f,j,k⟩:Bw p/\(0<=s.i/\s.i<=100000)/\s.an=0/\0<=s.ae/\s.ae<=4:=h;have⟨i,hi⟩:=Zau f.1;have⟨g,l⟩:=Zau k.1;have⟨a,b,c,d,e⟩:=s;simp only at*
 subst hi l j;exact⟨i,g,rfl,h1,ω,ω,xf p,h1.len⟩
def QF.ok (h:QF p i g) (e w:Int):fc (p,⟨i,0,g,e,w⟩):=⟨h.q,⟨ZaF _,by have:=h.i;show(i:Int)<=_;omega⟩,rfl,ZaF _,by have:=h.g;show(g:Int)<=_;omega⟩
def QF.to (h:QF p i g) {s t:Ps} {k:Nat} (r:RB (gq p) k s t) (hk:k<=50000):QF p t.i t.ae:=⟨h.q,by have:=r.len;have:=h.hl;have:=h.len;omega,r.gm,h.hl,h.len⟩
def ez0 (a c:Nat) (e w:Int):nn ⟨a,0,c,e,w⟩=⟨a,0,c,e,w⟩:=rfl
def G0 {α β:Type} (p:α×β):(p.1,p.2)=p:=rfl
theorem bK {n:Nat} (h:n<=1000000):aw .i64 (n:Int) 1=((n+1:Nat):Int):=JS h
theorem Qnx (y:QS×Int) (u:GV.pre y):Sq y:=by
 have⟨⟨p,s⟩,a⟩:=y;obtain⟨h0,h1,m⟩:fc (p,s)/\s.i<=p.1.length/\xh (gq p) a:=u;have⟨i,g,es,f⟩:=h0.out;have⟨_,_,_,e,w⟩:=s;cases es;simp only at h1;have t:=JW m;have hl:=f.hl;have hlen:=f.len;have ok:=λj (o:j<=100000)=>(⟨f.q,o,f.g,hl,hlen⟩:QF p j g).ok e w
 have l:sZ ((p,⟨i,0,g,e,w⟩),a)=rH (gq p) ⟨i,0,g,e,w⟩ (ix (gq p) a):=rfl;unfold Sq;simp only[bI,bH,av,cS,Zad,Zan,Zao,bK (n:=i) ω,Int.ofNat_le,Zd0];rw[l];unfold rH;have wr:∀(j c:Nat) (b:Int),b=aO (gq p) c->((j:Int)=((Ps.ax (gq p) ⟨j,0,g,e,w⟩ c 4).i:Nat)/\(g:Int)=((Ps.ax (gq p) ⟨j,0,g,e,w⟩ c 4).ae:Nat)/\cn (aC e 0) 4 e=(Ps.ax (gq p) ⟨j,0,g,e,w⟩ c 4).aq/\cn (aC e 0) b w=(Ps.ax (gq p) ⟨j,0,g,e,w⟩ c 4).wh):=λj c b d=>by
  rw[wrE,wrW,<-d];simp
 refine⟨λk=>?_,λk=>⟨ZaF _,k,λk1=>?_,λk1=>?_⟩⟩
 ·grind
 ·have v:=f.q.p0 i;rcases f.q.rune (i:=i) ω with⟨_,h⟩ | ⟨d,_⟩
  ·omega
  ·grind
 ·rcases f.q.rune (i:=i) ω with⟨d,h⟩ | ⟨_,h,_⟩
  ·rw[Zaa (by grind),Zaa (by grind)];dsimp only;rw[h];generalize aJ (gq p) i=r;refine⟨λk2=>by simp_all,λk2=>?_⟩;rw[Zaa k2];refine⟨λk2=>by simp_all,λk2=>?_⟩;rw[Zaa k2];refine⟨λk2=>by simp_all,λk2=>?_⟩;rw[Zaa k2];refine⟨λk2=>by simp_all,λk2=>?_⟩;rw[Zaa k2];refine⟨λk2=>by simp_all,λk2=>?_⟩;rw[Zaa k2];refine⟨λk2=>by simp_all,λk2=>?_⟩;rw[Zaa k2];refine⟨λk2=>?_,λk2=>?_⟩
   ·rw[Zaa (by grind)];exact⟨(ok (i+1) ω),rfl,wr (i+1) _ a t.symm⟩
   ·simp_all
  ·omega
def QaF (h:Ok lg):Ok GV:=okZ [rR,yz,lg,R8] f214 (λ_=>ew ()) ⟨tR,DP,h,QgF⟩ Qnx
theorem DS (G:List Gt) (j g a:Nat) (e w er b:Int) (c:b=aO G a):(j:Int)=((Ps.ax G ⟨j,0,g,e,w⟩ a er).i:Nat)/\(g:Int)=((Ps.ax G ⟨j,0,g,e,w⟩ a er).ae:Nat)/\cn (aC e 0) er e=(Ps.ax G ⟨j,0,g,e,w⟩ a er).aq/\cn (aC e 0) b w=(Ps.ax G ⟨j,0,g,e,w⟩ a er).wh:=by
 rw[wrE,wrW,<-c];simp
theorem Qny (y:QS) (l:Sl.pre y):Sr y:=by
 have⟨p,s⟩:=y;obtain⟨h0,h1⟩:fc (p,s)/\s.i<p.1.length:=l;have⟨i,g,es,f⟩:=h0.out;have⟨_,_,_,e,w⟩:=s;cases es;simp only at h1;have hl:=f.hl;have hlen:=f.len;have ok:=λj (d:j<=100000)=>(⟨f.q,d,f.g,hl,hlen⟩:QF p j g).ok e w
 have c:yB (p,⟨i,0,g,e,w⟩)=eV (gq p) ⟨i,0,g,e,w⟩:=rfl;have b:sZ ((p,⟨((i+1:Nat):Int),0,g,e,w⟩),aO (gq p) i)=rH (gq p) ⟨i+1,0,g,e,w⟩ i:=by
  unfold sZ;rw[DR f.q.n ω];rfl
 unfold Sr;simp only[bI,bH,av,cS,Zad,bK (n:=i) ω,Zd0];rw[b,c];unfold eV;refine⟨⟨ok i f.i,ω⟩,ZaF _,ω,?_⟩;rcases f.q.rune (i:=i) ω with⟨a,h⟩ | ⟨a,h,_⟩
 ·rw[Zaa (by grind)];dsimp only;rw[h];have m:=f.q.p0 i;generalize aJ (gq p) i=r at*
  refine⟨λk=>?_,λk=>?_⟩
  ·rw[Zac k];exact⟨⟨ok (i+1) ω,by assumption,i,by grind,rfl⟩,rfl,rfl,rfl,rfl,rfl⟩
  ·rw[Zaa k];have A:(r=91\/r=45)->fc (p,⟨((i+1:Nat):Int),0,g,e,w⟩)/\[]=(if r=91\/r=45 then((Ps.next ⟨i,0,g,e,w⟩).ax (gq p) i 4,[]) else(Ps.next ⟨i,0,g,e,w⟩,[(r,r)]):Ps×List Rg).2/\((i+1:Nat):Int)=((if r=91\/r=45 then((Ps.next ⟨i,0,g,e,w⟩).ax (gq p) i 4,[]) else(Ps.next ⟨i,0,g,e,w⟩,[(r,r)]):Ps×List Rg).1.i:Nat)/\(g:Int)=((if r=91\/r=45 then((Ps.next ⟨i,0,g,e,w⟩).ax (gq p) i 4,[]) else(Ps.next ⟨i,0,g,e,w⟩,[(r,r)]):Ps×List Rg).1.ae:Nat)/\cn (aC e 0) 4 e=(if r=91\/r=45 then((Ps.next ⟨i,0,g,e,w⟩).ax (gq p) i 4,[]) else(Ps.next ⟨i,0,g,e,w⟩,[(r,r)]):Ps×List Rg).1.aq/\cn (aC e 0) (aO (gq p) i) w=(if r=91\/r=45 then((Ps.next ⟨i,0,g,e,w⟩).ax (gq p) i 4,[]) else(Ps.next ⟨i,0,g,e,w⟩,[(r,r)]):Ps×List Rg).1.wh:=λh=>by
    rw[Zac h];exact⟨ok (i+1) ω,rfl,DS (gq p) (i+1) g i e w 4 _ rfl⟩
   grind [Ps.next]
 ·rw[Zac (a),h];refine⟨λk=>ω,λ_=>⟨λk=>ω,λ_=>⟨λk=>ω,λ_=>⟨λ_=>?_,λk=>absurd rfl k⟩⟩⟩⟩;exact⟨ok (i+1) ω,rfl,DS (gq p) (i+1) g i e w 4 _ rfl⟩
def QgN (h:Ok lg):Ok Sl:=okZ [yz,GV,rR] f233 (λ_=>ew ()) ⟨DP,QaF h,tR⟩ Qny
theorem Qnz (y:QS×Int) (c:Mw.pre y):Ss y:=by
 have⟨⟨p,s⟩,a⟩:=y;obtain⟨h0,h1,b⟩:fc (p,s)/\s.i<=90000/\xh (gq p) a:=c;have⟨i,g,es,f⟩:=h0.out;have⟨_,_,_,e,w⟩:=s;cases es;simp only at h1;have d:=JW b;unfold Ss;simp only[bH,nJ,l9,bK (n:=i) ω,Zan,Zao];have ok:=f.ok e w;have c1:∀x:Int,x=41->(0:Int)<=41/\(41:Int)<=127:=λ_ _=>by decide
 have en:nn ⟨↑i,0,↑g,e,w⟩=⟨i,0,g,e,w⟩:=rfl;rw[en];have st:¬(e=0/\a8 (gq p) ⟨i,0,g,e,w⟩ 41=false)->(((i+1:Nat):Int)=(((if e=0/\a8 (gq p) ⟨i,0,g,e,w⟩ 41=false then Ps.ax (gq p) ⟨i,0,g,e,w⟩ (ix (gq p) a) 4 else⟨i,0,g,e,w⟩:Ps).i+1:Nat):Int))/\↑g=((if e=0/\a8 (gq p) ⟨i,0,g,e,w⟩ 41=false then Ps.ax (gq p) ⟨i,0,g,e,w⟩ (ix (gq p) a) 4 else⟨i,0,g,e,w⟩:Ps).ae:Nat)/\e=(if e=0/\a8 (gq p) ⟨i,0,g,e,w⟩ 41=false then Ps.ax (gq p) ⟨i,0,g,e,w⟩ (ix (gq p) a) 4 else⟨i,0,g,e,w⟩:Ps).aq/\w=(if e=0/\a8 (gq p) ⟨i,0,g,e,w⟩ 41=false then Ps.ax (gq p) ⟨i,0,g,e,w⟩ (ix (gq p) a) 4 else⟨i,0,g,e,w⟩:Ps).wh:=λh=>by grind
 grind [DS]
def QgO:Ok Mw:=okZ [qF,rR] f232 (λ_=>ew ()) ⟨xg,tR⟩ Qnz
theorem QgP (y:QS) (N:GW.pre y):Su y:=by
 have⟨p,s⟩:=y;obtain⟨h0,h1⟩:fc (p,s)/\s.i<p.1.length:=N;have⟨i,g,es,f⟩:=h0.out;have⟨_,_,_,e,w⟩:=s;cases es;simp only at h1;have hl:=f.hl;have hlen:=f.len;have hi:i<(gq p).length:=ω;obtain⟨d,E⟩:∃d,cj (gq p) ((gq p).length-(i+1)) (i+1) []=d:=⟨_,rfl⟩;have D:dg (gq p) ⟨i+1,0,g,e,w⟩=⟨d.1,0,g,e,w⟩:=by rw[<-E];rfl
 have P:RB (gq p) 0 ⟨i,0,g,e,w⟩ ⟨i,0,g,e,w⟩:=RB.refl (by grind) f.g;have G:RB (gq p) 0 ⟨i,0,g,e,w⟩ ⟨d.1,0,g,e,w⟩:=by rw[<-D];exact uY (P.oQ hi)
 obtain⟨ok,c⟩:∃ok,ga (gq p) ⟨i+1,0,g,e,w⟩=ok:=⟨_,rfl⟩;obtain⟨m,A⟩:∃m,gp (gq p) ⟨i+1,0,g,e,w⟩=m:=⟨_,rfl⟩;have gm:kt m:=by grind [pC]
 have u:nm (p,⟨i,0,g,e,w⟩)=if ok/\a8 (gq p) ⟨d.1,0,g,e,w⟩ 44=true then(dg (gq p) ⟨d.1+1,0,g,e,w⟩,gp (gq p) ⟨d.1+1,0,g,e,w⟩,!ga (gq p) ⟨d.1+1,0,g,e,w⟩) else(⟨d.1,0,g,e,w⟩,m,false):=by
  rw[<-c,<-A];unfold nm;rw[aI];have r:dg (gq (p,(⟨i,0,g,e,w⟩:bZ)).1) (nn (p,(⟨i,0,g,e,w⟩:bZ)).2).next=⟨d.1,0,g,e,w⟩:=D;rw[r];rfl
 obtain⟨j,n,op,l,C,J⟩:∃j n op,nm (p,⟨i,0,g,e,w⟩)=(⟨j,0,g,e,w⟩,n,op)/\RB (gq p) 0 ⟨i,0,g,e,w⟩ ⟨j,0,g,e,w⟩/\kt n:=by
  rw[u];split
  ·rename_i L
   exact⟨_,_,_,rfl,uY (G.oQ (cW L.2)),pC _ _⟩
  ·grind
 have v:gv (p,⟨i,0,g,e,w⟩)=if ok=false\/a8 (gq p) ⟨j,0,g,e,w⟩ 125=false\/(op=false/\gY n m) then Ps.ax (gq p) ⟨j,0,g,e,w⟩ i 4 else⟨j,0,g,e,w⟩:=by
  unfold gv;rw[aI,l,<-c,<-A];rfl
 have H:BB (p,⟨i,0,g,e,w⟩)=if op then(-1,true) else eg n:=by
  unfold BB;rw[aI,l]
 have I:qG (p,⟨i,0,g,e,w⟩)=(if (eg m).2=false\/(BB (p,⟨i,0,g,e,w⟩)).2=false then(gv (p,⟨i,0,g,e,w⟩)).next.ax (gq p) i 2 else(gv (p,⟨i,0,g,e,w⟩)).next,(eg m).1,(BB (p,⟨i,0,g,e,w⟩)).1):=by
  have r:d_ (gq p) ⟨i,0,g,e,w⟩=jk (gq p) i (nm (p,⟨i,0,g,e,w⟩)).1 m (nm (p,⟨i,0,g,e,w⟩)).2.1 ok (nm (p,⟨i,0,g,e,w⟩)).2.2:=by
   grind [d_,Ps.next]
  unfold qG;rw[aI];refine r.trans ?_;rw[l,v,H];rfl
 have Q:RB (gq p) 0 ⟨i,0,g,e,w⟩ (gv (p,⟨i,0,g,e,w⟩)):=by
  rw[v];split
  ·exact C.ax _ _
  ·exact C
 have R:(gv (p,⟨i,0,g,e,w⟩)).ae=g:=by rw[v];split<;>simp
 have o:=λ(x:Nat) (M:x<=100000)=>(⟨f.q,M,f.g,hl,hlen⟩:QF p x g).ok e w
 have O:=C.len;have dl:=G.len;have V:=Q.len;simp only at O dl;unfold Su;simp only[bH,nJ,l9,bK (n:=i) ω,Zad,Zan,Zao,ZaX,ZaY,ZaZ,ez2,ez0,G0,E,c,A];have T:ok->a8 (gq p) ⟨d.1,0,g,e,w⟩ 44->gp (gq p) ⟨d.1+1,0,g,e,w⟩=n/\(!ga (gq p) ⟨d.1+1,0,g,e,w⟩)=op/\(cj (gq p) ((gq p).length-(d.1+1)) (d.1+1) []).1=j:=λa b=>by
  rw[Zac ⟨a,b⟩,l] at u;injection u with h1 z
  injection z with z K
  exact⟨z.symm,K.symm,(ZaR Ps.i h1).symm⟩
 have U:¬(ok/\a8 (gq p) ⟨d.1,0,g,e,w⟩ 44)->m=n/\false=op/\d.1=j:=λa=>by
  grind
 simp only[l,bK (n:=d.1) ω,ez0,and_self];refine⟨⟨(f.ok e w),ω⟩,o _ ω,⟨λk=>⟨⟨o _ ω,by decide,by decide⟩,λk1=>⟨?_,?_⟩,λk1=>?_⟩,λk=>?_⟩,?_,?_⟩
 ·grind
 ·grind
 ·grind
 ·grind
 ·have S:(ok=false\/a8 (gq p) ⟨j,0,g,e,w⟩ 125=false\/(op=false/\gY n m))->fc (p,⟨j,0,g,e,w⟩)/\↑j=((gv (p,⟨i,0,g,e,w⟩)).i:Nat)/\↑g=((gv (p,⟨i,0,g,e,w⟩)).ae:Nat)/\cn (aC e 0) 4 e=(gv (p,⟨i,0,g,e,w⟩)).aq/\cn (aC e 0) (aO (gq p) i) w=(gv (p,⟨i,0,g,e,w⟩)).wh:=λh=>by
   grind [DS]
  grind
 ·refine⟨gm,J,⟨λk=>?_,λk=>?_⟩,?_⟩
  ·grind
  ·grind
  ·have F:fc (p,⟨(((gv (p,⟨i,0,g,e,w⟩)).i+1:Nat):Int),0,((gv (p,⟨i,0,g,e,w⟩)).ae:Nat),(gv (p,⟨i,0,g,e,w⟩)).aq,(gv (p,⟨i,0,g,e,w⟩)).wh⟩):=(⟨f.q,ω,by rw[R];exact f.g,hl,hlen⟩:QF p _ _).ok _ _;rw[bK ω,I];generalize gv (p,⟨i,0,g,e,w⟩)=t at*
   generalize BB (p,⟨i,0,g,e,w⟩)=h at*
   have B:(eg m).2=false\/h.2=false->(if (eg m).2=false\/h.2=false then t.next.ax (gq p) i 2 else t.next)=t.next.ax (gq p) i 2:=λk=>Zac k
   have bad:(eg m).2=false\/h.2=false->((t.i+1:Nat):Int)=((if (eg m).2=false\/h.2=false then t.next.ax (gq p) i 2 else t.next:Ps).i:Nat)/\(t.ae:Int)=((if (eg m).2=false\/h.2=false then t.next.ax (gq p) i 2 else t.next:Ps).ae:Nat)/\cn (aC t.aq 0) 2 t.aq=(if (eg m).2=false\/h.2=false then t.next.ax (gq p) i 2 else t.next:Ps).aq/\cn (aC t.aq 0) (aO (gq p) i) t.wh=(if (eg m).2=false\/h.2=false then t.next.ax (gq p) i 2 else t.next:Ps).wh:=λk=>by
    rw[B k,wrE,wrW];exact⟨by rw[WS];rfl,by rw[Bj];rfl,rfl,rfl⟩
   refine⟨λk=>⟨F,rfl,rfl,bad (.inl k)⟩,λk=>⟨λk1=>⟨F,rfl,rfl,bad (.inr k1)⟩,λk1=>?_⟩⟩;rw[Zaa (by grind)];exact⟨rfl,rfl,rfl,rfl,rfl,rfl⟩
def QgQ:Ok GW:=okZ [yz,Mq,qF,R',rR,Mo] f186 Qnt ⟨DP,QgK,xg,QgI,tR,QgJ⟩ QgP
def JX (p:QL) (i g:Nat) (e w:Int):yB (p,⟨i,0,g,e,w⟩)=eV (gq p) ⟨i,0,g,e,w⟩:=rfl
theorem np {l:List Rg} (h:db l):l.length=1:=by
 grind [db]
theorem QnA (y:QS×Int) (hy:GY.pre y):Sv y:=by
 have⟨⟨p,s⟩,a0⟩:=y;obtain⟨h0,h1,h2⟩:fc (p,s)/\s.i<=p.1.length/\xh (gq p) a0:=hy;have⟨i,g,es,f⟩:=h0.out;have⟨_,_,_,e,w⟩:=s;cases es;simp only at h1;have hl:=f.hl;have hlen:=f.len;have q:=λ(j k:Nat) (e w:Int) (hj:j<=100000) (hk:k<=4)=>(⟨f.q,hj,hk,hl,hlen⟩:QF p j k).ok e w
 have r0:RB (gq p) 0 ⟨i,0,g,e,w⟩ ⟨i,0,g,e,w⟩:=RB.refl (by grind) f.g;have rs:=r0.skip 94;have en:nn ⟨↑i,0,↑g,e,w⟩=⟨i,0,g,e,w⟩:=rfl;obtain⟨R,S⟩:∃R,rU ((p,⟨i,0,g,e,w⟩),a0)=R:=⟨_,rfl⟩;have eR:R=dn (gq p) ((gq p).length+2-(bj (gq p) ⟨i,0,g,e,w⟩ 94).i) (bj (gq p) ⟨i,0,g,e,w⟩ 94) [] false:=by
  grind [rU,aI]
 have N:RB (gq p) 0 ⟨i,0,g,e,w⟩ R.1:=by grind [rS]
 have W:nU ((p,⟨i,0,g,e,w⟩),a0)=if R.1.aq=0/\(R.2.2=false\/a8 (gq p) R.1 93=false) then R.1.ax (gq p) (ix (gq p) a0) 4 else R.1:=by
  grind [nU,aI]
 have rT:RB (gq p) 0 ⟨i,0,g,e,w⟩ (nU ((p,⟨i,0,g,e,w⟩),a0)):=by
  rw[W];split
  ·exact N.ax _ _
  ·exact N
 have eS:xi ((p,⟨i,0,g,e,w⟩),a0)=((nU ((p,⟨i,0,g,e,w⟩),a0)).next,if a8 (gq p) ⟨i,0,g,e,w⟩ 94 then kQ R.2.1 else aV R.2.1):=by
  unfold xi;rw[aI,W,eR];rfl
 have Rl:=N.len;have Rm:=N.gm;have Tl:=rT.len;have Ro:R.1.an=0:=N.op;have V:(⟨R.1.i,0,R.1.ae,R.1.aq,R.1.wh⟩:Ps)=R.1:=by rw[<-Ro]
 have lR:R.2.1.length<=50000:=by
  grind [rS]
 unfold Sv;simp only[bI,bH,Zad,Zan,Zao,ZaX,ZaY,ZaZ,G0,en,S,av,a7,bm,cS,bK (n:=i) ω,bK (n:=(nU ((p,⟨i,0,g,e,w⟩),a0)).i) ω,ez0,V];refine⟨⟨⟨q i g e w ω f.g,by decide,by decide⟩,λk=>?_,λk=>?_⟩,⟨⟨(zz (bj (gq p) ⟨i,0,g,e,w⟩ 94),[],false),rfl,rfl,rfl,rfl,rfl,rfl,?_⟩,λx X=>?_⟩,?_,?_⟩
 ·rw[qC k,k];exact⟨rfl,rfl,rfl,rfl,rfl⟩
 ·grind [qD]
 ·exact⟨⟨ZaF _,by have:=rs.len;show((bj (gq p) ⟨i,0,g,e,w⟩ 94).i:Int)<=↑p.1.length;omega⟩,by show((bj (gq p) ⟨i,0,g,e,w⟩ 94).an:Int)=0;rw[rs.op];rfl,⟨ZaF _,by have:=rs.gm;show((bj (gq p) ⟨i,0,g,e,w⟩ 94).ae:Int)<=4;omega⟩,Zaj _,_,by show p.1.length+2<=(gq p).length+2-_+(bj (gq p) ⟨i,0,g,e,w⟩ 94).i;have:=rs.len;omega,(eR.symm.trans S.symm)⟩
 ·have⟨⟨r,xo,D,F,G⟩,l,b⟩:=x;have⟨i1,i2,i3,i4,n,i5,i6⟩:=X;have i1:0<=r/\r<=↑p.1.length:=i1;have i3:0<=D/\D<=4:=i3;subst i2;obtain⟨r,rfl⟩:=Zau i1.1;obtain⟨D,rfl⟩:=Zau i3.1;have i4:l.length<=20*r:=i4;have i5:p.1.length+2<=n+r:=i5;have i6:dn (gq p) n ⟨r,0,D,F,G⟩ l b=R:=i6.trans S;have qx:=q r D F G ω ω;have ex:nn ⟨↑r,0,↑D,F,G⟩=⟨r,0,D,F,G⟩:=rfl;simp only[JX,Zad];have stop:¬(F=0/\r<(gq p).length/\a8 (gq p) ⟨r,0,D,F,G⟩ 93=false)->l=R.2.1/\b=R.2.2/\(r:Int)=↑R.1.i/\(D:Int)=↑R.1.ae/\F=R.1.aq/\G=R.1.wh:=λh=>by
   have:R=(⟨r,0,D,F,G⟩,l,b):=by
    rw[<-i6];cases n with
    | zero=>rfl
    | succ n=>unfold dn;rw[Zaa h]
   grind
  obtain⟨n,rfl⟩:∃m,n=m+1:=⟨n-1,ω⟩;have cont:∀(d A:Nat) (o B:Int) (J:List Rg),r<d->d<=p.1.length->A<=4->J.length<=20*d->dn (gq p) n ⟨d,0,A,o,B⟩ J true=R->∃z:bZ×List Rg×Bool,J=z.2.1/\true=z.2.2/\↑d=z.1.i/\↑A=z.1.ae/\o=z.1.aq/\B=z.1.wh/\GX ((p,⟨i,0,g,e,w⟩),a0) z/\p.1.length-z.1.i.toNat<p.1.length-r:=λd A o B J c1 c2 c3 c4 c5=>
   ⟨(⟨d,0,A,o,B⟩,J,true),rfl,rfl,rfl,rfl,rfl,rfl,⟨⟨ZaF _,by grind⟩,rfl,⟨ZaF _,by grind⟩,c4,n,by show p.1.length+2<=n+d;omega,c5.trans S.symm⟩,by grind⟩
  refine⟨λk1=>⟨λk2=>⟨⟨qx,by decide,by decide⟩,λk3=>⟨⟨qx,k2⟩,?_⟩,λk3=>stop λh=>by grind⟩,λk2=>stop λh=>ω⟩,λk1=>stop λh=>k1 h.1⟩;have rx:RB (gq p) 0 ⟨r,0,D,F,G⟩ ⟨r,0,D,F,G⟩:=RB.refl (by grind) (by grind);have⟨b1,Z,b3⟩:=uZ rx (show r<(gq p).length by omega);have u:dn (gq p) (n+1) ⟨r,0,D,F,G⟩ l b=(let m:=ki (gq p) (eV (gq p) ⟨r,0,D,F,G⟩).1 r (eV (gq p) ⟨r,0,D,F,G⟩).2 l
   if m.2.2 then(m.1,m.2.1,true) else dn (gq p) n m.1 m.2.1 true):=by
   conv=>lhs;unfold dn
   grind
  rw[u] at i6;obtain⟨⟨⟨d,to,A,o,B⟩,a⟩,ht⟩:∃t,eV (gq p) ⟨r,0,D,F,G⟩=t:=⟨_,rfl⟩;rw[ht] at b1 Z b3 i6 ⊢;have t0:=b1.op;subst t0;have t1:d<=(gq p).length:=b1.len;have U:=b1.gm;have t3:r<d:=Z;have t4:=b3;simp only[ez0,bK (n:=d) ω];have fit:∀(J:List Rg),J.length<=l.length+8->((J.length:Nat):Int)*(8:Nat)<=140737488355328:=λJ h=>by omega
  have H:o≠0\/a8 (gq p) ⟨d,0,A,o,B⟩ 45=false->dn (gq p) n ⟨d,0,A,o,B⟩ (l++a) true=R:=λh=>by
   grind [ki]
  have lA:(l++a).length<=20*d:=by grind
  have T:=q (d+1) A o B ω U;refine⟨λk4=>⟨fit _ (by grind),cont _ _ _ _ _ t3 ω U lA (H (.inl k4))⟩,λk4=>⟨⟨(q d A o B ω U),by decide,by decide⟩,λk5=>⟨fit _ (by grind),cont _ _ _ _ _ t3 ω U lA (H (.inr k5))⟩,λk5=>?_⟩⟩;have t5:=cW k5;simp only at t5;have j0:¬(o≠0\/a8 (gq p) ⟨d,0,A,o,B⟩ 45=false):=by grind
  have i7:=i6;unfold ki at i7;simp only at i7;rw[Zaa j0] at i7;have nx:Ps.next ⟨d,0,A,o,B⟩=⟨d+1,0,A,o,B⟩:=rfl;rw[nx] at i7;have C:((gq p).length<=d+1\/a8 (gq p) ⟨d+1,0,A,o,B⟩ 93\/a8 (gq p) ⟨d+1,0,A,o,B⟩ 91\/a8 (gq p) ⟨d+1,0,A,o,B⟩ 45)->fc (p,⟨((d+1:Nat):Int),0,A,o,B⟩)/\l=R.2.1/\true=R.2.2/\((d+1:Nat):Int)=↑R.1.i/\(A:Int)=↑R.1.ae/\cn (aC o 0) 4 o=R.1.aq/\cn (aC o 0) (aO (gq p) r) B=R.1.wh:=λh=>by
   grind [DS]
  refine⟨λk6=>C (.inl ω),λk6=>⟨⟨T,by decide,by decide⟩,λk7=>C (.inr (.inl k7)),λk7=>⟨⟨T,by decide,by decide⟩,λk8=>C (.inr (.inr (.inl k8))),λk8=>⟨⟨T,by decide,by decide⟩,λk9=>C (.inr (.inr (.inr k9))),λk9=>⟨⟨T,by assumption⟩,?_⟩⟩⟩⟩⟩;have j1:¬((gq p).length<=d+1\/a8 (gq p) ⟨d+1,0,A,o,B⟩ 93\/a8 (gq p) ⟨d+1,0,A,o,B⟩ 91\/a8 (gq p) ⟨d+1,0,A,o,B⟩ 45):=by
   grind
  rw[Zaa j1] at i7;have ru:RB (gq p) 0 ⟨r,0,D,F,G⟩ ⟨d+1,0,A,o,B⟩:=b1.oQ ω;have⟨Q,d2,d3⟩:=uZ ru (show d+1<(gq p).length by omega);obtain⟨⟨⟨M,vo,O,I,P⟩,c⟩,hv⟩:∃v,eV (gq p) ⟨d+1,0,A,o,B⟩=v:=⟨_,rfl⟩;rw[JX p (d+1) A o B];rw[hv] at Q d2 d3 i7 ⊢;have v0:=Q.op;subst v0;have v1:M<=(gq p).length:=Q.len;have Y:=Q.gm;have v3:d+1<M:=d2;simp only at i7 ⊢;have qv:=q M O I P ω Y;have g0:∀l:List Rg,(l.getD 0 (0,0)).1=ox l:=λ_=>rfl
  simp only[g0];have E:(I=0/\(db a=false\/db c=false\/ox c<ox a))->fc (p,⟨↑M,0,O,I,P⟩)/\l=R.2.1/\true=R.2.2/\(M:Int)=↑R.1.i/\(O:Int)=↑R.1.ae/\cn (aC I 0) 4 I=R.1.aq/\cn (aC I 0) (aO (gq p) r) P=R.1.wh:=λh=>by
   grind [DS]
  have K:¬(I=0/\(db a=false\/db c=false\/ox c<ox a))->I=0->dn (gq p) n ⟨M,0,O,I,P⟩ (l++[(ox a,ox c)]) true=R:=λh h2=>by
   grind
  have L:I≠0->dn (gq p) n ⟨M,0,O,I,P⟩ l true=R:=λh=>by
   grind
  refine⟨λm1=>⟨λm2=>E ⟨m1,.inl m2⟩,λm2=>⟨λm3=>E ⟨m1,.inr (.inl m3)⟩,λm3=>⟨by have:=np m2;omega,by have:=np m3;omega,λm4=>E ⟨m1,.inr (.inr m4)⟩,λm4=>⟨λ_=>⟨by have:=np m2;omega,by have:=np m3;omega,fit _ (by simp),?_⟩,λh=>absurd m1 h⟩⟩⟩⟩,λm1=>⟨λh=>absurd h m1,λ_=>?_⟩⟩
  ·refine cont _ _ _ _ _ ω ω Y (by simp;omega) (K ?_ m1);grind
  ·exact cont _ _ _ _ _ ω ω Y ω (L m1)
 ·have bad:R.1.aq=0/\(R.2.2=false\/a8 (gq p) R.1 93=false)->↑R.1.i=((nU ((p,⟨i,0,g,e,w⟩),a0)).i:Nat)/\↑R.1.ae=((nU ((p,⟨i,0,g,e,w⟩),a0)).ae:Nat)/\cn (aC R.1.aq 0) 4 R.1.aq=(nU ((p,⟨i,0,g,e,w⟩),a0)).aq/\cn (aC R.1.aq 0) a0 R.1.wh=(nU ((p,⟨i,0,g,e,w⟩),a0)).wh:=λh=>by
   rw[W,Zac h,wrE,wrW,(JW h2)];simp
  grind
 ·rw[eS];exact⟨λk=>⟨ω,by grind,rfl,rfl,rfl,rfl⟩,λk=>⟨ω,by grind,rfl,rfl,rfl,rfl⟩⟩
def QgR (h:Ok lg) (a:Ok oL):Ok GY:=okZ [qF,Sl,R9,rR,oL,lg] f212 Qnv ⟨xg,QgN h,QgH,tR,a,h⟩ QnA
abbrev QD:=QS×Int
def yd (y:QD):Ps->Ps×List Nd:=Bk (gq y.1.1) (20-y.2.toNat) (y.2.toNat+1)
def ll (y:QD):Nat:=5*(20-y.2.toNat)
def QaG (y:QD):Prop:=0<=y.2/\y.2<=20
def Sw (y:QD):Prop:=QaG y/\y.1.2.i<=y.1.1.1.length
def ltP (y:QD):Prop:=QaG y/\y.1.2.i<y.1.1.1.length
def Ys (f:FuncId) (pre:QD->Prop) (F:QD->Ps×List Nd):br D:=xe f QD (·.1) R7 pre (λy=>[QsE y.2]) (λy=>zz (F y).1) λy=>.list 7 (F y).2
def eF (y:QD):Ps×List Nd:=lk (tH (gq y.1.1) (yd y) y.2.toNat (nn y.1.2))
def gZ (y:QD):Ps×List Nd:=lk (nR (gq y.1.1) (yd y) y.2.toNat (nn y.1.2))
def jH (y:QD):Ps×List Nd:=lk (rI (gq y.1.1) (yd y) y.2.toNat (nn y.1.2))
def fH (y:QD):Ps×List Nd:=lk (fG (gq y.1.1) (yd y) y.2.toNat (nn y.1.2))
abbrev QG:=QS×Int×Int
variable {s:Ps} {G:List Gt} {A:Ps->Ps×List Nd} {l:List (List Nd)}
def gd (y:QG):QD:=(y.1,y.2.1)
def qf (y:QG):Ps×List Nd:=lk (iQ (gq y.1.1) (yd (gd y)) y.2.1.toNat (nn y.1.2) (ix (gq y.1.1) y.2.2))
def xj:br D:=Ys 70 Sw eF
def zX:br D:=Ys 109 Sw gZ
def zY:br D:=Ys 152 ltP jH
def DT:br D:=Ys 185 ltP fH
def DU:br D:=xe 210 QG (·.1) QaC (λy=>Sw (gd y)/\xh (gq y.1.1) y.2.2) (λy=>[QsE y.2.1,QsE y.2.2]) (λy=>zz (qf y).1) λy=>.list 7 (qf y).2
def rfT (n:Nat):tI:=[xj.under (λy=>ll y+4) n,zX.under (λy=>ll y+3) n,zY.under (λy=>ll y+2) n,DT.under (λy=>ll y+1) n,DU.under (λy=>ll (gd y)) n]
def rfW (l:tI) (i:Nat) (fn:Func) (k:br D) (a:k.Y->cO D) (n:Nat) (y:k.Y):Prop:=vc (rfT (n+i)++l) fn k a y
def QaH (p:QL) (s:bZ):List (Nat×AO D.E):=qO p s++[(1,.tok 9 99)]
def stI (y:QD) (s:bZ):Prop:=fc (y.1.1,s)/\(nn y.1.2).i<=(nn s).i/\(nn s).i<=y.1.1.1.length+30
def JY (y:QD) (x:bZ×List (List Nd)):Prop:=stI y x.1/\0<x.2.length/\total x.2+2*x.2.length<=3*((nn x.1).i-(nn y.1.2).i)+3/\∃n,y.1.1.1.length+2<=n+(nn x.1).i/\
 (dB (gq y.1.1) (yd y) y.2.toNat n (nn x.1) x.2).1=(eF y).1/\bU 4 (dB (gq y.1.1) (yd y) y.2.toNat n (nn x.1) x.2).2=(eF y).2
def zZ (y:QD) (x:bZ×List (List Nd)):Nat:=y.1.1.1.length+30-(nn x.1).i
def QaI (y:xj.Y):cO D:=⟨[],[],[(28,⟨bZ×List (List Nd),[0,1],λx=>[(5,.grow 9 x.2 1)],[],λx=>QaH y.1.1 x.1,2,JY y,zZ y⟩)],[],1,[]⟩
def QgT (y:xj.Y):Prop:=rfW [qF,Bx] 4 f70 xj QaI (ll y) y
def JZ (y:QD) (x:bZ×List (List Nd)):Prop:=stI y x.1/\x.2.length<=(nn x.1).i-(nn y.1.2).i/\total x.2<=3*((nn x.1).i-(nn y.1.2).i)/\∃n,y.1.1.1.length+2<=n+(nn x.1).i/\
 (dV (gq y.1.1) (yd y) y.2.toNat n (nn x.1) x.2).1=(gZ y).1/\bU 3 (dV (gq y.1.1) (yd y) y.2.toNat n (nn x.1) x.2).2=(gZ y).2
def QaJ (y:zX.Y):cO D:=⟨[],[],[(28,⟨bZ×List (List Nd),[0,1],λx=>[(5,.grow 9 x.2 1)],[],λx=>QaH y.1.1 x.1,2,JZ y,zZ y⟩)],[],1,[]⟩
def QgU (y:zX.Y):Prop:=rfW [qF,Bx] 3 f109 zX QaJ (ll y) y
def mv (y:QD):Ps×Int×Int:=lk (if a8 (gq y.1.1) (fH y).1 42 then((fH y).1.next,0,-1) else if a8 (gq y.1.1) (fH y).1 43 then((fH y).1.next,1,-1) else if a8 (gq y.1.1) (fH y).1 63 then((fH y).1.next,0,1) else d_ (gq y.1.1) (fH y).1)
def z6 (y:QD):Prop:=(fH y).1.aq=0/\(fH y).1.i<y.1.1.1.length/\(a8 (gq y.1.1) (fH y).1 42\/a8 (gq y.1.1) (fH y).1 43\/a8 (gq y.1.1) (fH y).1 63\/a8 (gq y.1.1) (fH y).1 123)
def QaK (y:zY.Y):cO D:=⟨[],[],[],[(31,⟨Unit,[0,5],λ_=>[(6,.ptr 1 0)],[],λ_=>qO y.1.1 (zz (mv y).1)++[(1,.cells [QsE 5,.dd,QsE (mv y).2.1,QsE (mv y).2.2,.bool false,QsE 0,QsE 1] 152 false)],2,λ_=>z6 y,λ_=>0⟩)],1,[]⟩
def QgV (y:zY.Y):Prop:=rfW [qF,GW] 2 f152 zY QaK (ll y) y
def QgW (y:DT.Y):Prop:=rfW [yz,rR,GY,GV,zS,oL] 1 f185 DT (λ_=>ew ()) (ll y) y
def QgX (y:DU.Y):Prop:=rfW [qF,rR,Mw] 0 f210 DU (λ_=>ew ()) (ll (gd y)) y
def G9 (y:(((List Int)×(List Int))×bZ)×Int):Prop:=let g:=(eF y).1;let q1:=((g.i:Nat):Int);let n:=((g.ae:Nat):Int);let h:=(y.1.1.1,y.1.1.2);let f:=(h,bZ.mk y.1.2.i 0 y.1.2.ae y.1.2.aq y.1.2.wh);let j:=(gZ (f,y.2)).1;let k:=λp:Prop=>aa [y.1.1.1,y.1.1.2] p;Iv ((fc f/\Sw (f,y.2))/\(ll (f,y.2)+3)<(ll y+4))/\aa [y.2] (aa [y.1.1.1,y.1.1.2] (aa [y.1.2.i,y.1.2.ae,y.1.2.aq,y.1.2.wh] ((∃z:bZ×(List (List Nd)),aa [y.2] (([(gZ (f,y.2)).2]:List (List Nd))=z.2/\k (((j.i:Nat):Int)=z.1.i/\((j.ae:Nat):Int)=z.1.ae/\j.aq=z.1.aq/\j.wh=z.1.wh/\(Iv (JY y z)))))/\(∀x:bZ×(List (List Nd)),let l:=aw .i64 x.1.i 1;let m:=bZ.mk x.1.i 0 x.1.ae x.1.aq x.1.wh;let o:=a8 (gq h) (nn m) 124;let c:=(h,bZ.mk l 0 x.1.ae x.1.aq x.1.wh);let a:=(c,y.2);let b:=(gZ a).1;let d:=bC x.2 [(gZ a).2];let e:Prop:=(Iv (total x.2<=100000/\x.2.length<=100000)/\aa ([4]:List Int) (aa [x.2] (bU 4 x.2=(eF y).2/\k (x.1.i=q1/\x.1.ae=n/\x.1.aq=g.aq/\x.1.wh=g.wh/\True))));(Iv (JY y x))->ak (aC x.1.aq 0) (Iv (fc (h,m)/\(0:Int)<=(124:Int)/\(124:Int)<=(127:Int))/\aa ([124]:List Int) (aa [y.1.1.1,y.1.1.2] (aa [x.1.i,x.1.ae,x.1.aq,x.1.wh] (ak o (Iv ((fc c/\Sw a)/\(ll a+3)<(ll y+4))/\aa [y.2] (aa [y.1.1.1,y.1.1.2] (aa [l,x.1.ae,x.1.aq,x.1.wh] (bx (ag d) 24/\∃z:bZ×(List (List Nd)),aa [y.2] (d=z.2/\k (((b.i:Nat):Int)=z.1.i/\((b.ae:Nat):Int)=z.1.ae/\b.aq=z.1.aq/\b.wh=z.1.wh/\(Iv (JY y z/\zZ y z<zZ y x)))))))) (e))))) (e)))))
def Sx:∀y,G9 y=QgT y:=λy=>by kernel_rfl
def G' (y:(((List Int)×(List Int))×bZ)×Int):Prop:=let h:=(gZ y).1;let q1:=(gZ y).2;let k:=((h.i:Nat):Int);let l:=((h.ae:Nat):Int);let d:=(y.1.1.1,y.1.1.2);let j:=λp:Prop=>aa [y.1.1.1,y.1.1.2] p;(∃z:bZ×(List (List Nd)),aa [y.2] ([]=z.2/\j (y.1.2.i=z.1.i/\y.1.2.ae=z.1.ae/\y.1.2.aq=z.1.aq/\y.1.2.wh=z.1.wh/\(Iv (JZ y z)))))/\(∀x:bZ×(List (List Nd)),let m:=ay x.1.i (ag y.1.1.1);let e:=bZ.mk x.1.i 0 x.1.ae x.1.aq x.1.wh;let n:=!(a8 (gq d) (nn e) 41);let o:=!(a8 (gq d) (nn e) 124);let a:=((d,e),y.2);let b:=(jH a).1;let f:=bC x.2 [(jH a).2];let c:Prop:=(Iv (total x.2<=100000/\x.2.length<=100000)/\aa ([3]:List Int) (aa [x.2] (bU 3 x.2=q1/\j (x.1.i=k/\x.1.ae=l/\x.1.aq=h.aq/\x.1.wh=h.wh/\True))));let g:Prop:=(aa [x.1.aq,x.1.i] (aa [y.1.1.1] (c)));(Iv (JZ y x))->ak (aC x.1.aq 0) (ak m (Iv (fc (d,e)/\(0:Int)<=(124:Int)/\(124:Int)<=(127:Int))/\aa ([124]:List Int) (aa [y.1.1.1,y.1.1.2] (aa [x.1.i,x.1.ae,x.1.aq,x.1.wh] (ak o (Iv (fc (d,e)/\(0:Int)<=(41:Int)/\(41:Int)<=(127:Int))/\aa ([41]:List Int) (aa [y.1.1.1,y.1.1.2] (aa [x.1.i,x.1.ae,x.1.aq,x.1.wh,x.1.aq,x.1.i] (aa [y.1.1.1] (ak n (Iv ((fc (d,e)/\ltP a)/\(ll a+2)<(ll y+3))/\aa [y.2] (aa [y.1.1.1,y.1.1.2] (aa [x.1.i,x.1.ae,x.1.aq,x.1.wh] (bx (ag f) 24/\∃z:bZ×(List (List Nd)),aa [y.2] (f=z.2/\j (((b.i:Nat):Int)=z.1.i/\((b.ae:Nat):Int)=z.1.ae/\b.aq=z.1.aq/\b.wh=z.1.wh/\(Iv (JZ y z/\zZ y z<zZ y x)))))))) (c)))))) (g))))) (g)) (aa [x.1.aq] (c)))
def Sy:∀y,G' y=QgU y:=λy=>by kernel_rfl
def G_ (y:(((List Int)×(List Int))×bZ)×Int):Prop:=let r:=(jH y).1;let q1:=(jH y).2;let c:=(mv y).1;let H:=((r.i:Nat):Int);let s:=(mv y).2.2;let I:=((r.ae:Nat):Int);let t:=(mv y).2.1;let u:=((c.i:Nat):Int);let D:=((c.ae:Nat):Int);let f:=y.1.1.1;let g:=(f,y.1.1.2);let v:=bZ.mk u 0 D c.aq c.wh;let w:=(g,bZ.mk y.1.2.i 0 y.1.2.ae y.1.2.aq y.1.2.wh);let F:=a8 (gq g) (nn v) 63;let h:=(w,y.2);let j:=(fH h).2;let a:=(fH h).1;let k:=((a.ae:Nat):Int);let b:=((a.i:Nat):Int);let G:=aH (ag f) b;let d:=gt 0 f b.toNat;let A:=bC [Nd.mk 5 [] t s true 0 1] j;let B:=bC [Nd.mk 5 [] t s false 0 1] j;let e:=(g,bZ.mk b 0 k a.aq a.wh);let l:=(qG e).1;let q:=λp:Prop=>aa [f,y.1.1.2] p;let m:=λp:Prop=>aa [j] (aa ([5]:List Int) p);let E:=λp:Prop=>aa ([0,1]:List Int) (aa [f,y.1.1.2] p);let C:Prop:=(D=I/\c.aq=r.aq/\c.wh=r.wh/\True);let n:Prop:=(false=false/\E (aw .i64 b 1=u/\k=D/\a.aq=c.aq/\a.wh=c.wh/\(Iv (z6 y))));let o:Prop:=(j=q1/\q (b=H/\k=I/\a.aq=r.aq/\a.wh=r.wh/\True));Iv ((fc w/\ltP h)/\(ll h+1)<(ll y+2))/\aa [y.2] (aa [f,y.1.1.2] (aa [y.1.2.i,y.1.2.ae,y.1.2.aq,y.1.2.wh] (ak (!(aC a.aq 0)) (aa [a.aq] (o)) (aa [a.aq,b] (aa [f] (ak G (o) ((aH 0 b/\ay b (ag f)/\aa [f] (aa [b,d] (ak (aC d 42) (∃z:Unit,m (0=t/\(-1)=s/\n)) (ak (aC d 43) (∃z:Unit,m (1=t/\(-1)=s/\n)) (ak (aC d 63) (∃z:Unit,m (0=t/\1=s/\n)) (ak (aC d 123) (Iv (fc e/\Sk e)/\aa [f,y.1.1.2] (aa [b,k,a.aq,a.wh] (∃z:Unit,m ((qG e).2.1=t/\(qG e).2.2=s/\false=false/\E (((l.i:Nat):Int)=u/\((l.ae:Nat):Int)=D/\l.aq=c.aq/\l.wh=c.wh/\(Iv (z6 y))))))) (o)))))))/\(∀x:Unit,(Iv (z6 y))->Iv (fc (g,v)/\(0:Int)<=(63:Int)/\(63:Int)<=(127:Int))/\aa ([63]:List Int) (aa [f,y.1.1.2] (aa [u,D,c.aq,c.wh] (ak F (bx (ag A) 72/\A=q1/\q (aw .i64 u 1=H/\C)) (bx (ag B) 72/\B=q1/\q (u=H/\C)))))))))))))
def Sz:∀y,G_ y=QgV y:=λy=>by kernel_rfl
def Ha (y:(((List Int)×(List Int))×bZ)×Int):Prop:=let f:=(fH y).1;let q1:=(fH y).2;let s:=((f.ae:Nat):Int);let t:=((f.i:Nat):Int);let j:=y.1.1.1;let n:=aw .i64 y.1.2.i 1;let a:=gt 0 j y.1.2.i.toNat;let v:=(j,y.1.1.2);let e:=aO (gq v) y.1.2.i.toNat;let w:=([(a,a)]:List (Int×Int));let b:=(v,bZ.mk n 0 y.1.2.ae y.1.2.aq y.1.2.wh);let o:=(sZ (b,e)).2;let k:=(xi (b,e)).1;let l:=(sZ (b,e)).1;let q:=(xi (b,e)).2;let r:=gd (b,(y.2,e));let g:=qf (b,(y.2,e));let u:=λp:Prop=>aa [e] (aa [j,y.1.1.2] (aa [n,y.1.2.ae,y.1.2.aq,y.1.2.wh] p));let h:=λp:Prop=>aa [j,y.1.1.2] p;let m:Prop:=(h (n=t/\y.1.2.ae=s/\y.1.2.aq=f.aq/\y.1.2.wh=f.wh/\True));let c:Prop:=(Iv True/\aa [w] (([wz w]:List Nd)=q1/\m));let d:Prop:=(Iv (fc b/\True)/\aa ([4,e]:List Int) (aa [j,y.1.1.2] (aa [n,y.1.2.ae,y.1.2.aq,y.1.2.wh] ([]=q1/\h (n=t/\y.1.2.ae=s/\cn (aC y.1.2.aq 0) 4 y.1.2.aq=f.aq/\cn (aC y.1.2.aq 0) e y.1.2.wh=f.wh/\True)))));Iv (fc (v,bZ.mk y.1.2.i 0 y.1.2.ae y.1.2.aq y.1.2.wh)/\y.1.2.i<=(j.length:Int))/\aa [j,y.1.1.2] (aa [y.1.2.i,y.1.2.ae,y.1.2.aq,y.1.2.wh] (aH 0 y.1.2.i/\ay y.1.2.i (ag j)/\aa [j] (aa [y.1.2.i,a] (ak (aC a 40) (Iv ((fc b/\Sw r/\xh (gq v) e)/\ll r<(ll y+1))/\aa [y.2,e] (aa [j,y.1.1.2] (aa [n,y.1.2.ae,y.1.2.aq,y.1.2.wh] (g.2=q1/\h (((g.1.i:Nat):Int)=t/\((g.1.ae:Nat):Int)=s/\g.1.aq=f.aq/\g.1.wh=f.wh/\True))))) (ak (aC a 91) (Iv (fc b/\Mu (b,e))/\u (Iv True/\aa [q] (([wz q]:List Nd)=q1/\h (((k.i:Nat):Int)=t/\((k.ae:Nat):Int)=s/\k.aq=f.aq/\k.wh=f.wh/\True)))) (ak (aC a 46) (Iv (1<=2000000)/\aa ([[(10,10)]]:List (List (Int×Int))) (Iv True/\aa [kQ [(10,10)]] (([wz (kQ [(10,10)])]:List Nd)=q1/\m))) (ak (aC a 94) (([Nd.mk 7 [] 0 0 false 0 0]:List Nd)=q1/\m) (ak (aC a 36) (([Nd.mk 8 [] 0 0 false 0 0]:List Nd)=q1/\m) (ak (aC a 92) (Iv (fc b/\Mu (b,e))/\u (Iv True/\aa [o] (([wz o]:List Nd)=q1/\h (((l.i:Nat):Int)=t/\((l.ae:Nat):Int)=s/\l.aq=f.aq/\l.wh=f.wh/\True)))) (ak (aC a 42) (ak (aC a 42) (d) (c)) (ak (aC a 43) (ak (aC a 43) (d) (c)) (ak (aC a 63) (ak (aC a 63) (d) (c)) (ak (aC a 123) (ak (aC a 123) (d) (c)) (ak (aC a 125) (ak (aC a 125) (d) (c)) (ak (aC a 93) (ak (aC a 93) (d) (c)) (ak (aC a 41) (ak (aC a 41) (d) (c)) (ak (aC a 124) (ak (aC a 124) (d) (c)) (ak (aC a (-1)) (d) (c)))))))))))))))))))
def SA:∀y,Ha y=QgW y:=λy=>by kernel_rfl
def Hb (y:(((List Int)×(List Int))×bZ)×Int×Int):Prop:=let k:=(qf y).1;let q1:=(qf y).2;let x:=((k.i:Nat):Int);let C:=((k.ae:Nat):Int);let c:=y.1.1.1;let l:=aw .i64 y.2.1 1;let K:=aH 4 y.1.2.ae;let F:=aC y.1.2.aq 0;let J:=aw .i64 y.1.2.i 2;let G:=aw .i64 y.1.2.i 1;let r:=aw .i64 y.1.2.ae 1;let a:=(c,y.1.1.2);let b:=gq a;let v:=gt 0 c G.toNat;let f:=bZ.mk y.1.2.i 0 y.1.2.ae y.1.2.aq y.1.2.wh;let w:=a8 b (nn f) 63;let g:=(a,bZ.mk y.1.2.i 0 r y.1.2.aq y.1.2.wh);let h:=(a,bZ.mk J 0 y.1.2.ae y.1.2.aq y.1.2.wh);let d:=(eF (h,l)).1;let e:=(eF (g,l)).1;let s:=((d.i:Nat):Int);let z:=((e.ae:Nat):Int);let A:=((d.ae:Nat):Int);let t:=((e.i:Nat):Int);let B:=bC [Nd.mk 6 [] 0 0 false r 1] (eF (g,l)).2;let m:=bZ.mk t 0 z e.aq e.wh;let n:=bZ.mk s 0 A d.aq d.wh;let H:=a8 b (nn n) 41;let I:=a8 b (nn m) 41;let o:=ite (d.aq=0/\H=false) (Ps.ax b (nn n) (ix b y.2.2) 4) (nn n);let q:=ite (e.aq=0/\I=false) (Ps.ax b (nn m) (ix b y.2.2) 4) (nn m);let j:=λp:Prop=>aa [c,y.1.1.2] p;let u:Prop:=(cn F y.2.2 y.1.2.wh=k.wh/\True);let D:Prop:=(Iv (fc (a,f)/\True)/\aa ([4,y.2.2]:List Int) (aa [c,y.1.1.2] (aa [y.1.2.i,y.1.2.ae,y.1.2.aq,y.1.2.wh] ([]=q1/\j (y.1.2.i=x/\y.1.2.ae=C/\cn F 4 y.1.2.aq=k.aq/\u)))));let E:Prop:=(ak (aH 20 y.2.1) (Iv (fc (a,f)/\True)/\aa ([10,y.2.2]:List Int) (aa [c,y.1.1.2] (aa [y.1.2.i,y.1.2.ae,y.1.2.aq,y.1.2.wh] ([]=q1/\j (y.1.2.i=x/\y.1.2.ae=C/\cn F 10 y.1.2.aq=k.aq/\u))))) (ak w (Iv ((fc h/\Sw (h,l))/\(ll (h,l)+4)<(ll (gd y)+0))/\aa [l] (aa [c,y.1.1.2] (aa [J,y.1.2.ae,y.1.2.aq,y.1.2.wh] (Iv (fc (a,n)/\s<=90000/\xh b y.2.2)/\aa [y.2.2] (aa [c,y.1.1.2] (aa [s,A,d.aq,d.wh] ((eF (h,l)).2=q1/\j (((o.i+1:Nat):Int)=x/\((o.ae:Nat):Int)=C/\o.aq=k.aq/\o.wh=k.wh/\True)))))))) (ak K (Iv (fc (a,f)/\True)/\aa ([13,y.2.2]:List Int) (aa [c,y.1.1.2] (aa [y.1.2.i,y.1.2.ae,y.1.2.aq,y.1.2.wh] ([]=q1/\j (y.1.2.i=x/\y.1.2.ae=C/\cn F 13 y.1.2.aq=k.aq/\u))))) (Iv ((fc g/\Sw (g,l))/\(ll (g,l)+4)<(ll (gd y)+0))/\aa [l] (aa [c,y.1.1.2] (aa [y.1.2.i,r,y.1.2.aq,y.1.2.wh] (Iv (fc (a,m)/\t<=90000/\xh b y.2.2)/\aa [y.2.2] (aa [c,y.1.1.2] (aa [t,z,e.aq,e.wh] (bx (ag B) 72/\B=q1/\j (((q.i+1:Nat):Int)=x/\((q.ae:Nat):Int)=C/\q.aq=k.aq/\q.wh=k.wh/\True)))))))))));Iv (fc (a,f)/\(0:Int)<=(63:Int)/\(63:Int)<=(127:Int))/\aa ([63]:List Int) (aa [c,y.1.1.2] (aa [y.1.2.i,y.1.2.ae,y.1.2.aq,y.1.2.wh] (ak w (ak (aH (ag c) G) (aa [y.1.2.i] (aa [c] (D))) (aH 0 G/\ay G (ag c)/\aa [y.1.2.i] (aa [c,c] (aa [y.1.2.i,v] (ak (!(aC v 58)) (D) (E)))))) (E))))
def SB:∀y,Hb y=QgX y:=λy=>by kernel_rfl
def nz0 (h:s.an=0):nn ⟨s.i,0,s.ae,s.aq,s.wh⟩=s:=by rw[ez0,<-h]
def BC (y:QD):um (gq y.1.1) (20-y.2.toNat) (yd y):=BA _ _ _
theorem DV {d n:Nat} (h:s.aq≠0\/a8 G s 124=false):dB G A d n s l=(s,l):=by
 cases n with
 | zero=>rfl
 | succ n=>
  grind [dB]
theorem DW {d n:Nat} (h:¬(s.aq=0/\s.i<G.length/\a8 G s 124=false/\a8 G s 41=false)):dV G A d n s l=(s,l):=by
 cases n with
 | zero=>rfl
 | succ n=>unfold dV;rw[Zaa h]
theorem QgZ (y:QD) (L:xj.pre y):G9 y:=by
 have⟨⟨p,s⟩,d⟩:=y;obtain⟨h0,z,h1⟩:fc (p,s)/\(0<=d/\d<=20)/\s.i<=p.1.length:=L;have⟨i,g,es,f⟩:=h0.out;have⟨_,_,_,e,w⟩:=s;cases es;obtain⟨d,rfl⟩:=Zau z.1;simp only at h1;have hl:=f.hl;have hlen:=f.len;have q:=λ(j k:Nat) (e w:Int) (E:j<=100000) (hk:k<=4)=>(⟨f.q,E,hk,hl,hlen⟩:QF p j k).ok e w
 have A:=BC ((p,⟨i,0,g,e,w⟩),↑d);obtain⟨B,H⟩:∃B,yd ((p,⟨i,0,g,e,w⟩),↑d)=B:=⟨_,rfl⟩;rw[H] at A;have A:um (gq p) (20-d) B:=A;have b:∀N,yd ((p,N),↑d)=B:=λ_=>H
 have G:∀j k e w,gZ ((p,⟨(j:Nat),0,(k:Nat),e,w⟩),↑d)=nR (gq p) B d ⟨j,0,k,e,w⟩:=λj k e w=>by unfold gZ;rw[aI,b];rfl
 have⟨c1,c2⟩:=u0 A d (s:=⟨i,0,g,e,w⟩) (by grind) f.g;obtain⟨c,D⟩:∃c,nR (gq p) B d ⟨i,0,g,e,w⟩=c:=⟨_,rfl⟩;rw[D] at c1 c2;have R:eF ((p,⟨i,0,g,e,w⟩),↑d)=((dB (gq p) B d ((gq p).length+2-c.1.i) c.1 [c.2]).1,bU 4 (dB (gq p) B d ((gq p).length+2-c.1.i) c.1 [c.2]).2):=by
  unfold eF;rw[aI,b,<-D];rfl
 have cl:=c1.len;have co:=c1.op;unfold G9;simp only[bI,bH,Zad,Zan,Zao,G0,av,a7,bm,cS,G,D];refine⟨⟨⟨q i g e w ω f.g,⟨z.1,z.2⟩,h1⟩,ω⟩,⟨(⟨c.1.i,0,c.1.ae,c.1.aq,c.1.wh⟩,[c.2]),rfl,rfl,rfl,rfl,rfl,⟨q _ _ _ _ ω c1.gm,c1.le,by grind⟩,by simp,?_,(gq p).length+2-c.1.i,?_,?_,?_⟩,λx K=>?_⟩
 ·have Q:total [c.2]=c.2.length:=by simp[total]
  have c3:c.2.length<=3*(c.1.i-i)+1:=c2;show total [c.2]+2*1<=3*(c.1.i-i)+3
  omega
 ·grind
 ·grind
 ·grind
 ·have⟨⟨U,V,T,l,v⟩,r⟩:=x;have⟨⟨M,S,I⟩,i3,i4,n,i5,i6,i7⟩:=K;have⟨a,o,es,C⟩:=M.out;cases es;have I:a<=p.1.length+30:=I;have i4:total r+2*r.length<=3*(a-i)+3:=i4;have i5:p.1.length+2<=n+a:=i5;rw[b] at i6 i7;have i6:(dB (gq p) B d n ⟨a,0,o,l,v⟩ r).1=(eF ((p,⟨i,0,g,e,w⟩),↑d)).1:=i6;have i7:bU 4 (dB (gq p) B d n ⟨a,0,o,l,v⟩ r).2=(eF ((p,⟨i,0,g,e,w⟩),↑d)).2:=i7;have ex:nn ⟨↑a,0,↑o,l,v⟩=⟨a,0,o,l,v⟩:=rfl;simp only[ex,bK (n:=a) ω,G];have stop:(l≠0\/a8 (gq p) ⟨a,0,o,l,v⟩ 124=false)->(total r<=100000/\r.length<=100000)/\bU 4 r=(eF ((p,⟨i,0,g,e,w⟩),↑d)).2/\(a:Int)=((eF ((p,⟨i,0,g,e,w⟩),↑d)).1.i:Nat)/\(o:Int)=((eF ((p,⟨i,0,g,e,w⟩),↑d)).1.ae:Nat)/\l=(eF ((p,⟨i,0,g,e,w⟩),↑d)).1.aq/\v=(eF ((p,⟨i,0,g,e,w⟩),↑d)).1.wh:=λh=>by
   grind [DV]
  refine⟨λk1=>⟨⟨q a o l v C.i C.g,by decide,by decide⟩,λk2=>?_,λk2=>stop (.inr k2)⟩,λk1=>stop (.inl k1)⟩;have E:=cW k2;simp only at E;have⟨b1,J⟩:=u0 A d (s:=⟨a+1,0,o,l,v⟩) (by assumption) C.g;obtain⟨t,ht⟩:∃t,nR (gq p) B d ⟨a+1,0,o,l,v⟩=t:=⟨_,rfl⟩;rw[ht] at b1 J ⊢;have O:=b1.len;have P:a+1<=t.1.i:=b1.le;have F:=b1.op;obtain⟨n,rfl⟩:∃m,n=m+1:=⟨n-1,ω⟩;have u:dB (gq p) B d (n+1) ⟨a,0,o,l,v⟩ r=dB (gq p) B d n t.1 (r++[t.2]):=by
   conv=>lhs;unfold dB
   rw[Zac ⟨k1,k2⟩,<-ht];rfl
  rw[u] at i6 i7;refine⟨⟨⟨q _ _ _ _ ω C.g,⟨z.1,z.2⟩,by grind⟩,by grind [ll]⟩,by simp;omega,(⟨t.1.i,0,t.1.ae,t.1.aq,t.1.wh⟩,r++[t.2]),rfl,rfl,rfl,rfl,rfl,⟨⟨q _ _ _ _ ω b1.gm,by grind,by grind⟩,by simp,?_,n,by grind,?_,?_⟩,?_⟩
  ·grind [fT]
  ·rw[nz0 F,b];exact i6
  ·rw[nz0 F,b];exact i7
  ·show p.1.length+30-(t.1.i:Int).toNat<p.1.length+30-(a:Int).toNat
   omega
theorem Qg0 (y:QD) (L:zX.pre y):G' y:=by
 have⟨⟨p,s⟩,d⟩:=y;obtain⟨h0,C,h1⟩:fc (p,s)/\(0<=d/\d<=20)/\s.i<=p.1.length:=L;have⟨i,g,es,f⟩:=h0.out;have⟨_,_,_,e,w⟩:=s;cases es;obtain⟨d,rfl⟩:=Zau C.1;simp only at h1;have hl:=f.hl;have hlen:=f.len;have q:=λ(j k:Nat) (e w:Int) (J:j<=100000) (hk:k<=4)=>(⟨f.q,J,hk,hl,hlen⟩:QF p j k).ok e w
 have A:=BC ((p,⟨i,0,g,e,w⟩),↑d);obtain⟨B,H⟩:∃B,yd ((p,⟨i,0,g,e,w⟩),↑d)=B:=⟨_,rfl⟩;rw[H] at A;have A:um (gq p) (20-d) B:=A;have b:∀N,yd ((p,N),↑d)=B:=λ_=>H
 have G:∀j k e w,jH ((p,⟨(j:Nat),0,(k:Nat),e,w⟩),↑d)=rI (gq p) B d ⟨j,0,k,e,w⟩:=λj k e w=>by unfold jH;rw[aI,b];rfl
 have F:gZ ((p,⟨i,0,g,e,w⟩),↑d)=((dV (gq p) B d ((gq p).length+2-i) ⟨i,0,g,e,w⟩ []).1,bU 3 (dV (gq p) B d ((gq p).length+2-i) ⟨i,0,g,e,w⟩ []).2):=by
  unfold gZ;rw[aI,b];rfl
 unfold G';simp only[bI,bH,Zad,Zan,Zao,G0,av,a7,bm,cS,G];refine⟨⟨(⟨i,0,g,e,w⟩,[]),rfl,rfl,rfl,rfl,rfl,⟨q _ _ _ _ ω f.g,Zah _,by show i<=p.1.length+30;omega⟩,by simp,by simp[total],(gq p).length+2-i,?_,?_,?_⟩,λx K=>?_⟩
 ·show p.1.length+2<=(gq p).length+2-i+i;omega
 ·rw[b,F];rfl
 ·rw[b,F];rfl
 ·have⟨⟨S,T,R,c,o⟩,r⟩:=x;have⟨⟨M,P,Q⟩,i3,i4,n,i5,i6,i7⟩:=K;have⟨a,l,es,z⟩:=M.out;cases es;have i3:r.length<=a-i:=i3;have i5:p.1.length+2<=n+a:=i5;rw[b] at i6 i7;have i6:(dV (gq p) B d n ⟨a,0,l,c,o⟩ r).1=(gZ ((p,⟨i,0,g,e,w⟩),↑d)).1:=i6;have i7:bU 3 (dV (gq p) B d n ⟨a,0,l,c,o⟩ r).2=(gZ ((p,⟨i,0,g,e,w⟩),↑d)).2:=i7;have ex:nn ⟨↑a,0,↑l,c,o⟩=⟨a,0,l,c,o⟩:=rfl;simp only[G];have stop:¬(c=0/\a<(gq p).length/\a8 (gq p) ⟨a,0,l,c,o⟩ 124=false/\a8 (gq p) ⟨a,0,l,c,o⟩ 41=false)->(total r<=100000/\r.length<=100000)/\bU 3 r=(gZ ((p,⟨i,0,g,e,w⟩),↑d)).2/\(a:Int)=((gZ ((p,⟨i,0,g,e,w⟩),↑d)).1.i:Nat)/\(l:Int)=((gZ ((p,⟨i,0,g,e,w⟩),↑d)).1.ae:Nat)/\c=(gZ ((p,⟨i,0,g,e,w⟩),↑d)).1.aq/\o=(gZ ((p,⟨i,0,g,e,w⟩),↑d)).1.wh:=λh=>by
   grind [DW]
  have D:=q a l c o z.i z.g;refine⟨λk1=>⟨λk2=>⟨⟨D,by decide,by decide⟩,λk3=>⟨⟨D,by decide,by decide⟩,λk4=>?_,λk4=>stop λh=>by grind⟩,λk3=>stop λh=>by grind⟩,λk2=>stop λh=>ω⟩,λk1=>stop λh=>k1 h.1⟩;have⟨b1,v,I⟩:=JV A d (t:=⟨a,0,l,c,o⟩) (by grind) z.g;obtain⟨t,ht⟩:∃t,rI (gq p) B d ⟨a,0,l,c,o⟩=t:=⟨_,rfl⟩;rw[ht] at b1 v I ⊢;have O:=b1.len;have E:=b1.op;have v:a<t.1.i:=v;obtain⟨n,rfl⟩:∃m,n=m+1:=⟨n-1,ω⟩;have u:dV (gq p) B d (n+1) ⟨a,0,l,c,o⟩ r=dV (gq p) B d n t.1 (r++[t.2]):=by
   grind [dV]
  rw[u] at i6 i7;refine⟨⟨⟨D,⟨C.1,C.2⟩,by assumption⟩,by grind [ll]⟩,by simp;omega,(⟨t.1.i,0,t.1.ae,t.1.aq,t.1.wh⟩,r++[t.2]),rfl,rfl,rfl,rfl,rfl,⟨⟨q _ _ _ _ ω b1.gm,by grind,by grind⟩,?_,?_,n,by grind,?_,?_⟩,?_⟩
  ·grind
  ·grind [fT]
  ·rw[nz0 E,b];exact i6
  ·rw[nz0 E,b];exact i7
  ·show p.1.length+30-(t.1.i:Int).toNat<p.1.length+30-(a:Int).toNat
   omega
theorem Qc6 (h:s.i<G.length) (a:s.ae<=4):RB G 1 s (d_ G s).1:=(zT (RB.refl (k:=0) ω a) h).1
theorem Qg1 (y:QD) (S:zY.pre y):G_ y:=by
 have⟨⟨p,s⟩,d⟩:=y;obtain⟨h0,E,h1⟩:fc (p,s)/\(0<=d/\d<=20)/\s.i<p.1.length:=S;have⟨i,g,es,f⟩:=h0.out;have⟨_,_,_,e,w⟩:=s;cases es;obtain⟨d,rfl⟩:=Zau E.1;have hl:=f.hl;have hlen:=f.len;have q:=λ(j k:Nat) (e w:Int) (F:j<=100000) (hk:k<=4)=>(⟨f.q,F,hk,hl,hlen⟩:QF p j k).ok e w
 have A:=BC ((p,⟨i,0,g,e,w⟩),↑d);obtain⟨B,I⟩:∃B,yd ((p,⟨i,0,g,e,w⟩),↑d)=B:=⟨_,rfl⟩;rw[I] at A;have m:∀U,yd ((p,U),↑d)=B:=λ_=>I
 have u:fH ((p,⟨i,0,g,e,w⟩),↑d)=fG (gq p) B d ⟨i,0,g,e,w⟩:=by unfold fH;rw[aI,m];rfl
 have⟨b1,L,G⟩:=DQ A d (t:=⟨i,0,g,e,w⟩) (by grind) f.g;obtain⟨t,ht⟩:∃t,fG (gq p) B d ⟨i,0,g,e,w⟩=t:=⟨_,rfl⟩;rw[ht] at b1 L G u;have M:=b1.len;have C:=b1.gm;have N:=b1.op;have O:=G;have⟨⟨a,to,c,b,l⟩,x⟩:=t;subst N;simp only at M C O;have Q:mv ((p,⟨i,0,g,e,w⟩),↑d)=if a8 (gq p) ⟨a,0,c,b,l⟩ 42 then(⟨a+1,0,c,b,l⟩,0,-1) else if a8 (gq p) ⟨a,0,c,b,l⟩ 43 then(⟨a+1,0,c,b,l⟩,1,-1) else if a8 (gq p) ⟨a,0,c,b,l⟩ 63 then(⟨a+1,0,c,b,l⟩,0,1) else d_ (gq p) ⟨a,0,c,b,l⟩:=by
  unfold mv;rw[aI,u];rfl
 have P:z6 ((p,⟨i,0,g,e,w⟩),↑d)=(b=0/\a<p.1.length/\(a8 (gq p) ⟨a,0,c,b,l⟩ 42\/a8 (gq p) ⟨a,0,c,b,l⟩ 43\/a8 (gq p) ⟨a,0,c,b,l⟩ 63\/a8 (gq p) ⟨a,0,c,b,l⟩ 123)):=by
  unfold z6;rw[u]
 have H:jH ((p,⟨i,0,g,e,w⟩),↑d)=if b≠0\/(gq p).length<=a then(⟨a,0,c,b,l⟩,x) else if a8 (gq p) ⟨a,0,c,b,l⟩ 42 then jl (gq p) ⟨a+1,0,c,b,l⟩ 0 (-1) x else if a8 (gq p) ⟨a,0,c,b,l⟩ 43 then jl (gq p) ⟨a+1,0,c,b,l⟩ 1 (-1) x else if a8 (gq p) ⟨a,0,c,b,l⟩ 63 then jl (gq p) ⟨a+1,0,c,b,l⟩ 0 1 x else if a8 (gq p) ⟨a,0,c,b,l⟩ 123 then jl (gq p) (d_ (gq p) ⟨a,0,c,b,l⟩).1 (d_ (gq p) ⟨a,0,c,b,l⟩).2.1 (d_ (gq p) ⟨a,0,c,b,l⟩).2.2 x else(⟨a,0,c,b,l⟩,x):=by
  unfold jH;rw[aI,m];unfold rI;rw[show fG (gq p) B ((d:Int).toNat) (nn ⟨i,0,g,e,w⟩)=(⟨a,0,c,b,l⟩,x) from ht];rfl
 have F:a<p.1.length->b=0->(a8 (gq p) ⟨a,0,c,b,l⟩ 42\/a8 (gq p) ⟨a,0,c,b,l⟩ 43\/a8 (gq p) ⟨a,0,c,b,l⟩ 63\/a8 (gq p) ⟨a,0,c,b,l⟩ 123)->jH ((p,⟨i,0,g,e,w⟩),↑d)=jl (gq p) (mv ((p,⟨i,0,g,e,w⟩),↑d)).1 (mv ((p,⟨i,0,g,e,w⟩),↑d)).2.1 (mv ((p,⟨i,0,g,e,w⟩),↑d)).2.2 x/\RB (gq p) 1 ⟨a,0,c,b,l⟩ (mv ((p,⟨i,0,g,e,w⟩),↑d)).1:=λh1 W X=>by
  have nx:RB (gq p) 1 ⟨a,0,c,b,l⟩ ⟨a+1,0,c,b,l⟩:=⟨by grind,by grind,rfl,Zah _,C⟩;grind [Qc6]
 have R:qG (p,⟨a,0,c,b,l⟩)=d_ (gq p) ⟨a,0,c,b,l⟩:=by unfold qG;rw[aI];rfl
 unfold G_;simp only[bI,bH,Zad,Zan,Zao,G0,av,a7,bm,cS,ZaY,ZaZ,u,R,P,bK (n:=a) ω];have same:jH ((p,⟨i,0,g,e,w⟩),↑d)=(⟨a,0,c,b,l⟩,x)->x=(jH ((p,⟨i,0,g,e,w⟩),↑d)).2/\(a:Int)=((jH ((p,⟨i,0,g,e,w⟩),↑d)).1.i:Nat)/\(c:Int)=((jH ((p,⟨i,0,g,e,w⟩),↑d)).1.ae:Nat)/\b=(jH ((p,⟨i,0,g,e,w⟩),↑d)).1.aq/\l=(jH ((p,⟨i,0,g,e,w⟩),↑d)).1.wh:=λh=>by grind
 refine⟨⟨⟨q i g e w f.i f.g,⟨E.1,E.2⟩,h1⟩,ω⟩,λk1=>same (H.trans (Zac (.inl k1))),λk1=>⟨λk2=>same (H.trans (Zac (.inr ω))),λk2=>⟨⟨ZaF _,k2,?_⟩,λD=>?_⟩⟩⟩
 ·have o:a<p.1.length:=ω;have rune:∀r:Int,0<=r->r<128->(p.1.getD a 0=r↔a8 (gq p) ⟨a,0,c,b,l⟩ r):=λr Z r1=>by
   rw[GU r (show a<(gq p).length by omega),ZaP];show _↔aJ (gq p) a=r
   rcases f.q.rune (i:=a) o with⟨_,h⟩ | ⟨_,h,Y⟩
   ·rw[h]
   ·omega
  refine⟨λv=>?_,λv=>⟨λz=>?_,λz=>⟨λv3=>?_,λv3=>⟨λK=>?_,λK=>?_⟩⟩⟩⟩
  ·grind
  ·grind
  ·grind
  ·have v:=λh=>v ((rune 42 (by decide) (by decide)).2 h)
   have z:=λh=>z ((rune 43 (by decide) (by decide)).2 h)
   have v3:=λh=>v3 ((rune 63 (by decide) (by decide)).2 h)
   rw[Q,Zaa v,Zaa z,Zaa v3];exact⟨⟨(q a c b l ω C),k2⟩,rfl,rfl,rfl,rfl,rfl,rfl,k1,o,.inr (.inr (.inr ((rune 123 (by decide) (by decide)).1 K)))⟩
  ·grind
 ·have⟨V,z2⟩:=F D.2.1 D.1 D.2.2;rw[V];generalize mv ((p,⟨i,0,g,e,w⟩),↑d)=J at*
  have z3:=z2.len;rw[nz0 z2.op];have fit:∀n:Nd,((([n]++x).length:Nat):Int)*(72:Nat)<=140737488355328:=λn=>by grind
  have T:a8 (gq p) J.1 63->aw .i64 ↑J.1.i 1=((J.1.i+1:Nat):Int):=λ_=>bK ω
  unfold jl;refine⟨⟨q _ _ _ _ ω z2.gm,by decide,by decide⟩,λk=>?_,λk=>?_⟩
  ·rw[T k,qC k,k];exact⟨fit _,rfl,rfl,rfl,rfl,rfl⟩
  ·rw[qD k,k];exact⟨fit _,rfl,rfl,rfl,rfl,rfl⟩
theorem Qg2 (y:QD) (A:DT.pre y):Ha y:=by
 have⟨⟨p,s⟩,d⟩:=y;obtain⟨h0,l,h1⟩:fc (p,s)/\(0<=d/\d<=20)/\s.i<p.1.length:=A;have⟨i,g,es,f⟩:=h0.out;have⟨_,_,_,e,w⟩:=s;cases es;obtain⟨d,rfl⟩:=Zau l.1;simp only at h1;have hl:=f.hl;have hlen:=f.len;have q:=λ(j k:Nat) (e w:Int) (z:j<=100000) (hk:k<=4)=>(⟨f.q,z,hk,hl,hlen⟩:QF p j k).ok e w
 obtain⟨B,x⟩:∃B,yd ((p,⟨i,0,g,e,w⟩),↑d)=B:=⟨_,rfl⟩;have c:∀D,yd ((p,D),↑d)=B:=λ_=>x
 have b:ix (gq p) (aO (gq p) i)=i:=DR f.q.n ω;have u:qf ((p,⟨((i+1:Nat):Int),0,g,e,w⟩),↑d,aO (gq p) i)=iQ (gq p) B d ⟨i+1,0,g,e,w⟩ i:=by
  unfold qf;rw[aI,b];show iQ (gq p) (yd ((p,_),↑d)) _ _ _=_
  rw[c];rfl
 have v:xi ((p,⟨((i+1:Nat):Int),0,g,e,w⟩),aO (gq p) i)=yq (gq p) ⟨i+1,0,g,e,w⟩ i:=by
  unfold xi;rw[aI,b];rfl
 have t:sZ ((p,⟨((i+1:Nat):Int),0,g,e,w⟩),aO (gq p) i)=rH (gq p) ⟨i+1,0,g,e,w⟩ i:=by
  unfold sZ;rw[b];rfl
 have a:fH ((p,⟨i,0,g,e,w⟩),↑d)=fG (gq p) B d ⟨i,0,g,e,w⟩:=by unfold fH;rw[aI,c];rfl
 have C:=q (i+1) g e w ω f.g;unfold Ha;simp only[bI,bH,Zad,G0,av,cS,bK (n:=i) ω,u,v,t];have E:Mu ((p,⟨((i+1:Nat):Int),0,g,e,w⟩),aO (gq p) i):=⟨by assumption,i,by grind,rfl⟩;refine⟨⟨(q i g e w ω f.g),ω⟩,ZaF _,h1,?_⟩;have G:=DS (gq p) (i+1) g i e w 4 _ rfl;rcases f.q.rune (i:=i) ω with⟨o,h⟩ | ⟨o,h,_⟩
 ·have F:=f.q.p0 i;rw[h];unfold fG at a;rw[Zaa (by grind)] at a;generalize aJ (gq p) i=r at*
  generalize fH ((p,⟨i,0,g,e,w⟩),↑d)=at_ at*
  have nx:Ps.next ⟨i,0,g,e,w⟩=⟨i+1,0,g,e,w⟩:=rfl;refine⟨λk1=>?_,λk1=>⟨λk2=>?_,λk2=>⟨λk3=>?_,λk3=>⟨λk4=>?_,λk4=>⟨λk5=>?_,λk5=>⟨λk6=>?_,λk6=>?_⟩⟩⟩⟩⟩⟩
  ·rw[Zac k1] at a;rw[a];exact⟨⟨⟨C,⟨⟨l.1,l.2⟩,by assumption⟩,i,ω,rfl⟩,by show ll _<ll _+1;unfold ll gd;simp only;omega⟩,rfl,rfl,rfl,rfl,rfl⟩
  ·grind
  ·grind
  ·rw[Zaa k1,Zaa k2,Zaa k3,Zac k4] at a;rw[a];exact⟨rfl,rfl,rfl,rfl,rfl⟩
  ·rw[Zaa k1,Zaa k2,Zaa k3,Zaa k4,Zac k5] at a;rw[a];exact⟨rfl,rfl,rfl,rfl,rfl⟩
  ·grind
  ·have W:(r=42\/r=43\/r=63\/r=123\/r=125\/r=93\/r=41\/r=124)->fc (p,⟨((i+1:Nat):Int),0,g,e,w⟩)/\[]=at_.2/\((i+1:Nat):Int)=↑at_.1.i/\(g:Int)=↑at_.1.ae/\cn (aC e 0) 4 e=at_.1.aq/\cn (aC e 0) (aO (gq p) i) w=at_.1.wh:=λh=>by
    grind
   have N:¬(r=42\/r=43\/r=63\/r=123\/r=125\/r=93\/r=41\/r=124)->[wz [(r,r)]]=at_.2/\((i+1:Nat):Int)=↑at_.1.i/\(g:Int)=↑at_.1.ae/\e=at_.1.aq/\w=at_.1.wh:=λh=>by
    grind
   refine⟨λm=>⟨λ_=>W ω,λn=>absurd m n⟩,λm1=>⟨λm=>⟨λ_=>W ω,λn=>absurd m n⟩,λm2=>⟨λm=>⟨λ_=>W ω,λn=>absurd m n⟩,λm3=>⟨λm=>⟨λ_=>W ω,λn=>absurd m n⟩,λm4=>⟨λm=>⟨λ_=>W ω,λn=>absurd m n⟩,λm5=>⟨λm=>⟨λ_=>W ω,λn=>absurd m n⟩,λm6=>⟨λm=>⟨λ_=>W ω,λn=>absurd m n⟩,λm7=>⟨λm=>⟨λ_=>W ω,λn=>absurd m n⟩,λm8=>⟨λm=>ω,λ_=>N ω⟩⟩⟩⟩⟩⟩⟩⟩⟩
 ·rw[h];have a:fH ((p,⟨i,0,g,e,w⟩),↑d)=(Ps.ax (gq p) ⟨i+1,0,g,e,w⟩ i 4,[]):=by
   rw[a];unfold fG;rw[Zac (o)];rfl
  grind
theorem Qg3 (y:QG) (O:DU.pre y):Hb y:=by
  have⟨⟨p,s⟩,d,a0⟩:=y;obtain⟨h0,⟨L,h1⟩,r⟩:fc (p,s)/\((0<=d/\d<=20)/\s.i<=p.1.length)/\xh (gq p) a0:=O;have⟨i,g,es,f⟩:=h0.out;have⟨_,_,_,e,w⟩:=s;cases es;obtain⟨d,rfl⟩:=Zau L.1;simp only at h1;have I:=JW r;have hl:=f.hl;have hlen:=f.len;have q:=λ(j k:Nat) (e w:Int) (N:j<=100000) (hk:k<=4)=>(⟨f.q,N,hk,hl,hlen⟩:QF p j k).ok e w
  obtain⟨B,o⟩:∃B,yd ((p,⟨i,0,g,e,w⟩),↑d)=B:=⟨_,rfl⟩;have H:qf ((p,⟨i,0,g,e,w⟩),↑d,a0)=iQ (gq p) B d ⟨i,0,g,e,w⟩ (ix (gq p) a0):=by
    unfold qf;rw[aI];show iQ (gq p) (yd ((p,⟨i,0,g,e,w⟩),↑d)) _ _ _=_
    rw[o];rfl
  have E:d<20->∀j k,eF ((p,⟨(j:Nat),0,(k:Nat),e,w⟩),((d+1:Nat):Int))=B ⟨j,0,k,e,w⟩:=λM j k=>by
    rw[<-o];unfold eF yd;rw[aI];simp only[Zad];rw[show 20-d=(20-(d+1))+1 by omega];rfl
  have A:um (gq p) (20-d) B:=by
    have:=BC ((p,⟨i,0,g,e,w⟩),↑d);rw[o] at this;exact this
  unfold Hb;simp only[bI,bH,Zad,Zan,Zao,G0,av,a7,bm,cS,ez0,Zbn,bK (n:=i) ω,bK (n:=d) ω,bK (n:=g) (by have:=f.g;omega)];have i2:aw .i64 ↑i 2=((i+2:Nat):Int):=by grind
  rw[i2];generalize W:qf ((p,⟨i,0,g,e,w⟩),↑d,a0)=R at*
  obtain⟨F,u⟩:∃F,ix (gq p) a0=F:=⟨_,rfl⟩;rw[u] at I H ⊢;have Z:=λer=>DS (gq p) i g F e w er a0 I.symm
  have X:Ps.next ⟨i,0,g,e,w⟩=⟨i+1,0,g,e,w⟩:=rfl;have Y:Ps.next (Ps.next ⟨i,0,g,e,w⟩)=⟨i+2,0,g,e,w⟩:=rfl;have bad:a8 (gq p) ⟨i,0,g,e,w⟩ 63->a8 (gq p) ⟨i+1,0,g,e,w⟩ 58=false->fc (p,⟨i,0,g,e,w⟩)/\[]=R.2/\(i:Int)=↑R.1.i/\(g:Int)=↑R.1.ae/\cn (aC e 0) 4 e=R.1.aq/\cn (aC e 0) a0 w=R.1.wh:=λk1 k2=>by
    have:R=(Ps.ax (gq p) ⟨i,0,g,e,w⟩ F 4,[]):=by rw[H];exact Zac ⟨k1,k2⟩
    grind
  have main:(a8 (gq p) ⟨i,0,g,e,w⟩ 63->a8 (gq p) ⟨i+1,0,g,e,w⟩ 58)->R=(if 20<=d then(Ps.ax (gq p) ⟨i,0,g,e,w⟩ F 10,[]) else if a8 (gq p) ⟨i,0,g,e,w⟩ 63=true then(eL (gq p) (B ⟨i+2,0,g,e,w⟩).1 F,(B ⟨i+2,0,g,e,w⟩).2) else if 4<=g then(Ps.ax (gq p) ⟨i,0,g,e,w⟩ F 13,[]) else(eL (gq p) (B ⟨i,0,g+1,e,w⟩).1 F,{ nd 6 with cap:=((g+1:Nat):Int),af:=1 }::(B ⟨i,0,g+1,e,w⟩).2)):=λc=>by
    grind [iQ]
  have tail:(a8 (gq p) ⟨i,0,g,e,w⟩ 63->a8 (gq p) ⟨i+1,0,g,e,w⟩ 58)->_:=λc=>by
    have m:=main c;refine(show((20:Int)<=d->fc (p,⟨i,0,g,e,w⟩)/\[]=R.2/\(i:Int)=↑R.1.i/\(g:Int)=↑R.1.ae/\cn (aC e 0) 10 e=R.1.aq/\cn (aC e 0) a0 w=R.1.wh)/\
      ((d:Int)<20->(a8 (gq p) ⟨i,0,g,e,w⟩ 63->((fc (p,⟨((i+2:Nat):Int),0,g,e,w⟩)/\Sw ((p,⟨((i+2:Nat):Int),0,g,e,w⟩),((d+1:Nat):Int)))/\ll ((p,⟨((i+2:Nat):Int),0,g,e,w⟩),((d+1:Nat):Int))+4<ll (gd ((p,⟨i,0,g,e,w⟩),↑d,a0)))/\
        (∀t,t=eF ((p,⟨((i+2:Nat):Int),0,g,e,w⟩),((d+1:Nat):Int))->t.1.an=0/\fc (p,⟨t.1.i,0,t.1.ae,t.1.aq,t.1.wh⟩)/\(t.1.i:Int)<=90000/\t.2=R.2/\R.1=eL (gq p) t.1 F))/\
       (a8 (gq p) ⟨i,0,g,e,w⟩ 63=false->((4:Int)<=g->fc (p,⟨i,0,g,e,w⟩)/\[]=R.2/\(i:Int)=↑R.1.i/\(g:Int)=↑R.1.ae/\cn (aC e 0) 13 e=R.1.aq/\cn (aC e 0) a0 w=R.1.wh)/\
        ((g:Int)<4->((fc (p,⟨i,0,((g+1:Nat):Int),e,w⟩)/\Sw ((p,⟨i,0,((g+1:Nat):Int),e,w⟩),((d+1:Nat):Int)))/\ll ((p,⟨i,0,((g+1:Nat):Int),e,w⟩),((d+1:Nat):Int))+4<ll (gd ((p,⟨i,0,g,e,w⟩),↑d,a0)))/\
        (∀t,t=eF ((p,⟨i,0,((g+1:Nat):Int),e,w⟩),((d+1:Nat):Int))->t.1.an=0/\fc (p,⟨t.1.i,0,t.1.ae,t.1.aq,t.1.wh⟩)/\(t.1.i:Int)<=90000/\t.2.length<=10000/\{ nd 6 with cap:=((g+1:Nat):Int),af:=1 }::t.2=R.2/\R.1=eL (gq p) t.1 F)))) from⟨λk=>?_,λk=>⟨λk1=>?_,λk1=>⟨λk2=>?_,λk2=>?_⟩⟩⟩)
    · grind
    · rw[Zaa ω,Zac k1] at m;have l:=cW (c k1);refine⟨⟨⟨q (i+2) g e w ω f.g,⟨ZaF _,by assumption⟩,by grind⟩,by show ll _+4<ll _;unfold ll gd;simp only;omega⟩,λt ht=>?_⟩;rw[E ω] at ht;have⟨a,a2⟩:=A ⟨i+2,0,g,e,w⟩ (by assumption) f.g;rw[<-ht] at a a2 m;have a3:=a.len;exact⟨a.op,q _ _ _ _ ω a.gm,ω,by rw[m],by rw[m]⟩
    · grind
    · rw[Zaa ω,Zaa (by grind),Zaa ω] at m;refine⟨⟨⟨q i (g+1) e w ω ω,⟨ZaF _,by assumption⟩,h1⟩,by show ll _+4<ll _;unfold ll gd;simp only;omega⟩,λt ht=>?_⟩;rw[E ω] at ht;have⟨a,a2⟩:=A ⟨i,0,g+1,e,w⟩ (by grind) (by grind);rw[<-ht] at a a2 m;have a3:=a.len;exact⟨a.op,q _ _ _ _ ω a.gm,ω,ω,by rw[m],by rw[m]⟩
  generalize eF ((p,⟨((i+2:Nat):Int),0,g,e,w⟩),((d+1:Nat):Int))=U at tail ⊢;generalize eF ((p,⟨i,0,((g+1:Nat):Int),e,w⟩),((d+1:Nat):Int))=V at tail ⊢;have G:∀t:Ps,t.an=0->(⟨t.i,0,t.ae,t.aq,t.wh⟩:Ps)=t:=λt h=>by rw[<-h]
  have l:i+1<p.1.length->(p.1.getD (i+1) 0=58↔a8 (gq p) ⟨i+1,0,g,e,w⟩ 58):=λh=>by
    rw[GU 58 (show i+1<(gq p).length by omega),ZaP];rcases f.q.rune (i:=i+1) h with⟨_,h⟩ | ⟨_,h,T⟩
    all_goals grind
  refine⟨⟨(q i g e w ω f.g),by decide,by decide⟩,λb=>⟨λJ=>bad b ?_,λJ=>⟨ZaF _,J,λP=>bad b ?_,λP=>?_⟩⟩,λb=>?_⟩
  · grind [Bv]
  · grind
  all_goals
    have c:a8 (gq p) ⟨i,0,g,e,w⟩ 63->a8 (gq p) ⟨i+1,0,g,e,w⟩ 58:=by
      grind
    have⟨Q,v⟩:=tail c;refine⟨Q,λk=>⟨λk1=>?_,λk1=>⟨((v k).2 k1).1,λk2=>?_⟩⟩⟩
    · have⟨x,z⟩:=(v k).1 k1;have⟨C,D,v3,K,v5⟩:=z U rfl;rw[G _ C,v5];exact⟨x,⟨D,v3,r⟩,K,rfl,rfl,rfl,rfl⟩
    · have⟨x,z⟩:=((v k).2 k1).2 k2;have⟨C,D,v3,K,v5,S⟩:=z V rfl;rw[G _ C,S];exact⟨x,⟨D,v3,r⟩,by rw[Zab,ZbA];omega,v5,rfl,rfl,rfl,rfl⟩
inductive Fr where
 | aG | cat | rep | yx | uk
variable {i:Nat} {G:List Gt}
def frC:Fr->br D
 | .aG=>xj | .cat=>zX | .rep=>zY | .yx=>DT | .uk=>DU
def QnB:∀i,(frC i).Y->Nat
 | .aG=>λy=>ll y+4 | .cat=>λy=>ll y+3 | .rep=>λy=>ll y+2 | .yx=>λy=>ll y+1 | .uk=>λy=>ll (gd y)
def frF:Fr->Func
 | .aG=>f70 | .cat=>f109 | .rep=>f152 | .yx=>f185 | .uk=>f210
def Qg4:Fr->tI
 | .aG=>[qF,Bx] | .cat=>[qF,Bx] | .rep=>[qF,GW] | .yx=>[yz,rR,GY,GV,zS,oL] | .uk=>[qF,rR,Mw]
def frO:∀i,(frC i).Y->cO D
 | .aG=>QaI | .cat=>QaJ | .rep=>QaK | .yx=>λ_=>ew () | .uk=>λ_=>ew ()
def frL:List Fr:=[.aG,.cat,.rep,.yx,.uk]
set_option maxRecDepth 100000 in
theorem QnC (b:Ok lg) (c:Ok oL):∀i,Ok (frC i):=
 wJ frL frC QnB (fn:=frF) (tab:=Qg4) (iH:=frO)
  (λi=>match i with
   | .aG=>⟨xg,QaE⟩ | .cat=>⟨xg,QaE⟩ | .rep=>⟨xg,QgQ⟩ | .yx=>⟨DP,tR,QgR b c,QaF b,Qc2,c⟩ | .uk=>⟨xg,tR,QgO⟩)
  (λi=>match i with
   | .aG=>by kernel_rfl | .cat=>by kernel_rfl | .rep=>by kernel_rfl | .yx=>by kernel_rfl | .uk=>by kernel_rfl)
  (λi=>match i with
   | .aG=>by kernel_rfl | .cat=>by kernel_rfl | .rep=>by kernel_rfl | .yx=>by kernel_rfl | .uk=>by kernel_rfl)
  λi=>match i with
   | .aG=>λy a=>Eq.mp (Sx y) (QgZ y a) | .cat=>λy a=>Eq.mp (Sy y) (Qg0 y a) | .rep=>λy a=>Eq.mp (Sz y) (Qg1 y a) | .yx=>λy a=>Eq.mp (SA y) (Qg2 y a) | .uk=>λy a=>Eq.mp (SB y) (Qg3 y a)
def u9 (G:List Gt):List Int:=(List.range G.length).map λi=>if eQ G i then-1 else aJ G i
def uo (G:List Gt):List Int:=(List.range (G.length+1)).map (aO G)
def Hc:br D:={ yy with f:=40 }
def QnD (y:Hc.Y):cO D:=⟨[],[],[(506,⟨Nat,[7],λx=>[(5,.ptr 0 0),(6,QsE (aO (bb y) x)),(8,QsE x)],[],λx=>[(0,.cells [.grow 14 ((u9 (bb y)).take x) 1,.grow 5 ((uo (bb y)).take x) 2,QsE 0,QsE 0,QsE 0,QsE 0] 162 false),(1,.tok 14 21),(2,.tok 5 3)],3,λx=>x<=(bb y).length,λx=>(bb y).length-x⟩)],[],1,[]⟩
def SC (y:List UInt8):Prop:=let b:=bb y;let q1:=b.length;let s:=(b_ y).1;let t:=(b_ y).2.2;let u:=(b_ y).2.1;let w:=λp:Prop=>aa ([0,0,0,0]:List Int) p;ak (ay 120 (dL y)) ([]=s/\2=u/\0=t/\True) (Iv (y.length<=1000000)/\RAL y ((∃z:Nat,aa [b] (0=aO b z/\0=(z:Int)/\[]=List.take z (u9 b)/\[]=List.take z (uo b)/\w ((Iv (z<=q1)))))/\(∀x:Nat,let d:=List.take x (u9 b);let l:=ay (x:Int) (ag b);let e:=bC (List.take x (uo b)) [aO b x];let k:=gt (0,0) b (x:Int).toNat;let f:=((d,e),bZ.mk 0 0 0 0 0);let a:=(eF (f,0)).1;let c:=((a.i:Nat):Int);let g:=((a.ae:Nat):Int);let h:=aC a.aq 0;let v:=ay c (ag d);let m:=aO (gq (d,e)) c.toNat;let j:=cn h 4 a.aq;let n:=cn h m a.wh;let o:Prop:=((eF (f,0)).2=s/\0=u/\0=t/\True);let q:Prop:=(aH 0 (x:Int)/\l/\bx (ag (bC d [k.1])) 4/\aa [d] (aa [k.1] (bx (ag e) 8/\aH 0 (x:Int)/\l/\∃z:Nat,aa [b] (aw .i64 (aO b x) k.2=aO b z/\aw .i64 (x:Int) 1=(z:Int)/\bC d [k.1]=List.take z (u9 b)/\e=List.take z (uo b)/\w ((Iv (z<=q1/\(q1-z)<(q1-x))))))));let r:Prop:=(ak (!h) (aa [a.aq,a.wh] ([]=s/\a.aq=u/\a.wh=t/\True)) (o));(Iv (x<=q1))->ak l (aH 0 (x:Int)/\l/\ak (aC k.1 65533) (aH 0 (x:Int)/\l/\ak (aC k.2 1) (bx (ag (bC d [-1])) 4/\bx (ag e) 8/\aH 0 (x:Int)/\l/\∃z:Nat,aa [b] (aw .i64 (aO b x) k.2=aO b z/\aw .i64 (x:Int) 1=(z:Int)/\bC d [-1]=List.take z (u9 b)/\e=List.take z (uo b)/\w ((Iv (z<=q1/\(q1-z)<(q1-x)))))) (q)) (q)) (bx (ag e) 8/\Iv (fc f/\Sw (f,0))/\aa ([0]:List Int) (aa [d,e] (aa ([0,0,0,0]:List Int) (ak h (aa [a.aq,c] (aa [d] (ak v (Iv (fc ((d,e),bZ.mk c 0 g a.aq a.wh)/\c<=(d.length:Int))/\aa [d,e] (aa [c,g,a.aq,a.wh] (Iv (fc ((d,e),bZ.mk c 0 g a.aq a.wh)/\True)/\aa ([4,m]:List Int) (aa [d,e] (aa [c,g,a.aq,a.wh] (ak (!(aC j 0)) (aa [j,n] ([]=s/\j=u/\n=t/\True)) (o))))))) (r)))) (aa [a.aq] (r)))))))))
theorem jc (G:List Gt):(u9 G).length=G.length:=by grind [u9]
theorem ln (G:List Gt):(uo G).length=G.length+1:=by grind [uo]
theorem Hd (h:i<G.length):(u9 G)[i]'(by rw[jc];exact h)=if eQ G i then-1 else aJ G i:=by simp[u9]
theorem xk (h:i<=G.length):(uo G)[i]'(by rw[ln];omega)=aO G i:=by simp[uo]
theorem eo {α:Type} {l:List α} (h:i<l.length) (d:α):l.getD i d=l[i]:=by grind
def Yu (h:i<G.length):eQ G i=(decide ((G.getD i (0,0)).1=65533)&&decide ((G.getD i (0,0)).2=1)):=JO h
theorem SD (y:By):gq (u9 (bb y),uo (bb y))=bb y:=by
 have d:=(ni y.length y).2;refine Zdx (by rw[xf,jc]) λi h1 a=>?_
 have c:i<(u9 (bb y)).length:=by grind [jc]
 have b:(gq (u9 (bb y),uo (bb y)))[i]=(if (u9 (bb y)).getD i 0= -1 then 65533 else(u9 (bb y)).getD i 0,(uo (bb y)).getD (i+1) 0-(uo (bb y)).getD i 0):=by simp[gq]
 rw[b,eo c,eo (by rw[ln];omega),eo (by rw[ln];omega),Hd a,xk ω,xk ω,gR a];have f:aJ (bb y) i=(bb y)[i].1:=by grind [aJ]
 have e:=Jy y i;grind [DO]
theorem SE (y:By) (h:(bb y).length<=1000):Bw (u9 (bb y),uo (bb y)):=by
 have e:=SD y;refine⟨by grind [jc],λi hi=>?_,λi hi=>?_,by grind [ln,jc],by grind [F5],by rw[e];exact(ni y.length y).2,by rw[e];exact Jy y⟩
 ·grind [Hd,jc]
 ·grind [jc,ln,xk]
theorem QnF (y:By) (v:Hc.pre y):SC y:=by
 have hl:=DM y;have C:=(ni y.length y).2;have o:=xc (G:=bb y) C;unfold SC;simp only[bI,bH,av,lb,a7,bm,Zad,Zan,Zao,cS];have J:120<y.length->b_ y=([],2,0):=λh=>Zac h
 refine⟨λh=>by grind,λh=>⟨ω,⟨0,by rfl,rfl,by simp,by simp,Zaj _⟩,λx O=>⟨λc=>?_,λc=>?_⟩⟩⟩
 ·have b:x<(bb y).length:=ω;have b1:=o x ω;have A:=o (x+1) ω;rw[gR b] at A;have p:=jc (bb y);have P:=ln (bb y);have nxt:∀r,r=(if eQ (bb y) x then-1 else aJ (bb y) x)->((((List.take x (u9 (bb y))++[r]).length:Nat):Int)*(4:Nat)<=140737488355328)/\((((List.take x (uo (bb y))++[aO (bb y) x]).length:Nat):Int)*(8:Nat)<=140737488355328)/\0<=(x:Int)/\(x:Int)<((bb y).length:Int)/\∃z:Nat,aw .i64 (aO (bb y) x) ((bb y).getD x (0,0)).2=aO (bb y) z/\aw .i64 (x:Int) 1=(z:Int)/\List.take x (u9 (bb y))++[r]=List.take z (u9 (bb y))/\List.take x (uo (bb y))++[aO (bb y) x]=List.take z (uo (bb y))/\z<=(bb y).length/\(bb y).length-z<(bb y).length-x:=λr N=>by
   refine⟨by simp;omega,by simp;omega,ZaF _,c,x+1,?_,ba ω ω,?_,?_,b,ω⟩
   ·rw[ba ω ω,gR b]
   ·grind [List.take_succ,Hd]
   ·grind [List.take_succ,xk]
  have d:=Yu b;refine⟨ZaF _,c,λk1=>⟨ZaF _,c,λk2=>?_,λk2=>?_⟩,λk1=>?_⟩
  ·grind
  ·exact⟨ZaF _,c,nxt _ (by rw[d,ZaN k2,Zbw];rfl)⟩
  ·exact⟨ZaF _,c,nxt _ (by rw[d,ZaN k1,Zcw];rfl)⟩
 ·have f:x=(bb y).length:=ω;subst f;have H:List.take (bb y).length (u9 (bb y))=u9 (bb y):=ZaA (by rw[jc];omega);have I:List.take (bb y).length (uo (bb y))++[aO (bb y) (bb y).length]=uo (bb y):=by
   have L:(bb y).length<(uo (bb y)).length:=by rw[ln];omega
   have M:=ZbE (l:=uo (bb y)) (i:=(bb y).length);grind [xk,ln]
  rw[H,I];have u:=SE y ω;have m:=SD y;have q:=λ(j k:Nat) (e w:Int) (D:j<=100000) (hk:k<=4)=>(⟨u,D,hk,xf _,u.len⟩:QF (u9 (bb y),uo (bb y)) j k).ok e w
  obtain⟨a,n⟩:∃a,eF (((u9 (bb y),uo (bb y)),⟨0,0,0,0,0⟩),0)=a:=⟨_,rfl⟩;have B:a=Bk (bb y) 21 0 Oa:=by
   rw[<-n];unfold eF;rw[aI];show tH (gq (u9 (bb y),uo (bb y))) (Bk (gq (u9 (bb y),uo (bb y))) 20 1) 0 Oa=_
   rw[m];rfl
  obtain⟨g,E⟩:=BA (bb y) 21 0 Oa (Zaj _) (Zaj _);rw[<-B] at g E;have p:=jc (bb y);have Q:=g.len;have F:=g.gm;rw[n,m,p];obtain⟨s,hs⟩:∃s,(if a.1.aq=0/\a.1.i<(bb y).length then a.1.ax (bb y) a.1.i 4 else a.1)=s:=⟨_,rfl⟩;have K:b_ y=if s.aq≠0 then([],s.aq,s.wh) else(a.2,0,0):=by
   grind [b_,F6,FV]
  have t:=q a.1.i a.1.ae a.1.aq a.1.wh ω F;refine⟨by grind,⟨q 0 0 0 0 ω ω,⟨ZaQ _,ω⟩,ZaF _⟩,λk=>⟨λk1=>⟨⟨t,ω⟩,t,λk2=>?_,λk2=>?_⟩,λk1=>⟨λk2=>absurd k k2,λ_=>?_⟩⟩,λk=>⟨λ_=>?_,λk2=>absurd k2 k⟩⟩
  ·grind [wrE,wrW]
  ·grind [cn]
  ·grind
  ·grind
def Qg5 (h1:Ok wR) (a:Ok lg) (b:Ok oL):Ok Hc:=okZ [wR,xj,yz,rR] f40 QnD ⟨h1,QnC a b .aG,DP,tR⟩ QnF
def SF (x:Nd):Option (Nd×Int):=
 if x.op=1\/x.op=7\/x.op=8 then some (⟨x.op,[],0,0,false,0,x.af⟩,0)
 else if x.op=2 then(if x.r=aV x.r then some (⟨x.op,x.r,0,0,false,0,x.af⟩,0) else none)
 else if x.op=3\/x.op=4 then(if x.af<2 then none else some (⟨x.op,[],0,0,false,0,x.af⟩,x.af))
 else if x.op=5 then(if x.mn<0\/30<x.mn\/30<x.mx\/x.mx< -1\/(0<=x.mx/\x.mx<x.mn) then none else some (⟨x.op,[],x.mn,x.mx,x.lz,0,x.af⟩,1))
 else if x.op=6 then(if x.cap<1\/4<x.cap then none else some (⟨x.op,[],0,0,false,x.cap,x.af⟩,1))
 else none
def SH (x:Nd):Nd×Int:=lk ((SF x).getD (nd 0,0))
abbrev WY:=List Nd×Int×Int
def DX (y:WY):Nd:=y.1.getD y.2.1.toNat (nd 0)
def ob:Option Nat->Int
 | none=>-1
 | some b=>b
def nr (y:WY):Option Nat:=fW y.1 (241-y.2.2.toNat) y.2.1.toNat
def inW (args:List (AV D.E)) (s:St D.E):C WY:=match args with
 | [l,a,d]=>az (aU D s 7 l) λl=>aL (cA a) λ_ a=>aL (cA d) λ_ d=>.ret ((l:List Nd),a,d)
 | _=>.fail
def SI (y:WY):Prop:=(y.1.length<=1000000/\∀x∈y.1,ik x)/\(0<=y.2.1/\y.2.1<=2000000)/\0<=y.2.2/\y.2.2<=241
def He:br D:=bL 153 WY inW SI (λy=>[.list 7 y.1,QsE y.2.1,QsE y.2.2]) λy=>QsE (ob (lk (nr y)))
def SJ (y:WY):Prop:=y.2.1<y.1.length/\y.2.2<=240/\(SF (DX y)).isSome
def My (y:WY) (x:Option Nat×Nat):Prop:=(x.1=none\/(x.2:Int)<=(SH (DX y)).2)/\x.2<=y.1.length+1/\
 match x.1 with
 | none=>nr y=none
 | some b=>x.2<=b/\b<=y.1.length/\mm (fW y.1 (240-y.2.2.toNat)) ((SH (DX y)).2.toNat-x.2) b=nr y
def J0 (y:WY) (x:Option Nat×Nat):Nat:=if x.1=none then 0 else y.1.length+1-x.2
def QnG (y:He.Y):cO D:=⟨[],[],[(4090,⟨Option Nat×Nat,[0,2,9],λx=>[(1,QsE (ob x.1)),(10,QsE x.2)],[],λ_=>[],0,My y,J0 y⟩)],
 [(63,⟨Unit,[0,1,2],λ_=>[(7,.ptr 0 0),(8,.ptr 1 0),(9,QsE (SH (DX y)).2)],[],λ_=>[(0,.cells (D.bd 7 (DX y)) 152 false),(1,.cells (D.bd 7 (SH (DX y)).1) 152 false)],2,λ_=>SJ y,λ_=>0⟩)],1,[]⟩
def QnH (y:He.Y):Prop:=vc [He.under (λy=>241-y.2.2.toNat) (241-y.2.2.toNat),wT] f153 He QnG y
def SK:br D:=bL 112 (List Nd×Int) (λa s=>match a with
 | [l,a]=>az (aU D s 7 l) λl=>aL (cA a) λ_ a=>.ret ((l:List Nd),a)
 | _=>.fail) (λy=>SI (y.1,y.2,0)) (λy=>[.list 7 y.1,QsE y.2]) λy=>QsE (ob (lk (nr (y.1,y.2,0))))
def Mz:br D:={ GP with f:=73 }
def SM (y:List Nd) (x:Nat×Nat):Prop:=x.1<=y.length/\x.2<=x.1/\gu (y.drop x.1) x.2=gu y 0/\1<=y.length/\y.length<=480/\fW y 241 0=some y.length
def QnJ (y:Mz.Y):cO D:=⟨[],[],[(122,⟨Nat×Nat,[0],λx=>[(3,QsE ((x.2:Int)+1)),(4,QsE x.1)],[],λ_=>[],0,SM y,λx=>y.length-x.1⟩)],[],1,[]⟩
def SN (y:(List Nd)×Int×Int):Prop:=let c:=DX y;let q1:=(SH c).1;let b:=ob (lk (nr y));let f:=(SH c).2;let A:=!(aC c.af f);let B:=!(pO c.lz q1.lz);let C:=!(aC c.cap q1.cap);let D:=!(aC c.mx q1.mx);let E:=!(aC c.mn q1.mn);let q:=aw .i64 y.2.2 1;let s:=aH (ag y.1) y.2.1;let t:=!(aC (ag c.r) (ag q1.r));let a:=gt (Nd.mk 0 [] 0 0 false 0 0) y.1 y.2.1.toNat;let u:=ay a.mx a.mn;let v:=!(decide (a.r=aV a.r));let e:=λp:Prop=>aa [y.1] (aa [y.2.1,y.2.2] p);let g:Prop:=(a.af=q1.af/\a.op=c.op/\a.r=c.r/\a.mn=c.mn/\a.mx=c.mx/\a.lz=c.lz/\a.cap=c.cap/\a.af=c.af/\(Iv (SJ y)));let j:Prop:=(0=q1.mn/\0=q1.mx/\false=q1.lz/\0=q1.cap/\g);let k:Prop:=(a.op=q1.op/\[]=q1.r/\j);let h:Prop:=(∃z:Unit,e (0=f/\k));let l:Prop:=(∃z:Unit,e (1=f/\a.op=q1.op/\[]=q1.r/\a.mn=q1.mn/\a.mx=q1.mx/\a.lz=q1.lz/\0=q1.cap/\g));let m:Prop:=(ak (ay a.af 2) ((-1)=b/\True) (∃z:Unit,e (a.af=f/\k)));let n:Prop:=(ak (aC a.op 5) (aa [a.mn,a.mx,a.mx] (aa [a.lz,a.lz,a.lz] (ak (ay a.mn 0) ((-1)=b/\True) (ak (ay 30 a.mn) ((-1)=b/\True) (ak (ay 30 a.mx) ((-1)=b/\True) (ak (ay a.mx (-1)) ((-1)=b/\True) (ak (aH 0 a.mx) (ak u ((-1)=b/\True) (l)) (l)))))))) (ak (aC a.op 6) (ak (ay a.cap 1) ((-1)=b/\True) (ak (ay 4 a.cap) ((-1)=b/\True) (∃z:Unit,e (1=f/\a.op=q1.op/\[]=q1.r/\0=q1.mn/\0=q1.mx/\false=q1.lz/\a.cap=q1.cap/\g)))) ((-1)=b/\True)));let i:Prop:=(ak (aC a.op 2) (Iv (a.r.length<=2000000)/\aa [a.r] (ak v ((-1)=b/\True) (∃z:Unit,e (0=f/\a.op=q1.op/\a.r=q1.r/\j)))) (ak (aC a.op 3) (ak (aC a.op 3) (m) (n)) (ak (aC a.op 4) (m) (n))));ak s ((-1)=b/\True) (ak (ay 240 y.2.2) ((-1)=b/\True) (aH 0 y.2.1/\ay y.2.1 (ag y.1)/\(ak (aC a.op 1) (ak (aC a.op 1) (h) (i)) (ak (aC a.op 7) (ak (aC a.op 7) (h) (i)) (ak (aC a.op 8) (h) (i))))/\(∀x:Unit,(Iv (SJ y))->ak A ((-1)=b/\True) (ak E ((-1)=b/\True) (ak D ((-1)=b/\True) (ak B ((-1)=b/\True) (ak C ((-1)=b/\True) (ak t ((-1)=b/\True) ((∃z:(Option Nat)×Nat,aa [y.1] (aa [y.2.2,f] (aw .i64 y.2.1 1=ob z.1/\0=(z.2:Int)/\(Iv (My y z)))))/\(∀o:(Option Nat)×Nat,let d:=ob o.1;let w:=ay (o.2:Int) f;(Iv (My y o))->ak w (ak (aH 0 d) (Iv (SI (y.1,(d,q))/\(241-q.toNat)<(241-y.2.2.toNat))/\aa [y.1] (aa [d,q] (∃z:(Option Nat)×Nat,aa [y.1] (aa [y.2.2,f] (ob (lk (nr (y.1,(d,q))))=ob z.1/\aw .i64 (o.2:Int) 1=(z.2:Int)/\(Iv (My y z/\J0 y z<J0 y o))))))) (d=b/\True)) (d=b/\True)))))))))))
def Yv:∀y,SN y=QnH y:=λy=>by kernel_rfl
def SO (y:(List Nd)×Int):Prop:=let a:=(y.1,(y.2,(0:Int)));let q1:=ob (lk (nr a));Iv (SI a)/\aa [y.1] (aa ([y.2,0,q1]:List Int) (True))
def SP (y:List Nd):Prop:=let b:=ag y;let q1:=(y,((0:Int),(0:Int)));let d:=!(aC (ob (lk (nr q1))) b);ak (aC b 0) (false=dE y/\True) (ak (ay 480 b) (false=dE y/\True) (Iv (SI q1)/\RAL y (RAC (ak d (false=dE y/\True) ((∃z:Nat×Nat,aa [y] (1=((z.2:Int)+1)/\0=(z.1:Int)/\(Iv (SM y z))))/\(∀x:Nat×Nat,let a:=(x.1:Int);let c:=gt (Nd.mk 0 [] 0 0 false 0 0) y a.toNat;let e:=!(aC c.cap ((x.2:Int)+1));(Iv (SM y x))->ak (ay a b) (aH 0 a/\ay a b/\ak (aC c.op 6) (aH 0 a/\ay a b/\ak e (false=dE y/\True) (∃z:Nat×Nat,aa [y] (aw .i64 ((x.2:Int)+1) 1=((z.2:Int)+1)/\aw .i64 a 1=(z.1:Int)/\(Iv (SM y z/\(y.length-z.1)<(y.length-x.1)))))) (∃z:Nat×Nat,aa [y] (((x.2:Int)+1)=((z.2:Int)+1)/\aw .i64 a 1=(z.1:Int)/\(Iv (SM y z/\(y.length-z.1)<(y.length-x.1)))))) (true=dE y/\True)))))))
def z7 (x b:Nd) (k:Int):Prop:=x.af=k/\x.mn=b.mn/\x.mx=b.mx/\x.lz=b.lz/\x.cap=b.cap/\x.r.length=b.r.length
theorem Hf (x:Nd) (h:SF x=none):nj x=none:=by
 grind [SF,nj]
theorem Hg (x b:Nd) (k:Int) (h:SF x=some (b,k)):(z7 x b k->nj x=some k)/\(¬z7 x b k->nj x=none):=by
 grind [SF,nj,z7]
theorem Yy {x b:Nd} {k:Int} (h:SF x=some (b,k)):0<=k:=by
 grind [SF]
theorem QnL (y:WY) (hy:He.pre y):SN y:=by
 obtain⟨l,a,d⟩:=y;obtain⟨⟨h1,m⟩,s,F⟩:(l.length<=1000000/\∀x∈l,ik x)/\(0<=a/\a<=2000000)/\0<=d/\d<=241:=hy;obtain⟨a,rfl⟩:=Zau s.1;obtain⟨d,rfl⟩:=Zau F.1;have t:nr (l,(a:Int),(d:Int))=fW l (241-d) a:=rfl;have E:DX (l,(a:Int),(d:Int))=l.getD a (nd 0):=rfl;have X:l.getD a ⟨0,[],0,0,false,0,0⟩=l.getD a (nd 0):=rfl;unfold SN;simp only[bI,bH,Zad,Zan,Zao,ZaP,Zbi,av,cS,ZaX,ZaY,ZaZ,X,E,aI];have stop:l.length<=a\/240<d->(-1:Int)=ob (nr (l,(a:Int),(d:Int))):=λh=>by
  rw[t];cases hd:241-d with
  | zero=>rfl
  | succ n=>
   unfold fW;rw[Zac ω];rfl
 refine⟨λk=>stop (.inl ω),λk=>⟨λk2=>stop (.inr ω),λk2=>⟨s.1,k,?_,λhJ=>?_⟩⟩⟩
 ·have H:a<l.length:=ω;have hr:(l.getD a (nd 0)).r.length<=2000000:=by
   grind [List.getElem_mem,ik]
  have bad:SF (l.getD a (nd 0))=none->(-1:Int)=ob (nr (l,(a:Int),(d:Int))):=λh=>by
   rw[t,show 241-d=(240-d)+1 by omega];unfold fW;rw[Zaa ω,Hf _ h];rfl
  have J:∀b g,SF (l.getD a (nd 0))=some (b,g)->SH (l.getD a (nd 0))=(b,g)/\SJ (l,(a:Int),(d:Int)):=λb g h=>by
   refine⟨by grind [SH,aI],show(a:Int)<(l.length:Int) by omega,k2,?_⟩;grind
  clear t;generalize nr (l,(a:Int),(d:Int))=W at*
  generalize SJ (l,(a:Int),(d:Int))=q at*
  generalize l.getD a (nd 0)=x at*
  generalize SH x=Q at*
  unfold SF at bad J;obtain⟨op,r,mn,mx,lz,cap,af⟩:=x;simp only at bad J hr ⊢;generalize aV r=D at*
  clear m stop;have R:(op=1\/op=7\/op=8)->Q=(⟨op,[],0,0,false,0,af⟩,0)/\q:=λh=>J _ _ (by rw[Zac h])
  have S:op=2->r=D->Q=(⟨op,r,0,0,false,0,af⟩,0)/\q:=λh o=>J _ _ (by grind)
  have T:(op=3\/op=4)->¬af<2->Q=(⟨op,[],0,0,false,0,af⟩,af)/\q:=λh o=>J _ _ (by grind)
  have U:op=5->¬(mn<0\/30<mn\/30<mx\/mx< -1\/(0<=mx/\mx<mn))->Q=(⟨op,[],mn,mx,lz,0,af⟩,1)/\q:=λh o=>J _ _ (by grind)
  have V:op=6->¬(cap<1\/4<cap)->Q=(⟨op,[],0,0,false,cap,af⟩,1)/\q:=λh o=>J _ _ (by grind)
  have L:op=2->¬r=D->-1=ob W:=λh o=>bad (by grind)
  have M:(op=3\/op=4)->af<2->-1=ob W:=λh o=>bad (by grind)
  have N:op=5->(mn<0\/30<mn\/30<mx\/mx< -1\/(0<=mx/\mx<mn))->-1=ob W:=λh o=>bad (by grind)
  have O:op=6->(cap<1\/4<cap)->-1=ob W:=λh o=>bad (by grind)
  have P:¬(op=1\/op=7\/op=8)->op≠2->¬(op=3\/op=4)->op≠5->op≠6->-1=ob W:=λh1 m s F h5=>bad (by grind)
  clear bad J;generalize ob W=w at*
  obtain⟨u,v⟩:=Q;have q0:∀{p:Prop},(op=1\/op=7\/op=8)->(u=(⟨op,[],0,0,false,0,af⟩:Nd)->v=0->q->p)->p:=λh f=>by
   grind
  have q2:∀{p:Prop},op=2->r=D->(u=(⟨op,r,0,0,false,0,af⟩:Nd)->v=0->q->p)->p:=λh o f=>by
   grind
  have q3:∀{p:Prop},(op=3\/op=4)->¬af<2->(u=(⟨op,[],0,0,false,0,af⟩:Nd)->v=af->q->p)->p:=λh o f=>by
   grind
  have q5:∀{p:Prop},op=5->¬(mn<0\/30<mn\/30<mx\/mx< -1\/(0<=mx/\mx<mn))->(u=(⟨op,[],mn,mx,lz,0,af⟩:Nd)->v=1->q->p)->p:=λh o f=>by
   grind
  have q6:∀{p:Prop},op=6->¬(cap<1\/4<cap)->(u=(⟨op,[],0,0,false,cap,af⟩:Nd)->v=1->q->p)->p:=λh o f=>by
   grind
  clear R S T U V
  with_reducible repeat' first | apply And.intro | intro _
  all_goals first
   | assumption
   | (exfalso;omega)
   | (apply P<;>omega)
   | (exact L (by assumption) (by assumption))
   | (apply M<;>omega)
   | (apply N<;>omega)
   | (apply O<;>omega)
   | (refine q0 ω λh1 m s=>?_;subst h1;subst m;first | rfl | assumption)
   | (refine q2 (by assumption) (by assumption) λh1 m s=>?_;subst h1;subst m;first | rfl | assumption)
   | (refine q3 ω ω λh1 m s=>?_;subst h1;subst m;first | rfl | assumption)
   | (refine q5 ω ω λh1 m s=>?_;subst h1;subst m;first | rfl | assumption)
   | (refine q6 ω ω λh1 m s=>?_;subst h1;subst m;first | rfl | assumption)
 ·obtain⟨j1,I,K⟩:=hJ;rw[E] at K;have H:a<l.length:=ω;obtain⟨⟨b,g⟩,B⟩:=Option.isSome_iff_exists.mp K;have hQ:SH (l.getD a (nd 0))=(b,g):=by grind [SH,aI]
  obtain⟨g1,g2⟩:=Hg _ _ _ B;have A:z7 (l.getD a (nd 0)) b g->nr (l,(a:Int),(d:Int))=mm (fW l (240-d)) g.toNat (a+1):=λh=>by
   rw[t,show 241-d=(240-d)+1 by omega];grind [fW]
  have j:¬z7 (l.getD a (nd 0)) b g->(-1:Int)=ob (nr (l,(a:Int),(d:Int))):=λh=>by
   rw[t,show 241-d=(240-d)+1 by omega];unfold fW;rw[Zaa ω,g2 h];rfl
  rw[hQ];simp only;refine⟨λe=>j λh=>absurd h.1 (by assumption),λe1=>⟨λe=>j λh=>absurd h.2.1 (by assumption),λe2=>⟨λe=>j λh=>absurd h.2.2.1 (by assumption),λe3=>⟨λe=>j λh=>absurd h.2.2.2.1 (by grind [pO]),λe4=>⟨λe=>j λh=>absurd h.2.2.2.2.1 (by assumption),λe5=>⟨λe=>j λh=>by have:=h.2.2.2.2.2;omega,λe6=>?_⟩⟩⟩⟩⟩⟩;have G:z7 (l.getD a (nd 0)) b g:=⟨by assumption,by assumption,by assumption,by grind [pO],by assumption,ω⟩;have eW:=A G;have C:∀x:Option Nat×Nat,My (l,(a:Int),(d:Int)) x↔((x.1=none\/(x.2:Int)<=g)/\x.2<=l.length+1/\match x.1 with
    | none=>nr (l,(a:Int),(d:Int))=none
    | some c=>x.2<=c/\c<=l.length/\mm (fW l (240-d)) (g.toNat-x.2) c=nr (l,(a:Int),(d:Int))):=λx=>by
   grind [My]
  clear t A j G;generalize nr (l,(a:Int),(d:Int))=W at*
  refine⟨⟨(some (a+1),0),by rw[bK ω];rfl,rfl,(C _).mpr ⟨.inr ?_,by simp,by simp,H,by grind⟩⟩,λx hx=>?_⟩
  ·exact Yy B
  obtain⟨z,i⟩:=x;obtain⟨i1,i2,i3⟩:=(C _).mp hx;have hiL:(i:Int)=(i:Int):=rfl;cases z with
  | none=>
   have i3:W=none:=i3;rw[i3];refine⟨λe=>⟨λe2=>absurd (show(0:Int)<=-1 from e2) (by decide),λ_=>rfl⟩,λ_=>rfl⟩
  | some c=>
   obtain⟨c1,c2,c3⟩:i<=c/\c<=l.length/\mm (fW l (240-d)) (g.toNat-i) c=W:=i3;have i1:(i:Int)<=g:=i1.resolve_left (by simp);have I:(d:Int)<=240:=I;refine⟨λe=>⟨λe2=>?_,λe2=>absurd (show(c:Int)<0 from e2) ω⟩,λe=>?_⟩
   ·have e:(i:Int)<g:=e;have Y:aw .i64 (d:Int) 1=((d+1:Nat):Int):=bK ω;have Z:aw .i64 (i:Int) 1=((i+1:Nat):Int):=bK ω;rw[Y];refine⟨⟨⟨⟨h1,m⟩,⟨show(0:Int)<=(c:Int) by omega,show(c:Int)<=2000000 by omega⟩,show(0:Int)<=((d+1:Nat):Int) by omega,show((d+1:Nat):Int)<=241 by omega⟩,ω⟩,(fW l (240-d) c,i+1),?_,Z,(C _).mpr ⟨.inr (show((i+1:Nat):Int)<=g by omega),show i+1<=l.length+1 by omega,?_⟩,?_⟩
    ·rw[show nr (l,ob (some c),((d+1:Nat):Int))=fW l (241-(d+1)) c from rfl,show 241-(d+1)=240-d by omega]
    ·rw[show g.toNat-i=(g.toNat-(i+1))+1 by omega] at c3;unfold mm at c3;have B:=mr l (240-d) c
     revert c3 B
     grind
    ·grind [J0]
   ·have e:g<=(i:Int):=e;rw[show g.toNat-i=0 by omega] at c3;grind [mm]
def QnM (y:List Nd×Int) (a:SK.pre y):SO y:=by
 unfold SO;simp only[ie,Zai,lf];exact a
def Qg6 (h:Ok gG):Ok He:=Ob (λy=>241-y.2.2.toNat) Yv (Q5 h) QnL
def Qg7 (h:Ok gG):Ok SK:=okZ [He] f112 (λ_=>ew ()) (Qg6 h) QnM
theorem QnN (y:List Nd) (q:Mz.pre y):SP y:=by
 have o:∀x∈y,ik x:=q;unfold SP;simp only[bI,bH,Zad,Zan,Zao,ZaP,Zbi,av,cS,ZaX,ZaY,ZaZ,aI];have d:nr (y,(0:Int),(0:Int))=fW y 241 0:=rfl;have f:=Mn y;rw[d,<-f];clear f d;unfold GO;refine⟨λk=>?_,λk=>⟨λk2=>?_,λk2=>⟨⟨⟨show y.length<=1000000 by omega,o⟩,⟨show(0:Int)<=0 by omega,show(0:Int)<=2000000 by omega⟩,show(0:Int)<=0 by omega,show(0:Int)<=241 by omega⟩,λk3=>?_,λk3=>⟨⟨(0,0),rfl,rfl,Zaj _,Zah _,rfl,ω,ω,?_⟩,λx p=>?_⟩⟩⟩⟩
 ·grind
 ·grind
 ·have e:¬fW y 241 0=some y.length:=λh=>k3 (by rw[h];rfl)
  grind
 ·revert k3
  generalize fW y 241 0=w;intro k3;cases w with
  | none=>exact absurd (show(-1:Int)=(y.length:Int) from k3) ω
  | some b=>rw[show b=y.length by have:(b:Int)=(y.length:Int):=k3;omega]
 ·obtain⟨i,g⟩:=x;obtain⟨c1,c2,c3,c4,c5,c6⟩:i<=y.length/\g<=i/\gu (y.drop i) g=gu y 0/\1<=y.length/\y.length<=480/\fW y 241 0=some y.length:=p;rw[show decide (1<=y.length)=true by grind,show decide (y.length<=480)=true by grind,c6,ZcB,ZbI,ZbI,ZbI,<-c3];refine⟨λe=>?_,λe=>?_⟩
  ·have e:i<y.length:=ω;have n:aw .i64 (i:Int) 1=((i+1:Nat):Int):=bK ω;have m:aw .i64 ((g:Int)+1) 1=((g+1:Nat):Int)+1:=by grind
   have l:y.getD i ⟨0,[],0,0,false,0,0⟩=y.getD i (nd 0):=rfl;have j:y.drop i=y.getD i (nd 0)::y.drop (i+1):=by
    simp_all
   generalize a:gu y 0=r at*
   simp only[l,n,m,Zad] at c3 ⊢;rw[j] at c3 ⊢;unfold gu at c3 ⊢;refine⟨ω,ω,λc=>⟨ω,ω,λe2=>?_,λe2=>?_⟩,λc=>?_⟩
   ·grind
   ·rw[Zac c,Zac e2] at c3;exact⟨(i+1,g+1),rfl,rfl,⟨by assumption,ω,c3.trans a.symm,c4,c5,c6⟩,ω⟩
   ·rw[Zaa c] at c3;exact⟨(i+1,g),rfl,rfl,⟨by assumption,ω,c3.trans a.symm,c4,c5,c6⟩,ω⟩
  ·have e:¬i<y.length:=ω;rw[show y.drop i=[] from Za9 ω];rfl
def QaL (h:Ok gG):Ok Mz:=okZ [SK] f73 QnJ (Qg7 h) QnN
def bA:ah:=.mk 0 [] 0 0 false 0 0 []
def Hh (v:AV D.E):C ah:=az (asAgg v) λcs=>qi D 15 cs
def gS (op:Int):List ah->ah
 | []=>.mk 1 [] 0 0 false 0 0 []
 | [k]=>k
 | a=>.mk op [] 0 0 false 0 0 a
def Qc8 (args:List (AV D.E)) (s:St D.E):C (Int×List ah):=match args with
 | [o,l]=>aL (cA o) λ_ o=>az (aU D s 15 l) λl=>.ret (o,(l:List ah))
 | _=>.fail
def MA:br D:=bL 147 (Int×List ah) Qc8 (λy=>y.2.length<=1000000) (λy=>[QsE y.1,.list 15 y.2]) λy=>.agg (D.bd 15 (lk (gS y.1 y.2)))
def ep (x:Nd):Bool:=x.op==5&&!x.lz&&x.mx==-1&&decide (x.mn<=1)
def SQ:br D:=bL 151 Nd (λa _=>Qgx a) (λ_=>True) (λy=>[.agg (D.bd 7 y)]) λy=>.bool (ep y)
def aF (op:Int) (a:List ah):List ah:=a.flatMap λk=>if k.op=op then k.af else[k]
def MB:br D:=bL 144 (Int×List ah) Qc8 (λy=>y.2.length<=1000000/\(aF y.1 y.2).length<=1000000) (λy=>[QsE y.1,.list 15 y.2]) λy=>.list 15 (aF y.1 y.2)
def QnQ (y:MB.Y):cO D:=⟨[],[],[(58,⟨Nat,[0,8,9],λx=>[(5,.grow 15 (aF y.1 (y.2.take x)) 0),(10,QsE x)],[],λ_=>[(0,.tok 15 155)],1,λx=>x<=y.2.length/\(aF y.1 (y.2.take x)).length<=1000000,λx=>y.2.length-x⟩)],[],1,[]⟩
def jo (f:List Nd->Option (ah×List Nd)):Nat->List Nd->Option (List ah×List Nd)
 | 0,l=>some ([],l)
 | k+1,l=>match f l with
  | none=>none
  | some (t,a)=>match jo f k a with
   | none=>none
   | some (c,b)=>some (t::c,b)
def ft:Nat->List Nd->Option (ah×List Nd)
 | 0,_=>none
 | _+1,[]=>none
 | n+1,x::l=>match jo (ft n) x.af.toNat l with
  | none=>none
  | some (b,a)=>some (.mk x.op x.r x.mn x.mx x.lz x.cap x.af b,a)
def ck (l:List Nd):ah×List Nd:=lk ((ft l.length l).getD (bA,[]))
def Hi:br D:=bL 66 (List Nd) X_ (λy=>y.length<=1000000/\(ft y.length y).isSome) (λy=>[.list 7 y]) λy=>.tuple [.agg (D.bd 15 (ck y).1),.list 7 (ck y).2]
def s5 (y:List Nd):Nd:=y.getD 0 (nd 0)
def MC (y:List Nd) (x:List ah×List Nd×Nat):Prop:=x.1.length=x.2.2/\x.2.2<=(s5 y).af.toNat/\x.2.1.length<y.length/\x.1.length+x.2.1.length+1<=y.length/\∃a l,jo (ft x.2.1.length) ((s5 y).af.toNat-x.2.2) x.2.1=some (a,l)/\x.1++a=(ck y).1.af/\l=(ck y).2
def QnS (y:Hi.Y):cO D:=⟨[],[],[(122,⟨List ah×List Nd×Nat,[],λx=>[(0,.list 7 x.2.1),(2,.ptr 2 0),(4,.ptr 0 0),(14,QsE (s5 y).af),(15,QsE x.2.2)],[],λx=>[(0,.cells [QsE (s5 y).op,.list 6 (s5 y).r,QsE (s5 y).mn,QsE (s5 y).mx,.bool (s5 y).lz,QsE (s5 y).cap,QsE (s5 y).af,.grow 15 x.1 1] 155 false),(1,.tok 15 155),(2,.cells (D.bd 15 bA) 155 false)],3,MC y,λx=>(s5 y).af.toNat-x.2.2⟩)],[],1,[]⟩
def QnT (y:Hi.Y):Prop:=vc [Hi.under (λy=>y.length) y.length] f66 Hi QnS y
mutual
def aD:ah->List Nd
 | .mk op r mn mx lz cap _ ks=>⟨op,r,mn,mx,lz,cap,ks.length⟩::aA ks
def aA:List ah->List Nd
 | []=>[]
 | t::ts=>aD t++aA ts
end
def cZ (t:ah):List Nd:=lk (aD t)
def dc (t:ah):Nat:=lk (SizeOf.sizeOf t)
def dA (t:ah):Prop:=(aD t).length<=1000000/\∀x∈aD t,ik x
def Hj:br D:=bL 68 ah (λa _=>match a with
 | [t]=>Hh t
 | _=>.fail) dA (λy=>[.agg (D.bd 15 y)]) λy=>.list 7 (cZ y)
def oR (y:ah) (n:Nat):List Nd:=lk (⟨y.op,y.r,y.mn,y.mx,y.lz,y.cap,y.af.length⟩::aA (y.af.take n))
def QnU (y:Hj.Y):cO D:=⟨[],[],[(506,⟨Nat,[20,21],λx=>[(4,.grow 7 (oR y x) 0),(22,QsE x)],[],λ_=>[(0,.tok 7 152)],1,λx=>x<=y.af.length,λx=>y.af.length-x⟩)],[],1,[]⟩
def QnV (y:Hj.Y):Prop:=vc [Hj.under dc (dc y)] f68 Hj QnU y
def SR (y:Int×(List ah)):Prop:=let a:=lk (gS y.1 y.2);let q1:=gt (ah.mk 0 [] 0 0 false 0 0 []) y.2 0;ak (aC (ag y.2) 0) (1=a.op/\[]=a.r/\0=a.mn/\0=a.mx/\false=a.lz/\0=a.cap/\0=a.nk/\[]=a.af/\True) (ak (aC (ag y.2) 1) (Tt 1 (ay 0 (ag y.2)/\q1.op=a.op/\q1.r=a.r/\q1.mn=a.mn/\q1.mx=a.mx/\q1.lz=a.lz/\q1.cap=a.cap/\q1.nk=a.nk/\q1.af=a.af/\True)) (y.1=a.op/\[]=a.r/\0=a.mn/\0=a.mx/\false=a.lz/\0=a.cap/\0=a.nk/\y.2=a.af/\True))
def SS (y:Nd):Prop:=ak (aC y.op 5) (ak (!y.lz) (ak (aC y.mx (-1)) (aH y.mn 1=ep y/\True) (false=ep y/\True)) (false=ep y/\True)) (false=ep y/\True)
def SU (y:Int×(List ah)):Prop:=let b:=y.2.length;let q1:=ag y.2;let d:=λp:Prop=>aa [y.1] (aa [y.2] (aa [q1] p));(∃z:Nat,let e:=aF y.1 (List.take z y.2);d ([]=e/\0=(z:Int)/\(Iv (z<=b/\e.length<=1000000))))/\(∀x:Nat,let c:=aF y.1 (List.take x y.2);let a:=gt (ah.mk 0 [] 0 0 false 0 0 []) y.2 (x:Int).toNat;let f:=bC c [ah.mk a.op a.r a.mn a.mx a.lz a.cap a.nk a.af];(Iv (x<=b/\c.length<=1000000))->ak (ay (x:Int) q1) (aH 0 (x:Int)/\ay (x:Int) q1/\ak (aC a.op y.1) (bx (ag (bC c a.af)) 96/\∃z:Nat,let g:=aF y.1 (List.take z y.2);d (bC c a.af=g/\aw .i64 (x:Int) 1=(z:Int)/\(Iv ((z<=b/\g.length<=1000000)/\(b-z)<(b-x))))) (bx (ag f) 96/\∃z:Nat,let h:=aF y.1 (List.take z y.2);d (f=h/\aw .i64 (x:Int) 1=(z:Int)/\(Iv ((z<=b/\h.length<=1000000)/\(b-z)<(b-x)))))) (c=aF y.1 y.2/\True))
abbrev RAD (p:Prop):Prop:=aa ([[]]:List (List (Int×Int))) p
abbrev RAH (p:Prop):Prop:=aa ([[]]:List (List ah)) p
def SV (y:List Nd):Prop:=let a:=s5 y;let q1:=(ck y).1;let b:=gt (Nd.mk 0 [] 0 0 false 0 0) y 0;let f:=λp:Prop=>RAC (RAD (RAB p));let g:=λp:Prop=>RAB (RAH p);Tt 1 (ay 0 (ag y)=true/\Tt 1 (aH 1 (ag y)=true/\(∃z:(List ah)×(List Nd)×Nat,qW y 1=z.2.1/\b.af=a.af/\0=(z.2.2:Int)/\b.op=a.op/\b.r=a.r/\b.mn=a.mn/\b.mx=a.mx/\b.lz=a.lz/\b.cap=a.cap/\b.af=a.af/\[]=z.1/\f (false=false/\g ((Iv (MC y z)))))/\(∀x:(List ah)×(List Nd)×Nat,let d:=x.2.1.length;let c:=(ck x.2.1).1;let h:=ay (x.2.2:Int) a.af;let e:=bC x.1 [ah.mk c.op c.r c.mn c.mx c.lz c.cap c.nk c.af];(Iv (MC y x))->ak h (Iv ((d<=1000000/\Option.isSome (ft d x.2.1)=true)/\d<y.length)/\RAL x.2.1 (bx (ag e) 96=true/\∃z:(List ah)×(List Nd)×Nat,(ck x.2.1).2=z.2.1/\aa [a.af] (aw .i64 (x.2.2:Int) 1=(z.2.2:Int)/\aa [a.op] (aa [a.r] (aa [a.mn,a.mx] (aa [a.lz] (aa [a.cap,a.af] (e=z.1/\f (false=false/\g ((Iv (MC y z/\(a.af.toNat-z.2.2)<(a.af.toNat-x.2.2))))))))))))) (a.op=q1.op/\a.r=q1.r/\a.mn=q1.mn/\a.mx=q1.mx/\a.lz=q1.lz/\a.cap=q1.cap/\a.af=q1.nk/\x.1=q1.af/\x.2.1=(ck y).2/\True))))
def YC:∀y,SV y=QnT y:=λy=>by kernel_rfl
abbrev RA0 (v:ah) (p:Prop):Prop:=aa [v.op] (aa [v.r] (aa [v.mn] (aa [v.mx] (aa [v.lz] (aa [v.cap] (aa [v.nk] p))))))
def SX (y:ah):Prop:=let b:=y.af;let q1:=ag b;bx (ag y.r) 8=true/\(∃z:Nat,RAM b q1 (([Nd.mk y.op y.r y.mn y.mx y.lz y.cap q1]:List Nd)=oR y z/\0=(z:Int)/\(Iv (z<=b.length))))/\(∀x:Nat,let c:=b.length;let a:=gt (ah.mk 0 [] 0 0 false 0 0 []) b (x:Int).toNat;let d:=ah.mk a.op a.r a.mn a.mx a.lz a.cap a.nk a.af;let e:=bC (oR y x) (cZ d);(Iv (x<=c))->ak (ay (x:Int) q1) (aH 0 (x:Int)=true/\ay (x:Int) q1=true/\Iv (dA d/\dc d<dc y)/\RA0 a (RAL a.af (bx (ag e) 72=true/\∃z:Nat,aa [b] (aa [q1] (e=oR y z/\aw .i64 (x:Int) 1=(z:Int)/\(Iv (z<=c/\(c-z)<(c-x)))))))) (oR y x=cZ y/\True))
def YD:∀y,SX y=QnV y:=λy=>by kernel_rfl
theorem bO (t:ah):ah.mk t.op t.r t.mn t.mx t.lz t.cap t.nk t.af=t:=by cases t;rfl
theorem QnW (y:Int×List ah) (d:MA.pre y):SR y:=by
 obtain⟨op,c⟩:=y;unfold SR;simp only[bI,bH,av,cS,aI]
 match c with
 | []=>exact⟨λ_=>⟨rfl,rfl,rfl,rfl,rfl,rfl,rfl,rfl⟩,λh=>absurd rfl h⟩
 | [k]=>exact⟨λh=>by grind,λ_=>⟨λ_=>⟨by simp,rfl,rfl,rfl,rfl,rfl,rfl,rfl,rfl⟩,λh=>by grind⟩⟩
 | a::b::l=>exact⟨λh=>by grind,λ_=>⟨λh=>by grind,λ_=>⟨rfl,rfl,rfl,rfl,rfl,rfl,rfl,rfl⟩⟩⟩
def QaM:Ok MA:=okZ [] f147 (λ_=>ew ()) trivial QnW
theorem QnX (y:Nd) (_:SQ.pre y):SS y:=by
 grind [SS,ep]
def Qg8:Ok SQ:=okZ [] f151 (λ_=>ew ()) trivial QnX
theorem Hk (op:Int) (a b:List ah):aF op (a++b)=aF op a++aF op b:=by grind [aF]
theorem ku (op:Int) (l:List ah) (n:Nat):(aF op (l.take n)).length<=(aF op l).length:=by
 grind [List.take_append_drop,Hk]
theorem cg {α:Type} {l:List α} {n:Nat} (d:α) (h:n<l.length):l.take (n+1)=l.take n++[l.getD n d]:=by
 simp_all
theorem QnY (y:Int×List ah) (c:MB.pre y):SU y:=by
 obtain⟨op,a⟩:=y;obtain⟨h1,d⟩:a.length<=1000000/\(aF op a).length<=1000000:=c;unfold SU;simp only[bI,bH,av,a7,bm,cS,bO,Zad];refine⟨⟨0,by rfl,rfl,ω,by simp[aF]⟩,λx f=>⟨λe=>⟨ω,e,λb=>?_,λb=>?_⟩,λe=>?_⟩⟩
 ·have e:x<a.length:=ω;have ht:=cg bA e;have hs:aF op (a.take (x+1))=aF op (a.take x)++(a.getD x bA).af:=by
   grind [aF]
  grind [ku]
 ·have e:x<a.length:=ω;have ht:=cg bA e;have hs:aF op (a.take (x+1))=aF op (a.take x)++[a.getD x bA]:=by
   grind [aF]
  grind [ku]
 ·grind
def Qg9:Ok MB:=okZ [] f144 QnQ trivial QnY
theorem z_ {f:List Nd->Option (ah×List Nd)} (c:∀l t a,f l=some (t,a)->a.length<l.length):∀(k:Nat) (l:List Nd) (b:List ah) (a:List Nd),jo f k l=some (b,a)->a.length<=l.length
 | 0,l,b,a,h=>by cases h;exact Zah _
 | k+1,l,b,a,h=>by
  unfold jo at h;split at h
  ·cases h
  ·rename_i t g ht
   split at h
   ·cases h
   ·rename_i e i d
    cases h;have:=c _ _ _ ht;have:=z_ c k _ _ _ d;omega
theorem rV:∀(n:Nat) (l:List Nd) (t:ah) (a:List Nd),ft n l=some (t,a)->a.length<l.length
 | 0,_,_,_,h=>nomatch h
 | _+1,[],_,_,h=>nomatch h
 | n+1,x::l,t,a,h=>by
  unfold ft at h;split at h
  ·cases h
  ·rename_i d c b
   cases h;have:=z_ (rV n) _ _ _ _ b;simp;omega
theorem oS {f g:List Nd->Option (ah×List Nd)} (N:Nat) (b:∀l t a,f l=some (t,a)->a.length<l.length) (h:∀l,l.length<=N->f l=g l):∀(k:Nat) (l:List Nd),l.length<=N->jo f k l=jo g k l
 | 0,l,_=>rfl
 | k+1,l,hl=>by
  unfold jo;rw[<-h l hl];cases e:f l with
  | none=>rfl
  | some p=>
   obtain⟨t,a⟩:=p;have:=b _ _ _ e;simp only;rw[oS N b h k a ω]
theorem DY:∀(n m:Nat) (l:List Nd),l.length<=n->l.length<=m->ft n l=ft m l
 | 0,0,l,_,_=>rfl
 | 0,m+1,l,h,_=>by
  cases l with
  | nil=>rfl
  | cons a l=>simp at h
 | n+1,0,l,_,h=>by
  cases l with
  | nil=>rfl
  | cons a l=>simp at h
 | n+1,m+1,l,h1,b=>by
  cases l with
  | nil=>rfl
  | cons a l=>
   simp only[Zae] at h1 b;unfold ft;rw[oS l.length (rV n) (λc hl=>DY n m c ω ω) _ l (Zah _)]
theorem QnZ (y:List Nd) (A:Hi.pre y):SV y:=by
 obtain⟨h1,v⟩:y.length<=1000000/\(ft y.length y).isSome:=A;cases y with
 | nil=>cases v
 | cons X b=>
 have o:s5 (X::b)=X:=rfl;obtain⟨a,c,q⟩:∃a c,jo (ft b.length) X.af.toNat b=some (a,c):=by
  grind [ft]
 have n:ck (X::b)=(ah.mk X.op X.r X.mn X.mx X.lz X.cap X.af a,c):=by
  grind [ck,aI,ft]
 unfold SV;rw[n,o];simp only[bI,bH,av,a7,bm,cS,bO,Zad];have h:∀x,MC (X::b) x↔(x.1.length=x.2.2/\x.2.2<=X.af.toNat/\x.2.1.length<b.length+1/\x.1.length+x.2.1.length+1<=b.length+1/\∃j l,jo (ft x.2.1.length) (X.af.toNat-x.2.2) x.2.1=some (j,l)/\x.1++j=a/\l=c):=λx=>by
  unfold MC;rw[n,o];exact ZbW
 have C:b.length+1<=1000000:=by assumption
 refine⟨by grind,by grind,⟨([],b,0),rfl,rfl,rfl,rfl,rfl,rfl,rfl,rfl,rfl,rfl,rfl,(h _).mpr ⟨rfl,Zaj _,Zbr _,by simp,a,c,q,rfl,rfl⟩⟩,λx z=>?_⟩;obtain⟨m,rest,i⟩:=x;obtain⟨c1,c2,c3,c4,j,l,c5,c6,c7⟩:=(h _).mp z;simp only at c1 c2 c3 c4 c5 c6 c7 ⊢;refine⟨λe=>?_,λe=>?_⟩
 ·rw[show X.af.toNat-i=(X.af.toNat-(i+1))+1 by omega] at c5;unfold jo at c5;cases f:ft rest.length rest with
  | none=>rw[f] at c5;cases c5
  | some p=>
   obtain⟨t,d⟩:=p;rw[f] at c5;simp only at c5;have u:ck rest=(t,d):=by grind [ck,aI]
   have w:=rV _ _ _ _ f;rw[oS (g:=ft d.length) d.length (rV _) (λB hl=>DY _ _ B ω hl) _ d (Zah _)] at c5;split at c5
   ·cases c5
   ·rename_i k D s
    cases c5;rw[u];refine⟨⟨⟨ω,rfl⟩,by assumption⟩,by grind,(m++[t],d,i+1),rfl,bK ω,rfl,(h _).mpr ⟨by grind,show i+1<=X.af.toNat by omega,by grind,by grind,k,l,s,by grind,c7⟩,show X.af.toNat-(i+1)<X.af.toNat-i by omega⟩
 ·rw[show X.af.toNat-i=0 by omega] at c5;cases c5;exact⟨rfl,rfl,rfl,rfl,rfl,rfl,rfl,show m=a by grind,c7⟩
def Qha:Ok Hi:=Ob (λy=>y.length) YC trivial QnZ
theorem cz (a b:List ah):aA (a++b)=aA a++aA b:=by
 induction a with
 | nil=>simp[aA]
 | cons x a c=>simp[aA,c]
theorem bQ (y:ah):aD y=⟨y.op,y.r,y.mn,y.mx,y.lz,y.cap,y.af.length⟩::aA y.af:=by
 cases y;rw[aD];rfl
theorem im {y:ah} {n:Nat} (h:n<y.af.length):dc (y.af.getD n bA)<dc y:=by
 unfold dc;rw[aI,aI,eo h];have:=ZdR (Zas h);obtain⟨op,r,mn,mx,lz,cap,nk,a⟩:=y;grind [ah.af]
theorem Qn0 (y:ah) (f:Hj.pre y):SX y:=by
 obtain⟨h1,b⟩:(aD y).length<=1000000/\∀x∈aD y,ik x:=f;have i:y.r.length<=1000000:=by
  have:=b ⟨y.op,y.r,y.mn,y.mx,y.lz,y.cap,y.af.length⟩ (by grind [bQ]);exact this
 unfold SX;simp only[bI,bH,av,a7,bm,cS,bO,Zad,oR,cZ,aI];have key:∀l:List ah,l.length<=(aA l).length:=by
  intro l
  induction l with
  | nil=>simp
  | cons a l k=>simp only[aA,Zab,Zae];rw[bQ];simp;omega
 have h0:=h1;rw[bQ] at h1;simp only[Zae] at h1;have hk:=key y.af;refine⟨ω,⟨0,rfl,rfl,Zaj _⟩,λx j=>⟨λe=>?_,λe=>?_⟩⟩
 ·have e:x<y.af.length:=ω;have ht:=cg bA e;have g:y.af=y.af.take x++(y.af.getD x bA::y.af.drop (x+1)):=by
   simp_all
  have c:aA y.af=aA (y.af.take x)++(aD (y.af.getD x bA)++aA (y.af.drop (x+1))):=by
   grind [cz,aA]
  have hs:aA (y.af.take (x+1))=aA (y.af.take x)++aD (y.af.getD x bA):=by
   grind [cz,aA]
  have hlen:=ZaR List.length c;simp only[Zab] at hlen;have d:y.af.getD x (ah.mk 0 [] 0 0 false 0 0 [])=y.af.getD x bA:=rfl;rw[d];refine⟨ω,e |> λh=>ω,⟨⟨ω,λz hz=>b z ?_⟩,im e⟩,?_,x+1,?_,bK ω,ω,ω⟩
  ·grind [bQ]
  ·grind
  ·grind
 ·grind [bQ]
def Qhb:Ok Hj:=Ob dc YD trivial Qn0
mutual
def pD:ah->Bool
 | .mk op _ _ _ _ _ _ ks=>op==6||jO ks
def jO:List ah->Bool
 | []=>false
 | t::ts=>pD t||jO ts
end
mutual
def SY:ah->ah->Bool
 | .mk op r mn mx lz cap _ ks,b=>op==b.op&&mn==b.mn&&mx==b.mx&&lz==b.lz&&cap==b.cap&&decide (r=b.r)&&decide (ks.length=b.af.length)&&rW ks b.af
def rW:List ah->List ah->Bool
 | [],_=>true
 | a::l,b::m=>SY a b&&rW l m
 | _::_,[]=>false
end
variable {l:List ah} {i:Nat} {p:ah->Bool}
def eZ (t:ah):Bool:=lk (pD t)
def nK (a b:ah):Bool:=lk (SY a b)
def dF (l:List ah):Prop:=(aA l).length<=1000000/\∀x∈aA l,ik x
def tS (l:List ah):Nat:=lk (SizeOf.sizeOf l)
def xl (p:ah->Bool) (l:List ah):Int:=if l.findIdx p<l.length then l.findIdx p else-1
def uq (a:List (AV D.E)):C ah:=match a with
 | [t]=>Hh t
 | _=>.fail
def Qhc (a:List (AV D.E)) (s:St D.E):C (List ah):=match a with
 | [l,_]=>az (aU D s 15 l) λl=>.ret (l:List ah)
 | _=>.fail
def MD:br D:=bL 150 ah (λa _=>uq a) dA (λy=>[.agg (D.bd 15 y)]) λy=>.bool (eZ y)
def SZ:br D:=bL 182 (List ah) Qhc dF (λy=>[.list 15 y,.func (.func 150) [] []]) λy=>.bool (y.any eZ)
def ME:br D:=bL 180 (List ah) Qhc dF (λy=>[.list 15 y,.func (.func 150) [] []]) λy=>QsE (xl eZ y)
def Qhd (y:ME.Y):cO D:=⟨[],[],[(26,{ X:=Nat,aN:=[0,1,7],sl:=λi=>[(8,QsE i)],kp:=[],pc:=λ_=>[],nx:=0,inv:=λi=>i<=y.length/\∀j,j<i->eZ (y.getD j bA)=false,me:=λi=>y.length-i })],[],1,[]⟩
def fgT (n:Nat):tI:=[MD.under (λy=>3*dc y) n,SZ.under (λy=>3*tS y+2) n,ME.under (λy=>3*tS y+1) n]
def Qn2 (y:MD.Y):Prop:=vc (fgT (3*dc y)++[]) f150 MD (λ_=>ew ()) y
def Qn3 (y:SZ.Y):Prop:=vc (fgT (3*tS y+2)++[]) f182 SZ (λ_=>ew ()) y
def Qn4 (y:ME.Y):Prop:=vc (fgT (3*tS y+1)++[]) f180 ME Qhd y
def Qhe (a:List (AV D.E)):C (ah×ah):=match a with
 | [t,u]=>az (Hh t) λx=>az (Hh u) λy=>.ret (x,y)
 | _=>.fail
def Qn5 (a:List (AV D.E)) (s:St D.E):C (List ah×List ah):=match a with
 | [l,m,_]=>az (aU D s 15 l) λl=>az (aU D s 15 m) λm=>.ret ((l:List ah),(m:List ah))
 | _=>.fail
def MF:br D:=bL 184 (ah×ah) (λa _=>Qhe a) (λy=>dA y.1) (λy=>[.agg (D.bd 15 y.1),.agg (D.bd 15 y.2)]) λy=>.bool (nK y.1 y.2)
def smL (l m:List ah):Bool:=lk (decide (l.length=m.length)&&rW l m)
def MG:br D:=bL 209 (List ah×List ah) Qn5 (λy=>dF y.1) (λy=>[.list 15 y.1,.list 15 y.2,.func (.func 184) [] []]) λy=>.bool (smL y.1 y.2)
def YE (y:List ah×List ah) (i:Nat):Prop:=i<=y.1.length/\y.1.length=y.2.length/\rW (y.1.drop i) (y.2.drop i)=rW y.1 y.2
def Qhf (y:MG.Y):cO D:=⟨[],[],[(58,⟨Nat,[0,1,2,15,16],λi=>[(17,QsE i)],[],λ_=>[],0,YE y,λi=>y.1.length-i⟩)],[],1,[]⟩
def fsT (n:Nat):tI:=[MF.under (λy=>2*dc y.1) n,MG.under (λy=>2*tS y.1+1) n]
def Qn6 (y:MF.Y):Prop:=vc (fsT (2*dc y.1)++[Dy]) f184 MF (λ_=>ew ()) y
def Qn7 (y:MG.Y):Prop:=vc (fsT (2*tS y.1+1)++[]) f209 MG Qhf y
def S0 (y:ah):Prop:=ak (aC y.op 6) (true=eZ y/\True) (Iv (dF y.af/\((3*tS y.af)+2)<(3*dc y))/\aa [y.af] (List.any y.af eZ=eZ y/\True))
def YF:∀y,S0 y=Qn2 y:=λy=>by kernel_rfl
def S1 (y:List ah):Prop:=Iv (dF y/\((3*tS y)+1)<((3*tS y)+2))/\aa [y] (aH 0 (xl eZ y)=List.any y eZ/\True)
def YG:∀y,S1 y=Qn3 y:=λy=>by kernel_rfl
def S2 (y:List ah):Prop:=let u:=λz:Nat=>(∀j:Nat,(Nat.le (Nat.succ j) z)->eZ (List.getD y j bA)=false);(∃z:Nat,RAM y (ag y) (0=(z:Int)/\(Iv (z<=y.length/\u z))))/\(∀x:Nat,let b:=y.length;let q1:=ay (x:Int) (ag y);let a:=gt (ah.mk 0 [] 0 0 false 0 0 []) y (x:Int).toNat;let c:=ah.mk a.op a.r a.mn a.mx a.lz a.cap a.nk a.af;(Iv (x<=b/\(∀j:Nat,(Nat.le (Nat.succ j) x)->eZ (List.getD y j bA)=false)))->ak q1 (aH 0 (x:Int)/\q1/\Iv (dA c/\(3*dc c)<((3*tS y)+1))/\RA0 a (RAL a.af (ak (eZ c) ((x:Int)=xl eZ y/\True) (∃z:Nat,aa [y] (aa [ag y] (aw .i64 (x:Int) 1=(z:Int)/\(Iv ((z<=b/\u z)/\(b-z)<(b-x))))))))) ((-1)=xl eZ y/\True))
def YH:∀y,S2 y=Qn4 y:=λy=>by kernel_rfl
def S3 (y:ah×ah):Prop:=let a:=y.1.af;let q1:=!(aC y.1.mx y.2.mx);let b:=!(aC y.1.cap y.2.cap);let c:=!(aC y.1.op y.2.op);let d:=!(pO y.1.lz y.2.lz);let e:=!(aC y.1.mn y.2.mn);let f:=!(decide (y.1.r=y.2.r));RA0 y.1 (RA0 y.2 (RA0 y.2 (ak c (false=nK y.1 y.2/\True) (ak e (false=nK y.1 y.2/\True) (ak q1 (false=nK y.1 y.2/\True) (ak d (false=nK y.1 y.2/\True) (ak b (false=nK y.1 y.2/\True) (Iv True/\aa [y.1.r,y.2.r] (ak f (false=nK y.1 y.2/\True) (Iv (dF a/\((2*tS a)+1)<(2*dc y.1))/\aa [a,y.2.af] (smL a y.2.af=nK y.1 y.2/\True)))))))))))
def YI:∀y,S3 y=Qn6 y:=λy=>by kernel_rfl
def S4 (y:(List ah)×(List ah)):Prop:=let c:=ag y.1;let q1:=!(aC c (ag y.2));ak q1 (false=smL y.1 y.2/\True) ((∃z:Nat,aa [y.1,y.2,y.1] (aa [c] (0=(z:Int)/\(Iv (YE y z)))))/\(∀x:Nat,let a:=gt (ah.mk 0 [] 0 0 false 0 0 []) y.2 (x:Int).toNat;let b:=gt (ah.mk 0 [] 0 0 false 0 0 []) y.1 (x:Int).toNat;let d:=ah.mk b.op b.r b.mn b.mx b.lz b.cap b.nk b.af;let e:=!(nK d (ah.mk a.op a.r a.mn a.mx a.lz a.cap a.nk a.af));(Iv (YE y x))->ak (ay (x:Int) c) (aH 0 (x:Int)/\ay (x:Int) c/\aH 0 (x:Int)/\ay (x:Int) (ag y.2)/\Iv (dA d/\(2*dc d)<((2*tS y.1)+1))/\aa [b.op] (aa [b.r] (aa [b.mn,b.mx] (aa [b.lz] (aa [b.cap,b.nk] (aa [b.af] (aa [a.op] (aa [a.r] (aa [a.mn,a.mx] (aa [a.lz] (aa [a.cap,a.nk] (aa [a.af] (ak e (false=smL y.1 y.2/\True) (∃z:Nat,aa [y.1,y.2,y.1] (aa [c] (aw .i64 (x:Int) 1=(z:Int)/\(Iv (YE y z/\(y.1.length-z)<(y.1.length-x))))))))))))))))))) (true=smL y.1 y.2/\True)))
def YJ:∀y,S4 y=Qn7 y:=λy=>by kernel_rfl
theorem xm (y:ah):tS y.af<dc y:=by
 unfold tS dc;rw[aI,aI];obtain⟨op,r,mn,mx,lz,cap,nk,a⟩:=y;grind [ah.af]
def BD (h:i<l.length):dc (l.getD i bA)<tS l:=by
 unfold tS dc;rw[aI,aI,eo h];exact ZdR (Zas h)
theorem dA.af {y:ah} (h:dA y):dF y.af:=by
 obtain⟨h1,a⟩:=h;rw[bQ] at h1;simp only[Zae] at h1;exact⟨ω,λx b=>a x (by grind [bQ])⟩
theorem dF.get (h:dF l) {n:Nat} (d:n<l.length):dA (l.getD n bA):=by
 obtain⟨h1,a⟩:=h;have c:l=l.take n++(l.getD n bA::l.drop (n+1)):=by
  simp_all
 have b:aA l=aA (l.take n)++(aD (l.getD n bA)++aA (l.drop (n+1))):=by
  grind [cz,aA]
 have hlen:=ZaR List.length b;simp only[Zab] at hlen;exact⟨ω,λx e=>a x (by grind)⟩
theorem s6 (l:List ah):l.length<=(aA l).length:=by
 induction l with
 | nil=>simp
 | cons a l b=>simp only[aA,Zab,Zae];rw[bQ];simp;omega
def dF.len (h:dF l):l.length<=1000000:=Zav (s6 l) h.1
theorem DZ (l:List ah):jO l=l.any eZ:=by
 induction l with
 | nil=>simp[jO]
 | cons a l b=>rw[jO,ZdX,b];congr 1;unfold eZ;rw[aI]
def S5 (y:ah):eZ y=(y.op==6||y.af.any eZ):=by
 rw[<-DZ];unfold eZ;rw[aI];cases y;rfl
theorem Qn8 (y:ah) (a:MD.pre y):S0 y:=by
 have a:dA y:=a;unfold S0;simp only[bH,nJ,l9];rw[S5];have:=xm y;refine⟨λh=>by grind,λh=>⟨⟨a.af,ω⟩,?_⟩⟩;grind
theorem S6 (h:∀j,j<l.length->p (l.getD j bA)=false):xl p l= -1:=by
 grind [xl]
theorem S7 (hi:i<l.length) (h:p (l.getD i bA)) (a:∀j,j<i->p (l.getD j bA)=false):xl p l=(i:Int):=by
 grind [List.findIdx_eq,xl]
theorem S8 (p:ah->Bool) (l:List ah):aH 0 (xl p l)=l.any p:=by
 grind [xl]
def Qn9 (y:List ah) (a:SZ.pre y):S1 y:=by
 unfold S1;simp only[ie,Zai,lf];exact⟨⟨a,ω⟩,S8 _ _⟩
theorem Qoa (y:List ah) (a:ME.pre y):S2 y:=by
 have a:dF y:=a;have hl:=a.len;unfold S2;simp only[bI,bH,av,cS,bO,Zad];refine⟨⟨0,rfl,Zaj _,λj d=>absurd d (Zbo _)⟩,λx ⟨g,c⟩=>⟨λe=>?_,λe=>?_⟩⟩
 ·have b:x<y.length:=ω;have c:∀j,j<x->eZ (y.getD j bA)=false:=c;have hk:=BD b;have f:y.getD x (ah.mk 0 [] 0 0 false 0 0 [])=y.getD x bA:=rfl;rw[f];refine⟨ω,e,⟨a.get b,ω⟩,λh=>(S7 b h c).symm,λh=>⟨x+1,bK ω,⟨ω,λj d=>?_⟩,ω⟩⟩;grind
 ·grind [S6]
inductive Fg where
 | g | c | i
noncomputable section
def fgC:Fg->br D
 | .g=>MD | .c=>SZ | .i=>ME
def Qob:∀i,(fgC i).Y->Nat
 | .g=>λy=>3*dc y | .c=>λy=>3*tS y+2 | .i=>λy=>3*tS y+1
def fgF:Fg->Func
 | .g=>f150 | .c=>f182 | .i=>f180
def fgO:∀i,(fgC i).Y->cO D
 | .g=>λ_=>ew () | .c=>λ_=>ew () | .i=>Qhd
def Qoc:∀i,Ok (fgC i):=
 wJ [.g,.c,.i] fgC Qob (fn:=fgF) (tab:=λ_=>[]) (iH:=fgO) (λ_=>trivial)
  (λi=>match i with
   | .g=>by kernel_rfl | .c=>by kernel_rfl | .i=>by kernel_rfl)
  (λi=>match i with
   | .g=>by kernel_rfl | .c=>by kernel_rfl | .i=>by kernel_rfl)
  λi=>match i with
   | .g=>λy a=>Eq.mp (YF y) (Qn8 y a) | .c=>λy a=>Eq.mp (YG y) (Qn9 y a) | .i=>λy a=>Eq.mp (YH y) (Qoa y a)
end
def Qhg (a b:ah):nK a b=(a.op==b.op&&a.mn==b.mn&&a.mx==b.mx&&a.lz==b.lz&&a.cap==b.cap&&decide (a.r=b.r)&&smL a.af b.af):=by
 unfold nK smL;rw[aI,aI];obtain⟨op,r,mn,mx,lz,cap,nk,c⟩:=a;rw[SY];rw[Bool.and_assoc (_&&decide (r=b.r))];rfl
theorem Qod (y:ah×ah) (c:MF.pre y):S3 y:=by
 obtain⟨a,b⟩:=y;have c:dA a:=c;have:=xm a;unfold S3;simp only[bH,nJ,l9,Zan,Zao,ZaP,Zbi,pO];rw[Qhg];refine⟨λh=>?_,λh1=>⟨λh=>?_,λd=>⟨λh=>?_,λe=>⟨λh=>?_,λf=>⟨λh=>?_,λg=>⟨λh=>?_,λi=>⟨⟨c.af,ω⟩,?_⟩⟩⟩⟩⟩⟩⟩
 ·grind
 ·grind
 ·grind
 ·grind
 ·grind
 ·grind
 ·grind
theorem MH {l m:List ah} {i:Nat} (h1:i<l.length) (a:i<m.length):rW (l.drop i) (m.drop i)=(nK (l.getD i bA) (m.getD i bA)&&rW (l.drop (i+1)) (m.drop (i+1))):=by
 grind [List.drop_eq_getElem_cons,rW,nK,aI]
theorem Qoe (y:List ah×List ah) (c:MG.pre y):S4 y:=by
 obtain⟨a,b⟩:=y;have c:dF a:=c;have hl:=c.len;unfold S4;simp only[bI,bH,av,cS,bO,Zad,Zan,Zao,smL,aI];refine⟨λh=>by grind,λh=>?_⟩;have h:a.length=b.length:=ω;rw[ZaK h,ZbI];refine⟨⟨0,rfl,Zaj _,h,rfl⟩,λx g=>?_⟩;obtain⟨i1,i2,i3⟩:x<=a.length/\a.length=b.length/\rW (a.drop x) (b.drop x)=rW a b:=g;refine⟨λe=>?_,λe=>?_⟩
 ·have d:x<a.length:=ω;have hk:=BD d;have f:∀l:List ah,l.getD x (ah.mk 0 [] 0 0 false 0 0 [])=l.getD x bA:=λ_=>rfl
  rw[f,f];rw[MH d ω] at i3;refine⟨ω,e,ω,ω,⟨c.get d,ω⟩,λq=>?_,λq=>⟨x+1,bK ω,⟨show x+1<=a.length by omega,h,?_⟩,ω⟩⟩
  ·grind
  ·grind
 ·grind [rW]
inductive Fs where
 | s | e
noncomputable section
def fsC:Fs->br D
 | .s=>MF | .e=>MG
def Qof:∀i,(fsC i).Y->Nat
 | .s=>λy=>2*dc y.1 | .e=>λy=>2*tS y.1+1
def fsF:Fs->Func
 | .s=>f184 | .e=>f209
def Qhh:Fs->tI
 | .s=>[Dy] | .e=>[]
def fsO:∀i,(fsC i).Y->cO D
 | .s=>λ_=>ew () | .e=>Qhf
def Qog:∀i,Ok (fsC i):=
 wJ [.s,.e] fsC Qof (fn:=fsF) (tab:=Qhh) (iH:=fsO)
  (λi=>match i with
   | .s=>Qan | .e=>trivial)
  (λi=>match i with
   | .s=>by kernel_rfl | .e=>by kernel_rfl)
  (λi=>match i with
   | .s=>by kernel_rfl | .e=>by kernel_rfl)
  λi=>match i with
   | .s=>λy a=>Eq.mp (YI y) (Qod y a) | .e=>λy a=>Eq.mp (YJ y) (Qoe y a)
end
end
end sx
end Go.Proofs.YtklaonhcplaofaaGreat
