/- StreamRises: a part of the proof. -/
import Derived.Test.YtadfknojfbmjgaaGreatC26
import Derived.Test.YtadfknojfbmjgaaGreatC28
import Derived.Test.YtadfknojfbmjgaaGreatC13
set_option linter.all false
namespace Go.Proofs.YtadfknojfbmjgaaGreat
set_option maxRecDepth 100000
set_option maxHeartbeats 4000000
namespace sx
noncomputable section
open Go Go.RowKit cls syn
structure VZ where
 n:Int
 lo:Int
 hi:Int
def jr (y:VZ):Int:=y.lo+(if Int.tmod y.n (y.hi-y.lo+1)<0 then Int.tmod y.n (y.hi-y.lo+1)+(y.hi-y.lo+1) else Int.tmod y.n (y.hi-y.lo+1))
def FH (y:VZ):Prop:=0<=y.lo/\y.lo<=y.hi/\y.hi<=1000000000000
def V0:bf D:=bZ 8 VZ (λa _=>match a with
 | [n,l,h]=>aI (cT n) λ_ n=>aI (cT l) λ_ l=>aI (cT h) λ_ h=>.ret ⟨n,l,h⟩
 | _=>.fail) FH (λy=>[Qu9 y.n,Qu9 y.lo,Qu9 y.hi]) λy=>Qu9 (jr y)
def QlW (y:List Found):Prop:=y.length<=1000000000000
def V1:bf D:=bZ 10 (List Found) (λa s=>match a with
 | [l,_]=>av (rowsOf D s 4 l) λl=>.ret (l:List Found)
 | _=>.fail) QlW (λy=>[.list 4 y,.list 4 y]) λ_=>.lit true
def QtG (y:V1.Y):cH D:=⟨[],[],[(58,⟨Nat,[0,1],λk=>[(5,Qu9 k)],[],λ_=>[],0,λk=>k<=List.length (y:List Found),λk=>List.length (y:List Found) -k⟩)],[],1,[]⟩
structure rr where
 l:List mP
 dS:Int
def qB:mP:=⟨[],0,false⟩
def yo (dS:Int) (p:By):Nat->By->By
 | 0,b=>b
 | k+1,b=>if (b.length:Int)<dS then yo dS p k (b++p) else b
def Oh (r:mP):Int:=jr ⟨r.times,0,60⟩
def txB (dS:Int) (r:mP) (b:By):By:=yo dS r.piece (Oh r).toNat b
def txR (dS:Int) (r:mP) (b:By):By:=if r.XH=true then txB dS r b else txB dS r b++[10]
def jb (dS:Int) (l:List mP):Nat->By
 | 0=>[]
 | k+1=>txR dS (l.getD k qB) (jb dS l k)
def rv (y:rr):By:=(jb y.dS y.l y.l.length).take y.dS.toNat
def zn (y:rr):Prop:=0<=y.dS/\y.dS<=100000/\y.l.length<=1000000000000/\∀r∈y.l,r.piece.length<=1000000000000
def V2:bf D:=bZ 5 rr (λa s=>match a with
 | [l,m]=>av (rowsOf D s 19 l) λl=>aI (cT m) λ_ m=>.ret ⟨l,m⟩
 | _=>.fail) zn (λy=>[.list 19 y.l,Qu9 y.dS]) λy=>.list 0 (rv y)
def QtI (y:V2.Y):cH D:=⟨[],[],[(58,⟨Nat,[0,1],λk=>[(5,.grow 0 (jb (rr.dS y) (rr.l y) k) 0),(6,Qu9 k)],[],λ_=>[(0,.tok 0 5)],1,λk=>k<=(rr.l y).length,λk=>(rr.l y).length-k⟩)],[],1,
 [(14922,⟨Nat,λi=>⟨Nat×By,[0,1,6,7],λx=>[(5,.grow 0 x.2 0),(8,Qu9 x.1)],[],λ_=>[(0,.tok 0 5)],1,λx=>x.1<=(Oh ((rr.l y).getD i qB)).toNat/\x.2.length<=i+1000000100000/\yo (rr.dS y) ((rr.l y).getD i qB).piece ((Oh ((rr.l y).getD i qB)).toNat-x.1) x.2=txB (rr.dS y) ((rr.l y).getD i qB) (jb (rr.dS y) (rr.l y) i),λx=>(Oh ((rr.l y).getD i qB)).toNat-x.1⟩,none⟩)]⟩
def n_ (y:b7):b7:=⟨if 3<y.r.length then y.r.take 3 else y.r,y.c⟩
def qI (y:b7):Bool:=l8 (n_ y)
def CK (y:b7×Bool):Prop:=y.2=qI y.1
def lX (y:b7):nW:=lk ⟨n_ y,⟨(bL (n_ y)).code,(bL (n_ y)).st⟩,⟨(bL (n_ y)).cc,(bL (n_ y)).cs⟩,(aW (n_ y)).tab⟩
def Oi:bf D:=⟨4,b7×Bool,Cr qI,CK,λy=>[Ff y.1],λ_=>[],
 λy=>match y.2 with
  | true=>.tuple [.ptr 0 0,.ptr 3 0,.lit true]
  | false=>.tuple [.fD,.fD,.lit true],
 λy=>match y.2 with
  | true=>Un (lX y.1)++[ruO 3 (n_ y.1) (bL (n_ y.1))]
  | false=>[],0,4⟩
def QlY (y:Oi.Y):cH D:=⟨[],[],[],[(3,⟨Unit,[],λ_=>[(1,.ptr 0 0)],[],λ_=>[(0,.cells [.list 3 (n_ y.1).r,.str y.1.c] 24 false)],1,λ_=>True,λ_=>0⟩)],1,[]⟩
def QlZ (y:b7):Prop:=vc [tL,zm] Tryz.f4 Oi QlY (y,true)
def Ql0 (y:b7):Prop:=vc [tL,zm] Tryz.f4 Oi QlY (y,false)
def Qde (y:VZ):Prop:=let b:=an .i64 (da .i64 y.hi y.lo) 1;let a:=Qdu y.n b;(!(az b 0))/\ag (ax a 0) (an .i64 y.lo (an .i64 (da .i64 (an .i64 a y.hi) y.lo) 1)=jr y/\True) (an .i64 y.lo a=jr y/\True)
def Qdf (y:List Found):Prop:=let d:=!(az (ab y) (ab y));ag d (False) ((∃z:Nat,aa [y,y] (0=(z:Int)/\(Iv (z<=y.length))))/\(∀x:Nat,let b:=y.length;let c:=ax (x:Int) (ab y);let a:=gt (Found.mk 0 0 0 0 0 0 0 0 0 0 0 0 0) y (x:Int).toNat;let e:=!((az a.kind a.kind)&&((az a.pos a.pos)&&((az a.kd a.kd)&&((az a.c0 a.c0)&&((az a.c1 a.c1)&&((az a.c2 a.c2)&&((az a.c3 a.c3)&&((az a.c4 a.c4)&&((az a.c5 a.c5)&&((az a.c6 a.c6)&&((az a.c7 a.c7)&&((az a.c8 a.c8)&&(az a.c9 a.c9)))))))))))));(Iv (x<=b))->ag c (aC 0 (x:Int)/\c/\aC 0 (x:Int)/\c/\aa [a.kind,a.pos,a.kd,a.c0,a.c1,a.c2,a.c3,a.c4,a.c5,a.c6,a.c7,a.c8,a.c9,a.kind,a.pos,a.kd,a.c0,a.c1,a.c2,a.c3,a.c4,a.c5,a.c6,a.c7,a.c8,a.c9] (ag e (False) (∃z:Nat,aa [y,y] (an .i64 (x:Int) 1=(z:Int)/\(Iv (z<=b/\(b-z)<(b-x))))))) (True)))
def V3 (y:rr):Prop:=let b:=y.l.length;let j:=ab y.l;let q:=λp:Prop=>aa [y.l] (aa [y.dS] p);(∃z:Nat,q ([]=jb y.dS y.l z/\0=(z:Int)/\(Iv (z<=b))))/\(∀x:Nat,let i:=jb y.dS y.l x;let s:=ax y.dS (ab i);let k:=gt (mP.mk [] 0 false) y.l (x:Int).toNat;let o:=VZ.mk k.times 0 60;let r:=λp:Prop=>aa [y.l] (aa [y.dS,(x:Int),jr o] p);(Iv (x<=b))->ag (ax (x:Int) j) (aC 0 (x:Int)/\ax (x:Int) j/\Iv (FH o)/\aa ([k.times,0,60]:List Int) (∃z:Nat,let d:=List.getD y.l z qB;let c:=(Oh d).toNat;(∃a:Nat×(List UInt8),r (i=a.2/\0=(a.1:Int)/\(Iv (a.1<=c/\a.2.length<=(z+1000000100000)/\yo y.dS d.piece (c-a.1) a.2=txB y.dS d (jb y.dS y.l z)))))/\(∀x1:Nat×(List UInt8),let m:=ax (ab x1.2) y.dS;let e:=txB y.dS d (jb y.dS y.l z);let f:=aZ x1.2 [b8 10];let g:=aZ x1.2 k.piece;let n:=ax (x1.1:Int) (jr o);let h:Prop:=(aC 0 (x:Int)/\ax (x:Int) j/\ag (!k.XH) (fits (ab f) 1/\∃a:Nat,q (f=jb y.dS y.l a/\an .i64 (x:Int) 1=(a:Int)/\(Iv (a<=b/\(b-a)<(b-x))))) (∃a:Nat,q (x1.2=jb y.dS y.l a/\an .i64 (x:Int) 1=(a:Int)/\(Iv (a<=b/\(b-a)<(b-x))))));(Iv (x1.1<=c/\x1.2.length<=(z+1000000100000)/\yo y.dS d.piece (c-x1.1) x1.2=e))->ag n (ag m (aC 0 (x:Int)/\ax (x:Int) j/\fits (ab g) 1/\∃a:Nat×(List UInt8),r (g=a.2/\an .i64 (x1.1:Int) 1=(a.1:Int)/\(Iv ((a.1<=c/\a.2.length<=(z+1000000100000)/\yo y.dS d.piece (c-a.1) a.2=e)/\(c-a.1)<(c-x1.1))))) (h)) (h)))) (ag s (aC 0 y.dS/\aC y.dS (ab i)/\bW i y.dS=rv y/\True) (i=rv y/\True)))
def Jp (y:b7):Prop:=let f:=bL (n_ y);let e:=ite (3<y.r.length) (List.take 3 y.r) y.r;let a:=b7.mk e y.c;let b:=bL a;let g:=az b.err b.err;let d:=λp:Prop=>aa [e] (aa [y.c] p);(ag (ax 3 (ab y.r)) (Tt 1 (aC 3 (ab y.r)/\∃z:Unit,bW y.r 3=e/\aa [y.c] ((Iv True)))) (∃z:Unit,y.r=e/\aa [y.c] ((Iv True))))/\(∀x:Unit,(Iv True)->ag (l8 a) (Iv (oA (a,true))/\d (ag (l8 a) (Iv (oA (a,true))/\d (ag (az 0 0) (d (b.code=f.code/\b.st=f.st/\b.cc=f.cc/\b.cs=f.cs/\aa [!(seq y.c [])] (e=(lX y).s.r/\y.c=(lX y).s.c/\b.code=(lX y).p.code/\b.st=(lX y).p.ah/\b.cc=(lX y).q.code/\b.cs=(lX y).q.ah/\ab (aW a).tab=ab (lX y).t/\(aW a).tab=(lX y).t/\True))) (False))) (Iv (oA (a,false))/\d (ag (az 0 b.err) (False) (False))))) (Iv (oA (a,false))/\d (ag (l8 a) (Iv (oA (a,true))/\d (ag (az b.err 0) (False) (False))) (Iv (oA (a,false))/\d (ag g (False) (False))))))
def V4:∀y,Jp y=QlZ y:=λy=>by kernel_rfl
def Jq (y:b7):Prop:=let d:=ite (3<y.r.length) (List.take 3 y.r) y.r;let a:=b7.mk d y.c;let e:=az 0 (bL a).err;let f:=az (bL a).err 0;let g:=az (bL a).err (bL a).err;let b:=λp:Prop=>aa [d] (aa [y.c] p);(ag (ax 3 (ab y.r)) (Tt 1 (aC 3 (ab y.r)/\∃z:Unit,bW y.r 3=d/\aa [y.c] ((Iv True)))) (∃z:Unit,y.r=d/\aa [y.c] ((Iv True))))/\(∀x:Unit,(Iv True)->ag (l8 a) (Iv (oA (a,true))/\b (ag (l8 a) (Iv (oA (a,true))/\b (ag (az 0 0) (False) (False))) (Iv (oA (a,false))/\b (ag e (False) (False))))) (Iv (oA (a,false))/\b (ag (l8 a) (Iv (oA (a,true))/\b (ag f (False) (False))) (Iv (oA (a,false))/\b (ag g (True) (False))))))
def V5:∀y,Jq y=Ql0 y:=λy=>by kernel_rfl
def Jr (y:b7):Prop:=let i:=bI (aW y).out;let g:=y.r.length;let e:=ab y.r;let m:=!(seq y.c []);let n:=([tQ y]:List (List Nd));let t:=(bT y.c).1;let w:=!(az (bT y.c).2.1 0);let A:=!(az (bI n).2.1 0);let v:=λp:Prop=>aa ([0,0]:List Int) (aa [y.r] (aa [y.c] p));let u:=λp:Prop=>aa [y.r] (aa [y.c] p);let k:Prop:=(aa [y.r] (aa [y.c] (aa ([[]]:List (List Ins)) (aa ([[]]:List (List Int)) (aa ([[]]:List (List Ins)) (aa ([[]]:List (List Int)) (aa [m] (aa [y.r] (aa [y.c] ((Iv ((aW y).err=0/\g<=8/\((Ne (y,true).1.c [])->(bT y.c).2.1=0)))))))))))));ag (ax 8 e) (False) ((∃z:(List (List Nd))×Nat,aa [e] ([]=z.1/\0=(z.2:Int)/\u ((Iv (n' y z)))))/\(∀x:(List (List Nd))×Nat,let b:=(x.2:Int);let f:=gt (lC.mk [] []) y.r b.toNat;(Iv (n' y x))->ag (ax b e) (aC 0 b/\ax b e/\Iv True/\aa [f.name] (ag (!(iV f.name)) (False) (∃z:(List (List Nd))×Nat,let a:=List.getD y.r z.2 (lC.mk [] []);let h:=(bT a.text).1;let o:=!(az (bT a.text).2.1 0);let l:=aZ z.1 [lk (aN h)];(∃d:Nat,aa [e,b] (x.1=z.1/\0=(d:Int)/\f.name=a.name/\f.text=a.text/\u ((Iv (d<=z.2/\z.2<g/\n' y z/\(∀j:Nat,(Nat.le (Nat.succ j) d)->Ne (List.getD y.r j (lC.mk [] [])).name a.name))))))/\(∀x1:Nat,let q:=ax (x1:Int) b;let s:=seq (gt (lC.mk [] []) y.r (x1:Int).toNat).name a.name;(Iv (x1<=z.2/\z.2<g/\n' y z/\(∀j:Nat,(Nat.le (Nat.succ j) x1)->Ne (List.getD y.r j (lC.mk [] [])).name a.name)))->ag q (aC 0 (x1:Int)/\ax (x1:Int) e/\aa [y.r] (aa [(gt (lC.mk [] []) y.r (x1:Int).toNat).name,a.name] (ag s (False) (∃d:Nat,aa [e,b] (aa [z.1] (an .i64 (x1:Int) 1=(d:Int)/\aa [a.name,a.text] (aa [y.r] (aa [y.c] ((Iv ((d<=z.2/\z.2<g/\n' y z/\(∀j:Nat,(Nat.le (Nat.succ j) d)->Ne (List.getD y.r j (lC.mk [] [])).name a.name))/\(z.2-d)<(z.2-x1)))))))))))) (Iv True/\aa [a.text] (ag o (False) (Iv (ov h)/\aa [h] (fits (ab l) 24/\∃d:(List (List Nd))×Nat,aa [e] (l=d.1/\an .i64 b 1=(d.2:Int)/\u ((Iv (n' y d/\(g-d.2)<(g-x.2))))))))))))) (fits e 32/\aa [y.r] ((ag m (Iv True/\aa [y.c] (ag w (False) (Iv (ov t)/\aa [t] (∃z:Unit,aa [e] (x.1=(aW y).out/\lk (aN t)=tQ y/\k))))) (∃z:Unit,aa [e] (x.1=(aW y).out/\[]=tQ y/\k)))/\(∀x1:Unit,(Iv ((aW y).err=0/\g<=8/\((Ne (y,true).1.c [])->(bT y.c).2.1=0)))->Iv (px (aW y).out)/\aa [(aW y).out] (ag (!(az i.2.1 0)) (False) (ag m (Iv (px n)/\aa [n] (ag A (False) (v (i.1.1=(bL y).code/\i.1.2=(bL y).st/\(bI n).1.1=(bL y).cc/\(bI n).1.2=(bL y).cs/\aa [m] (True))))) (v (i.1.1=(bL y).code/\i.1.2=(bL y).st/\[]=(bL y).cc/\[]=(bL y).cs/\aa [m] (True))))))))))
def V6:∀y,Jr y=QlU y:=λy=>by kernel_rfl
def Js (y:b7):Prop:=let d:=ab y.r;let g:=y.r.length;let q:=!(seq y.c []);let l:=([tQ y]:List (List Nd));let s:=(bT y.c).1;let m:=(bT y.c).2.1;let t:=(bI (aW y).out).2;let w:=!(az (bI l).2.1 0);let u:=λp:Prop=>aa [y.r] (aa [y.c] p);let v:Prop:=(aa [y.r] (aa [y.c] (aa ([[]]:List (List Ins)) (aa ([[]]:List (List Int)) (aa ([[]]:List (List Ins)) (aa ([[]]:List (List Int)) (aa [q] (aa [y.r] (aa [y.c] ((Iv ((aW y).err=0/\g<=8/\((Ne (y,false).1.c [])->m=0)))))))))))));ag (ax 8 d) (13=(bL y).err/\8=(bL y).at_/\True) ((∃z:(List (List Nd))×Nat,aa [d] ([]=z.1/\0=(z.2:Int)/\u ((Iv (n' y z)))))/\(∀x:(List (List Nd))×Nat,let b:=(x.2:Int);let f:=gt (lC.mk [] []) y.r b.toNat;(Iv (n' y x))->ag (ax b d) (aC 0 b/\ax b d/\Iv True/\aa [f.name] (ag (!(iV f.name)) (14=(bL y).err/\b=(bL y).at_/\True) (∃z:(List (List Nd))×Nat,let a:=List.getD y.r z.2 (lC.mk [] []);let h:=(bT a.text).1;let i:=(bT a.text).2.1;let k:=aZ z.1 [lk (aN h)];(∃e:Nat,aa [d,b] (x.1=z.1/\0=(e:Int)/\f.name=a.name/\f.text=a.text/\u ((Iv (e<=z.2/\z.2<g/\n' y z/\(∀j:Nat,(Nat.le (Nat.succ j) e)->Ne (List.getD y.r j (lC.mk [] [])).name a.name))))))/\(∀x1:Nat,let n:=ax (x1:Int) b;let o:=seq (gt (lC.mk [] []) y.r (x1:Int).toNat).name a.name;(Iv (x1<=z.2/\z.2<g/\n' y z/\(∀j:Nat,(Nat.le (Nat.succ j) x1)->Ne (List.getD y.r j (lC.mk [] [])).name a.name)))->ag n (aC 0 (x1:Int)/\ax (x1:Int) d/\aa [y.r] (aa [(gt (lC.mk [] []) y.r (x1:Int).toNat).name,a.name] (ag o (8=(bL y).err/\b=(bL y).at_/\True) (∃e:Nat,aa [d,b] (aa [z.1] (an .i64 (x1:Int) 1=(e:Int)/\aa [a.name,a.text] (aa [y.r] (aa [y.c] ((Iv ((e<=z.2/\z.2<g/\n' y z/\(∀j:Nat,(Nat.le (Nat.succ j) e)->Ne (List.getD y.r j (lC.mk [] [])).name a.name))/\(z.2-e)<(z.2-x1)))))))))))) (Iv True/\aa [a.text] (ag (!(az i 0)) (i=(bL y).err/\b=(bL y).at_/\True) (Iv (ov h)/\aa [h] (fits (ab k) 24/\∃e:(List (List Nd))×Nat,aa [d] (k=e.1/\an .i64 b 1=(e.2:Int)/\u ((Iv (n' y e/\(g-e.2)<(g-x.2))))))))))))) (fits d 32/\aa [y.r] ((ag q (Iv True/\aa [y.c] (ag (!(az m 0)) (m=(bL y).err/\d=(bL y).at_/\True) (Iv (ov s)/\aa [s] (∃z:Unit,aa [d] (x.1=(aW y).out/\lk (aN s)=tQ y/\v))))) (∃z:Unit,aa [d] (x.1=(aW y).out/\[]=tQ y/\v)))/\(∀x1:Unit,(Iv ((aW y).err=0/\g<=8/\((Ne (y,false).1.c [])->m=0)))->Iv (px (aW y).out)/\aa [(aW y).out] (ag (!(az t.1 0)) (t.1=(bL y).err/\t.2=(bL y).at_/\True) (ag q (Iv (px l)/\aa [l] (ag w ((bI l).2.1=(bL y).err/\d=(bL y).at_/\True) (False))) (False))))))))
def V7:∀y,Js y=QlV y:=λy=>by kernel_rfl
abbrev pB:lC:=⟨[],[]⟩
variable {B Z:Nat} {v:Int} {Y:Nat->List Ins}
theorem QaK {t:List Row} {n:By} (h:jP t n=false) (k:By):jP (rj t n v) k=(jP t k||decide (n=k)):=by
 grind [Lt,jP,List.take_append_drop]
theorem FI {y:b7} {x:List (List Nd)×Nat} (h:n' y x) (m:x.2<y.r.length):
  (iV (y.r.getD x.2 pB).name=false->(aW y).err=14/\(aW y).at_=x.2)/\
  (iV (y.r.getD x.2 pB).name->(∃j,j<x.2/\(y.r.getD j pB).name=(y.r.getD x.2 pB).name)->(aW y).err=8/\(aW y).at_=x.2)/\
  (iV (y.r.getD x.2 pB).name->(∀j,j<x.2->(y.r.getD j pB).name≠(y.r.getD x.2 pB).name)->((bT (y.r.getD x.2 pB).text).2.1≠0->(aW y).err=(bT (y.r.getD x.2 pB).text).2.1/\(aW y).at_=x.2)/\
   ((bT (y.r.getD x.2 pB).text).2.1=0->n' y (x.1++[aN (bT (y.r.getD x.2 pB).text).1],x.2+1))):=by
 obtain⟨h1,t,f,g⟩:=h;obtain⟨c,d,s3⟩:=yg g m;simp only at c d s3;have ht:∀k,jP t k↔∃j,j<x.2/\(y.r.getD j pB).name=k:=λk=>by
  rw[f,ZcT];constructor
  ·rintro⟨p,l,e⟩;obtain⟨j,b,rfl⟩:=Za3 l;rw[Zar] at b;refine⟨j,ω,?_⟩;grind
  ·rintro⟨j,b,e⟩;rw[bk ω] at e;exact⟨y.r[j],List.mem_iff_getElem.mpr ⟨j,by grind,by grind⟩,by grind⟩
 refine⟨c,λa e2=>d a ((ht _).mpr e2),λa e2=>?_⟩;have i:jP t (y.r.getD x.2 pB).name=false:=by
  grind
 obtain⟨n,o⟩:=s3 a i;refine⟨n,λe=>⟨h1,_,λk=>?_,o e⟩⟩;grind [QaK,take_one]
theorem Ql1 (y:b7) (b:Bool) (M:zm.pre (y,b)):(b->Jr y)/\(b=false->Js y):=by
 obtain⟨hl,P⟩:y.r.length<=1000/\b=l8 y:=M;have eS:bL y=iP y:=by grind [bL,aq]
 have B:y.c≠[]->tQ y=aN (bT y.c).1:=λh=>by grind [tQ,aq]
 have z:y.c=[]->tQ y=[]:=λh=>by grind [tQ,aq]
 have D:b↔(iP y).err=0:=by grind [l8]
 have H:∀{s:By},seq s []=false↔s≠[]:=λ{s}=>by grind
 obtain⟨o1,R⟩:(∀x∈(aW y).out,cn x)/\(aW y).out.length<=y.r.length:=by
  grind [vR,aW,aq]
 have J:px (aW y).out:=⟨ω,o1⟩;have N:cn (tQ y):=by
  by_cases h:y.c=[]
  ·grind [eU]
  ·grind [vQ,ln]
 have G:px [tQ y]:=⟨by simp,λl hl=>by rw[List.mem_singleton.mp hl];exact N⟩;have F:8<y.r.length->iP y=Lg 13 8:=λh=>by grind [iP]
 have hz:y.r.length<=8->n' y ([],0):=λh=>⟨h,[],λk=>rfl,Zaj _,List.Pairwise.nil,Zah _,rfl,by grind [aW,aq]⟩
 have p:∀x:List (List Nd)×Nat,n' y x->¬x.2<y.r.length->x.1=(aW y).out/\(aW y).err=0:=λx f e=>by
  obtain⟨_,t,_,i1,_,_,_,i5⟩:=f;grind [lg]
 have hlen:∀x:List (List Nd)×Nat,n' y x->x.1.length=x.2:=λx f=>by
  obtain⟨_,t,_,_,_,_,i4,_⟩:=f;exact i4
 have I:∀n,gt (lC.mk [] []) y.r n=y.r.getD n pB:=λ_=>rfl
 have A:∀n,y.r.getD n (lC.mk [] [])=y.r.getD n pB:=λ_=>rfl
 constructor
 ·intro L;have h0:=D.mp L;unfold Jr;rw[eS];simp only[QaU,dq,aj,aO,aU,xn,H,I,A,Zad,Zan,Zao,aq,ZaY,ZaZ];refine⟨λC=>?_,λC=>⟨⟨([],0),rfl,rfl,hz ω⟩,λx f=>⟨λe=>?_,λe=>?_⟩⟩⟩
  ·rw[F ω] at h0;cases h0
  ·have w:x.2<y.r.length:=ω;obtain⟨K,E,s3⟩:=FI f w;have S:(aW y).err=0:=Zch λh=>by rw[Vw ω h] at h0;exact h h0
   refine⟨ω,e,λq=>?_,λq=>⟨x,⟨0,rfl,rfl,rfl,rfl,Zaj _,w,f,λj g=>absurd g (Zbo _)⟩,λk hk=>?_⟩⟩
   ·grind
   ·obtain⟨k1,k2,k3,k4⟩:=hk;refine⟨λek=>⟨ω,ω,λi=>?_,λi=>⟨k+1,bz ω,⟨ω,w,f,λj g=>?_⟩,ω⟩⟩,λek=>⟨λi=>?_,λi=>⟨ln _,?_,(x.1++[aN (bT (y.r.getD x.2 pB).text).1],x.2+1),rfl,bz ω,?_,show y.r.length-(x.2+1)<y.r.length-x.2 by omega⟩⟩⟩
    ·have:=(E q ⟨k,ω,i⟩).1;omega
    ·grind
    ·grind
    ·grind
    ·grind
  ·obtain⟨x1,m⟩:=p x f ω;refine⟨ω,⟨λd=>⟨λu=>?_,λu=>⟨ln _,x1,(B d).symm,m,ω,λ_=>u⟩⟩,λd=>⟨x1,(z d).symm,m,ω,λh=>absurd d h⟩⟩,λg=>⟨J,λv=>?_,λv=>⟨λd=>⟨G,λo=>?_,λo=>?_⟩,λd=>?_⟩⟩⟩
   ·rw[Vx ω m d u] at h0;exact u h0
   ·rw[Vy ω m g.2.2 v] at h0;exact v h0
   ·rw[B d] at o;rw[Vz ω m g.2.2 v d o] at h0;exact o h0
   ·grind [N9]
   ·grind [VA]
 ·intro O;have h0:(iP y).err≠0:=λh=>by grind
  unfold Js;rw[eS];simp only[QaU,dq,aj,aO,aU,xn,H,I,A,Zad,Zan,Zao,aq,ZaY,ZaZ];have err:∀{e a:Int},y.r.length<=8->(aW y).err=e/\(aW y).at_=a->e≠0->e=(iP y).err/\a=(iP y).at_:=λC h Q=>by
   rw[Vw ω ω,h.1,h.2];exact⟨rfl,rfl⟩
  refine⟨λC=>?_,λC=>⟨⟨([],0),rfl,rfl,hz ω⟩,λx f=>⟨λe=>?_,λe=>?_⟩⟩⟩
  ·rw[F ω];exact⟨rfl,rfl⟩
  ·have w:x.2<y.r.length:=ω;obtain⟨K,E,s3⟩:=FI f w;refine⟨ω,e,λq=>err ω (K q) (by decide),λq=>⟨x,⟨0,rfl,rfl,rfl,rfl,Zaj _,w,f,λj g=>absurd g (Zbo _)⟩,λk hk=>?_⟩⟩;obtain⟨k1,k2,k3,k4⟩:=hk;refine⟨λek=>⟨ω,ω,λi=>err ω (E q ⟨k,ω,i⟩) (by decide),λi=>⟨k+1,bz ω,⟨ω,w,f,λj g=>?_⟩,ω⟩⟩,λek=>⟨λi=>err ω ((s3 q λj g=>k4 j (show j<k by omega)).1 i) i,λi=>⟨ln _,?_,(x.1++[aN (bT (y.r.getD x.2 pB).text).1],x.2+1),rfl,bz ω,?_,show y.r.length-(x.2+1)<y.r.length-x.2 by omega⟩⟩⟩
   ·grind
   ·grind
   ·grind
  ·obtain⟨x1,m⟩:=p x f ω;refine⟨ω,⟨λd=>⟨λu=>?_,λu=>⟨ln _,x1,(B d).symm,m,ω,λ_=>u⟩⟩,λd=>⟨x1,(z d).symm,m,ω,λh=>absurd d h⟩⟩,λg=>⟨J,λv=>?_,λv=>⟨λd=>⟨G,λo=>?_,λo=>?_⟩,λd=>?_⟩⟩⟩
   ·rw[Vx ω m d u];exact⟨rfl,rfl⟩
   ·rw[Vy ω m g.2.2 v];exact⟨rfl,rfl⟩
   ·rw[B d] at o ⊢;rw[Vz ω m g.2.2 v d o];exact⟨rfl,rfl⟩
   ·grind [N9]
   ·grind [VA]
def Ql2 (hs:Ok QaG):Ok zm:=uR (k:=zm) id id (λ_=>rfl) V6 V7 ⟨Qkl,QjG Qee (Hr xu) (Qeh xu),hs,QlS⟩ (λy a=>(Ql1 y true a).1 rfl) λy a=>(Ql1 y false a).2 rfl
def FJ (n:Int) {m:Int} (h:0<m): -m<Int.tmod n m/\Int.tmod n m<m:=by
 have h1:=Int.tmod_lt_of_pos n h;have a:=Int.tmod_lt_of_pos (-n) h;rw[Int.neg_tmod] at a;omega
theorem LF {y:VZ} (h:FH y):y.lo<=jr y/\jr y<=y.hi:=by
 obtain⟨h1,a,b⟩:=h;have:=FJ y.n (m:=y.hi-y.lo+1) ω;grind [jr]
theorem Qdg:Ok V0:=okZ (V:=Qde) [] Tryz.f8 (λ_=>cX ()) trivial λ(y:VZ) b=>by
 obtain⟨h1,c,d⟩:=b;have:=FJ y.n (m:=y.hi-y.lo+1) ω;unfold Qde;simp only[tm,Zai,gf,gG,Zan,iH];rw[o6 (a:=y.hi) ω ω,aV (a:=y.hi-y.lo) ω ω];grind [Qdu,jr]
theorem Ql3:Ok V1:=okZ (V:=Qdf) [] Tryz.f10 QtG trivial λ(y:List Found) a=>by
 have a:y.length<=1000000000000:=a;grind [Qdf,dP]
theorem FK {p:By} (a:v+p.length<=B):∀(k:Nat) (b:By),b.length<=B->(yo v p k b).length<=B
 | 0,b,h=>h
 | k+1,b,h=>by
  rw[yo];split
  ·exact FK a k _ (by grind)
  ·exact h
theorem QaL (r:mP):0<=Oh r/\Oh r<=60:=LF (y:=⟨r.times,0,60⟩) ⟨by grind,by grind,by grind⟩
theorem A7 {y:rr} (h:zn y):∀k,k<=y.l.length->(jb y.dS y.l k).length<=k+1000000100000
 | 0,_=>Zaj _
 | k+1,hk=>by
  have i:=A7 h k ω;obtain⟨h1,a,b,c⟩:=h;have e:(y.l.getD k qB).piece.length<=1000000000000:=by
   grind
  have d:(txB y.dS (y.l.getD k qB) (jb y.dS y.l k)).length<=k+1000000100000:=FK ω _ _ i;grind [jb,txR]
theorem QtK (y:rr) (g:zn y):V3 y:=by
 have hlen:=A7 g;obtain⟨h1,u,v,w⟩:=g;unfold V3;simp only[QaU,Qbt,db,aj,Zad,aU,aO,Zan,Zao];refine⟨⟨0,rfl,rfl,Zaj _⟩,λx s=>⟨λk=>?_,λk=>?_⟩⟩
 ·have hk:x<y.l.length:=ω;have j:gt (mP.mk [] 0 false) y.l x=y.l.getD x qB:=rfl;have B:(y.l.getD x qB).piece.length<=1000000000000:=by
   grind
  have A:=QaL (y.l.getD x qB);have d:jr ⟨(y.l.getD x qB).times,0,60⟩=Oh (y.l.getD x qB):=rfl;have f:=hlen x s;have hs:jb y.dS y.l (x+1)=txR y.dS (y.l.getD x qB) (jb y.dS y.l x):=rfl;rw[j,d];generalize p:y.l.getD x qB=r at*
  refine⟨ω,k,⟨by grind,by grind,by grind⟩,x,?_⟩;rw[p];refine⟨⟨(0,jb y.dS y.l x),rfl,rfl,Zaj _,f,rfl⟩,λz hz=>?_⟩;obtain⟨a,b⟩:=z;obtain⟨c,z2,z3⟩:=hz;simp only at c z2 z3 ⊢;have fin:yo y.dS r.piece ((Oh r).toNat-a) b=b->0<=(x:Int)/\(x:Int)<y.l.length/\(r.XH=false->((b++[b8 10]).length:Int)*(1:Nat)<=140737488355328/\∃c:Nat,b++[b8 10]=jb y.dS y.l c/\an .i64 (x:Int) 1=(c:Int)/\c<=y.l.length/\y.l.length-c<y.l.length-x)/\(r.XH->∃c:Nat,b=jb y.dS y.l c/\an .i64 (x:Int) 1=(c:Int)/\c<=y.l.length/\y.l.length-c<y.l.length-x):=λe=>by
   rw[e] at z3;refine⟨ω,k,λo=>⟨?_,x+1,?_,aV ω ω,ω,ω⟩,λo=>⟨x+1,?_,aV ω ω,ω,ω⟩⟩
   ·grind
   ·rw[hs];unfold txR;rw[Zaa (by grind),<-z3];rfl
   ·grind [txR]
  refine⟨λt=>⟨λh=>?_,λh=>fin ?_⟩,λt=>fin ?_⟩
  ·obtain⟨m,n⟩:∃m,(Oh r).toNat-a=m+1:=⟨(Oh r).toNat-a-1,ω⟩;rw[n,yo,Zac h] at z3;have i:(b++r.piece).length<=1000000100000:=by grind
   refine⟨ω,k,ω,(a+1,b++r.piece),rfl,aV ω ω,⟨⟨ω,by grind,?_⟩,ω⟩⟩;grind
  ·cases(Oh r).toNat-a with
   | zero=>rfl
   | succ m=>rw[yo,Zaa ω]
  ·rw[show(Oh r).toNat-a=0 by omega];rfl
 ·have e:x=y.l.length:=ω;subst e;refine⟨λq=>⟨h1,ω,rfl⟩,λq=>?_⟩;grind [rv,List.take_of_length_le]
def Ql4:Ok V2:=okZ [V0] Tryz.f5 QtI Qdg QtK
theorem LG (y:b7):(ax 3 (ab y.r)->aC 3 (ab y.r)/\bW y.r 3=(if 3<y.r.length then y.r.take 3 else y.r))/\(ax 3 (ab y.r)=false->y.r=(if 3<y.r.length then y.r.take 3 else y.r)):=by
 rw[gf,gG,dP,aj];refine⟨λh=>⟨ω,by rw[Zac ω];rfl⟩,λh=>by grind⟩
theorem LH (y:b7):(n_ y).r.length<=3:=by
 grind [n_]
theorem Ql5 (y:b7) (a:CK (y,true)):Jp y:=by
 have a:true=l8 (n_ y):=a;have hl:=LH y;grind [LG,oA,n_,Jp,lX,aq]
theorem Ql6 (y:b7) (a:CK (y,false)):Jq y:=by
 have a:false=l8 (n_ y):=a;grind [LG,oA,n_,Jq]
def Ql7 (hl:Ok tL) (a:Ok zm):Ok Oi:=uR (k:=Oi) id id (λ_=>rfl) V4 V5 ⟨hl,a⟩ Ql5 Ql6
def nc (lo hi:Nat) (x:Ins):Prop:=x.a_.length<=1000000/\((x.op=1/\x.x=0/\x.y=0/\x.a_=aL x.a_)\/(x.op=2/\(lo:Int)<=x.x/\x.x<=hi/\(lo:Int)<=x.y/\x.y<=hi/\x.a_=[])\/(x.op=3/\(lo:Int)<=x.x/\x.x<=hi/\x.y=0/\x.a_=[])\/(x.op=4/\0<=x.x/\x.x<10/\x.y=0/\x.a_=[])\/((x.op=5\/x.op=6)/\x.x=0/\x.y=0/\x.a_=[]))
def nc.mono {i g:Nat} {x:Ins} (h:nc B Z x) (h1:i<=B) (j:Z<=g):nc i g x:=by
 obtain⟨h0,h | ⟨a,b,c,d,e,f⟩ | ⟨a,b,c,d⟩ | h | h⟩:=h
 ·exact⟨h0,.inl h⟩
 ·exact⟨h0,.inr (.inl ⟨a,ω,ω,ω,ω,f⟩)⟩
 ·exact⟨h0,.inr (.inr (.inl ⟨a,ω,ω,d⟩))⟩
 ·exact⟨h0,.inr (.inr (.inr (.inl h)))⟩
 ·exact⟨h0,.inr (.inr (.inr (.inr h)))⟩
theorem FL {b out:Nat} (lz:Bool) (h1:B<=b) (a:b+1<=Z) (c:B<=out) (d:out<=Z):nc B Z (gU lz b out):=by
 unfold gU;split<;>exact⟨Zaj _,.inr (.inl ⟨rfl,by grind,by grind,by grind,by grind,rfl⟩)⟩
theorem LI (a:∀b,∀x∈Y b,nc b (b+B) x):∀(n b:Nat),∀x∈gB Y B n b,nc b (b+n*B) x
 | 0,b,x,h=>nomatch h
 | n+1,b,x,h=>by
  rw[gB] at h;have e:b+B+n*B=b+(n+1)*B:=by grind
  rcases Zax.1 h with h | h
  ·exact(a b x h).mono (Zah _) ω
  ·exact(LI a n _ x h).mono ω ω
theorem LJ {lz:Bool} (a:∀b,∀x∈Y b,nc b (b+B) x):∀(n b:Nat),b+n*(B+1)<=Z->∀x∈eP (λi=>gU lz i Z) Y B n b,nc b Z x
 | 0,b,_,x,h=>nomatch h
 | n+1,b,c,x,h=>by
  rw[eP] at h;have e:b+1+B+n*(B+1)=b+(n+1)*(B+1):=by grind
  have hle:b+1+B<=Z:=ω;rcases Zbf.1 h with rfl | h
  ·grind [FL]
  ·rcases Zax.1 h with h | h
   ·exact(a _ x h).mono ω ω
   ·exact(LJ a n _ ω x h).mono ω (Zah _)
def NdT (t:Tree):Prop:=∀x∈ay t,iK x
def NdL (l:List Tree):Prop:=∀x∈au l,iK x
mutual
theorem CL:∀(t:Tree) (b:Nat),kz t->NdT t->∀x∈bH t b,nc b (b+bd t) x
 | .mk op r mn mx lz cap nk ks,b,h,hn,x,hx=>by
  rw[kz] at h
  obtain⟨⟨g,hw⟩,_,h3⟩:=h
  have hn1:iK ⟨op,r,mn,mx,lz,cap,ks.length⟩:=hn _ (by rw[ay];exact Za8 ..)
  have hn2:NdL ks:=λy hy=>hn y (by rw[ay];exact ZaU _ hy)
  have hl:=λb=>FM ks b h3 hn2
  have hll:=λb=>m_ ks b h3
  rw[bH] at hx
  rw[bd]
  unfold pq
  unfold bw at hw
  by_cases h2:op=2
  ·simp[h2] at hx hw ⊢
   subst hx
   refine⟨hn1,.inl ⟨rfl,rfl,rfl,?_⟩⟩
   split at hw
   ·cases hw
   ·exact(by simpa using hw:_/\_).2
  ·by_cases h7:op=7
   ·simp[h7] at hx ⊢
    subst hx
    exact⟨Zaj _,.inr (.inr (.inr (.inr ⟨.inl rfl,rfl,rfl,rfl⟩)))⟩
   ·by_cases h8:op=8
    ·simp[h8] at hx ⊢
     subst hx
     exact⟨Zaj _,.inr (.inr (.inr (.inr ⟨.inr rfl,rfl,rfl,rfl⟩)))⟩
    ·by_cases h3':op=3
     ·simp[h3'] at hx ⊢
      exact hl b x hx
     ·by_cases h4:op=4
      ·simp[h4] at hx ⊢
       exact(LK ks b _ h3 hn2 (Zah _) x hx).mono (Zah _) ω
      ·by_cases h5:op=5
       ·subst h5
        simp only[show ¬((5:Int)=2) by decide,show ¬((5:Int)=7) by decide,show ¬((5:Int)=8) by decide,show ¬((5:Int)=3) by decide,show ¬((5:Int)=4) by decide,show ¬((5:Int)=6) by decide,Za0,Zbv,or_self] at hx ⊢
        unfold IB at hx
        rcases Zax.1 hx with hx | hx
        ·refine(LI hl _ _ x hx).mono (Zah _) ?_
         split<;>omega
        ·split at hx
         ·rename_i hm
          rw[Zac hm]
          rcases Zbf.1 hx with rfl | hx
          ·exact FL lz ω ω ω ω
          ·rcases Zax.1 hx with hx | hx
           ·exact(hl _ x hx).mono ω ω
           ·rw[ZaI.1 hx]
            exact⟨Zaj _,.inr (.inr (.inl ⟨rfl,by simp only;omega,by simp only;omega,rfl,rfl⟩))⟩
         ·rename_i hm
          rw[Zaa hm]
          unfold kY at hx
          refine(LJ hl _ _ ?_ x hx).mono ω ω
          omega
       ·by_cases h6:op=6
        ·simp[h6] at hx hw ⊢
         have hc:1<=cap/\cap<=4:=by
          split at hw
          ·cases hw
          ·have:=(by simpa using hw:_/\_)
           omega
         rcases hx with rfl | hx | rfl
         ·exact⟨Zaj _,.inr (.inr (.inr (.inl ⟨rfl,by simp only;omega,by simp only;omega,rfl,rfl⟩)))⟩
         ·exact(hl _ x hx).mono ω ω
         ·exact⟨Zaj _,.inr (.inr (.inr (.inl ⟨rfl,by simp only;omega,by simp only;omega,rfl,rfl⟩)))⟩
        ·simp[h2,h7,h8,h3',h4,h5,h6] at hx
theorem FM:∀(l:List Tree) (b:Nat),mm l->NdL l->∀x∈a7 l b,nc b (b+aG l) x
 | [],b,_,_,x,hx=>by rw[a7] at hx;cases hx
 | t::l,b,h,hn,x,hx=>by
  rw[mm] at h
  rw[a7] at hx
  rw[aG]
  rcases Zax.1 hx with hx | hx
  ·exact(CL t b h.1 (λy hy=>hn y (by rw[au];exact Zay _ hy)) x hx).mono (Zah _) ω
  ·exact(FM l _ h.2 (λy hy=>hn y (by rw[au];exact ZaC _ hy)) x hx).mono ω ω
theorem LK:∀(l:List Tree) (b e:Nat),mm l->NdL l->b+aG l+2*(l.length-1)<=e->∀x∈kk l b e,nc b e x
 | [],b,e,_,_,_,x,hx=>by rw[kk] at hx;cases hx
 | t::l,b,e,h,hn,he,x,hx=>by
  rw[mm] at h
  rw[kk] at hx
  rw[aG] at he
  have ht:=λb=>CL t b h.1 (λy hy=>hn y (by rw[au];exact Zay _ hy))
  have hl:=λb=>LK l b e h.2 (λy hy=>hn y (by rw[au];exact ZaC _ hy))
  cases l with
  | nil=>
   simp only[List.isEmpty_nil,Zbv] at hx
   exact(ht b x hx).mono (Zah _) ω
  | cons u l=>
   simp only[List.isEmpty_cons,ZaE,Za0] at hx
   simp only[Zae] at he hl
   rcases Zbf.1 hx with rfl | hx
   ·exact⟨Zaj _,.inr (.inl ⟨rfl,by simp only;omega,by simp only;omega,by simp only;omega,by simp only;omega,rfl⟩)⟩
   ·rcases Zax.1 hx with hx | hx
    ·exact(ht _ x hx).mono ω ω
    ·rcases Zbf.1 hx with rfl | hx
     ·exact⟨Zaj _,.inr (.inr (.inl ⟨rfl,by simp only;omega,by simp only;omega,rfl,rfl⟩))⟩
     ·exact(hl _ ω x hx).mono ω (Zah _)
end
variable {i:Nat} {Z:aJ} {c:List Ins} {y:aA} {b:By} {s:List Int} {a:List Found}
def Seg (c:List Ins) (q lo hi:Nat):Prop:=lo<=hi/\hi<c.length/\c.getD hi dB=⟨7,q,0,[]⟩/\∀i,lo<=i->i<hi->nc lo hi (c.getD i dB)
def V8 (c:List Ins) (s:List Int) (r:Nat):Prop:=s.length=r/\(∀q,q<r->∃lo hi:Nat,s.getD q 0=lo/\Seg c q lo hi)/\∀i,i<c.length->∃q lo hi:Nat,q<r/\Seg c q lo hi/\lo<=i/\i<=hi
theorem yp {α:Type} (d:α) (a b:List α) (h:i<a.length):(a++b).getD i d=a.getD i d:=by
 grind
theorem Oj {α:Type} (d:α) (a b:List α) (i:Nat):(a++b).getD (a.length+i) d=b.getD i d:=by
 grind
theorem Seg.app {lo hi:Nat} (h:Seg c i lo hi) (d:List Ins):Seg (c++d) i lo hi:=by
 obtain⟨h1,e,f,g⟩:=h;refine⟨h1,by grind,by grind,λq a b=>?_⟩;grind
theorem QaM (c:List Ins) {t:Tree} (r:Nat) (h:kz t) (e:NdT t):Seg (c++qy t r c.length) r c.length (c.length+bd t+2):=by
 have hl:=iN t (c.length+1) h;have f:qy t r c.length=(⟨4,0,0,[]⟩::(bH t (c.length+1)++[⟨4,1,0,[]⟩]))++[⟨7,r,0,[]⟩]:=by grind [qy]
 have g:((⟨4,0,0,[]⟩:Ins)::(bH t (c.length+1)++[⟨4,1,0,[]⟩])).length=bd t+2:=by simp[hl]
 rw[f];refine⟨ω,by grind,?_,λi a b=>?_⟩
 ·grind
 ·obtain⟨k,rfl⟩:∃k,i=c.length+k:=⟨i-c.length,ω⟩;rw[Oj,yp _ _ _ ω];have d:((⟨4,0,0,[]⟩:Ins)::(bH t (c.length+1)++[⟨4,1,0,[]⟩])).getD k dB∈((⟨4,0,0,[]⟩:Ins)::(bH t (c.length+1)++[⟨4,1,0,[]⟩])):=by
   grind
  generalize ((⟨4,0,0,[]⟩:Ins)::(bH t (c.length+1)++[⟨4,1,0,[]⟩])).getD k dB=x at d ⊢;rcases Zbf.1 d with rfl | d
  ·exact⟨Zaj _,.inr (.inr (.inr (.inl ⟨rfl,by grind,by grind,rfl,rfl⟩)))⟩
  ·rcases Zax.1 d with d | d
   ·exact(CL t _ h e x d).mono ω ω
   ·rw[ZaI.1 d];exact⟨Zaj _,.inr (.inr (.inr (.inl ⟨rfl,by grind,by grind,rfl,rfl⟩)))⟩
theorem V9 {t:Tree} (h:V8 c s i) (hw:kz t) (m:NdT t):V8 (c++qy t i c.length) (s++[(c.length:Int)]) (i+1):=by
 obtain⟨h1,k,l⟩:=h;have n:=QaM c i hw m;have hl:=iN t (c.length+1) hw;refine⟨by simp[h1],λq o=>?_,λr hi=>?_⟩
 ·by_cases j:q<i
  ·obtain⟨lo,hi,e,hs⟩:=k q j;exact⟨lo,hi,by grind,hs.app _⟩
  ·grind
 ·by_cases g:r<c.length
  ·obtain⟨q,lo,f,a,b,d,e⟩:=l r g;exact⟨q,lo,f,ω,b.app _,d,e⟩
  ·grind [qy]
theorem LL:∀(l:List (List Nd)) (r:Nat) (c:List Ins) (s:List Int),(∀x∈l,∀n∈x,iK n)->V8 c s r->c.length<=400->(lf l r c s).2.1=0->V8 (lf l r c s).1.1 (lf l r c s).1.2 (r+l.length)/\(lf l r c s).1.1.length<=400
 | [],r,c,s,_,h,f,_=>⟨h,f⟩
 | x::l,r,c,s,hn,h,f,he=>by
  rw[lf] at he ⊢;by_cases i:cR x=false
  ·grind
  ·rw[Zaa i] at he ⊢;obtain⟨t,d,k,m⟩:=jl (L:=x) (by grind);have ht:nV x=t:=by
    have:=kj (a:=0) (r:=[]) d (show x.drop 0=ay t++[] by grind);assumption
   by_cases e:400<c.length+bd (nV x)+3
   ·grind
   ·rw[Zaa e] at he ⊢;rw[ht] at he e ⊢;have b:NdT t:=λn g=>hn x (by simp) n (by grind)
    have hl:=iN t (c.length+1) d;have:=LL l (r+1) _ _ (λy j=>hn y (by simp[j])) (V9 h d b) (by grind [qy]) he;grind
theorem tR {code:List Ins} {Q:Int->Prop} (h0:∀i,Q i->0<=i) (b:∀i,Q i->((code.getD i.toNat dB).op=2->Q (code.getD i.toNat dB).x/\Q (code.getD i.toNat dB).y)/\((code.getD i.toNat dB).op=3->Q (code.getD i.toNat dB).x)/\((code.getD i.toNat dB).op≠2->(code.getD i.toNat dB).op≠3->(code.getD i.toNat dB).op≠7->Q (i+1))):
  ∀(f:Nat) (s:List Bool) (l:List Int),(∀i:Nat,s.getD i false->Q i)->(∀i∈l,Q i)->∀i:Nat,(mT code f s l).getD i false->Q i
 | 0,s,l,hs,_=>hs
 | f+1,s,l,hs,hl=>by
  rw[mT];split
  ·exact hs
  ·rename_i hz
   have hi:Q (l.getD (l.length-1) 0):=by
    rw[Zag,Zaf ω];grind
   have hk:∀i∈l.take (l.length-1),Q i:=λi hi=>hl i (Zcg hi)
   simp only;generalize l.getD (l.length-1) 0=j at hi ⊢;generalize l.take (l.length-1)=k at hk ⊢;obtain⟨p,q,n⟩:=b j hi;have c:=h0 j hi;have a:∀i:Nat,(s.set j.toNat true).getD i false->Q i:=λi h=>by
    by_cases e:i=j.toNat
    ·subst e;rw[show((j.toNat:Nat):Int)=j by omega];exact hi
    ·grind
   split
   ·exact tR h0 b f s k hs hk
   ·split
    ·rename_i o
     refine tR h0 b f _ _ a λi h=>?_
     rcases Zax.1 h with h | h
     ·exact hk i h
     ·simp only[Zbf,Zds,Zdt] at h;rcases h with rfl | rfl
      ·grind
      ·grind
    ·split
     ·rename_i _ o
      refine tR h0 b f _ _ a λi h=>?_
      grind
     ·split
      ·exact tR h0 b f _ k a hk
      ·rename_i d g m
       refine tR h0 b f _ _ a λi h=>?_
       grind
theorem QaN (h:V8 c s i) (D:i<=8) (z:c.length<=400):qV ⟨c,s⟩:=by
 obtain⟨h1,t,u⟩:=h;have hi:∀r,r<c.length->(∃q:Nat,q<i/\c.getD r dB=⟨7,q,0,[]⟩)\/(r+1<c.length/\nc 0 (c.length-1) (c.getD r dB)):=λr hi=>by
  obtain⟨q,lo,l,k,⟨p,a2,a3,a4⟩,A,E⟩:=u r hi;by_cases e:r=l
  ·grind
  ·exact .inr ⟨ω,(a4 r A ω).mono ω ω⟩
 refine⟨z,by grind,λr g=>?_,λx j=>?_,⟨by grind,λr g=>?_⟩,λq k=>?_⟩
 ·have g:r<c.length:=g;show MX (c.getD r dB) (decide ((r:Int)+1<(c.length:Int))) c.length s.length
  have j:=hi r g;generalize c.getD r dB=x at j ⊢;unfold MX;rcases j with⟨q,k,e⟩ | ⟨w,h0,⟨o,a,b,d⟩ | ⟨o,a,b,d,e,f⟩ | ⟨o,a,b,d,e⟩ | ⟨o,a,b,d,e⟩ | ⟨o,a,b,d⟩⟩
  ·rw[e];simp[iq,h1];omega
  ·grind
  ·simp[o,f,iq];omega
  ·simp[o,d,e,iq];omega
  ·simp[o,d,e,iq];omega
  ·rcases o with o | o<;>(simp[o,a,b,d];omega)
 ·obtain⟨r,g,e⟩:=Za3 j;have g:r<c.length:=g;have e2:c.getD r dB=x:=by grind
  rcases hi r g with⟨q,k,B⟩ | ⟨_,h0,_⟩
  ·grind
  ·grind
 ·have g:r<c.length:=g;have j:=hi r g;show((c.getD r dB).op=2->0<=(c.getD r dB).x/\(c.getD r dB).x<c.length/\0<=(c.getD r dB).y/\(c.getD r dB).y<c.length)/\((c.getD r dB).op=3->0<=(c.getD r dB).x/\(c.getD r dB).x<c.length)/\((c.getD r dB).op≠2->(c.getD r dB).op≠3->(c.getD r dB).op≠7->r+1<c.length)
  generalize c.getD r dB=x at j ⊢;rcases j with⟨q,k,e⟩ | ⟨w,h0,⟨o,a,b,d⟩ | ⟨o,a,b,d,e,f⟩ | ⟨o,a,b,d,e⟩ | ⟨o,a,b,d,e⟩ | ⟨o,a,b,d⟩⟩
  ·rw[e];simp
  ·omega
  ·omega
  ·omega
  ·omega
  ·omega
 ·have k:q<i:=by grind
  obtain⟨lo,l,e,p,a2,a3,a4⟩:=t q k;show 0<=s.getD q 0/\s.getD q 0<c.length/\∀r:Nat,r<c.length->(Ek c (s.getD q 0)).getD r false->(c.getD r dB).op=7->(c.getD r dB).x=q
  rw[e];refine⟨ω,ω,λr g m C=>?_⟩;have v:=tR (code:=c) (Q:=λr=>(lo:Int)<=r/\r<=l) (λr h=>ω) (λr v=>by
   obtain⟨n,rfl⟩:=Zau (show 0<=r by omega);rw[Zad];by_cases en:n=l
   ·rw[en,a3];simp
   ·have j:=a4 n ω ω;generalize c.getD n dB=x at j ⊢;obtain⟨h0,⟨o,a,b,d⟩ | ⟨o,a,b,d,e,f⟩ | ⟨o,a,b,d,e⟩ | ⟨o,a,b,d,e⟩ | ⟨o,a,b,d⟩⟩:=j
    ·omega
    ·omega
    ·omega
    ·omega
    ·rcases o with o | o<;>(simp[o];omega)) (3*c.length+1) (noB c.length) [(lo:Int)] (λr h=>by
    unfold noB at h;rw[Zag,List.getElem?_replicate] at h;split at h<;>simp at h) (λr h=>by grind) r m
  by_cases en:r=l
  ·rw[en,a3]
  ·obtain⟨h0,⟨o,_⟩ | ⟨o,_⟩ | ⟨o,_⟩ | ⟨o,_⟩ | ⟨o | o,_⟩⟩:=a4 r ω ω<;>omega
theorem V' {l:List (List Nd)} (f:∀x∈l,∀n∈x,iK n) (c:(bI l).2.1=0):qV ⟨(bI l).1.1,(bI l).1.2⟩/\(bI l).1.2.length=l.length:=by
 have e:bI l=Co l:=by grind [bI,aq]
 rw[e] at c ⊢;unfold Co at c ⊢;split at c
 ·grind
 ·rename_i d
  rw[Zaa d];obtain⟨a,b⟩:=LL l 0 [] [] f ⟨rfl,λq h=>absurd h (Zbo _),λi h=>absurd h (Zbo _)⟩ (Zaj _) c;rw[Za6] at a;exact⟨QaN a ω b,a.1⟩
theorem LM {y:b7} (hl:y.r.length<=1000) (h:l8 y):qV ⟨(bL y).code,(bL y).st⟩/\OK ⟨(bL y).cc,(bL y).cs⟩/\(y.c≠[]->qV ⟨(bL y).cc,(bL y).cs⟩/\(bL y).cs.length=1):=by
 have eS:bL y=iP y:=by grind [bL,aq]
 obtain⟨o1,o⟩:(∀x∈(aW y).out,cn x)/\(aW y).out.length<=y.r.length:=by
  grind [vR,aW,aq]
 have h0:(iP y).err=0:=by grind [l8]
 rw[eS];by_cases h1:8<y.r.length
 ·grind [iP,Lg]
 by_cases e:(aW y).err=0
 case neg=>rw[Vw h1 e] at h0;exact absurd h0 e
 by_cases g:y.c≠[]/\(bT y.c).2.1≠0
 ·rw[Vx h1 e g.1 g.2] at h0;exact absurd h0 g.2
 have d:y.c≠[]->(bT y.c).2.1=0:=λa=>Zch λb=>g ⟨a,b⟩
 by_cases f:(bI (aW y).out).2.1=0
 case neg=>rw[Vy h1 e d f] at h0;exact absurd h0 f
 have n:=V' o1 f;by_cases i:y.c=[]
 ·rw[VA h1 e d f i];exact⟨n.1,⟨Zaj _,Zaj _,λx k=>nomatch k⟩,λh=>absurd i h⟩
 ·by_cases j:(bI [aN (bT y.c).1]).2.1=0
  ·rw[N9 h1 e d f i j];have m:=V' (l:=[aN (bT y.c).1]) (λx k=>by rw[ZaI.1 k];exact vQ (ln _)) j;exact⟨n.1,m.1.pg,λ_=>⟨m.1,m.2⟩⟩
  ·rw[Vz h1 e d f i j] at h0;exact absurd h0 j
theorem qV.cod {p:jW} (h:qV p):Yn p.code:=by
 refine⟨by have:=h.1;omega,λx a b=>?_⟩;obtain⟨i,hi,e⟩:=Za3 a;have hs:=h.2.2.1 i hi;have e2:p.code.getD i dB=x:=by grind
 have hs:MX (p.code.getD i dB) (decide ((i:Int)+1<(p.code.length:Int))) p.code.length p.ah.length:=hs;grind [MX,iq]
def V_ {p:jW} (h:qV p):vP (bM p) 0/\(bM p).v.L.length=p.ah.length:=by
 rw[show bM p=_ from aq _];refine⟨⟨ZaQ _,by show(0:Int)<=3;omega,.inl rfl,Lm h.cod (by have:=h.2.1;omega)⟩,?_⟩;show(rE++(p.ah.take p.ah.length).map iS).length=_
 simp[rE]
theorem Qdh {y:nW} (b:Z=.n\/Z=.c) (h1:qV y.p) (a:Z=.c->qV y.q/\y.q.ah.length=1):pz Z (sM y):=by
 refine⟨(V_ h1).1,λk=>?_,λk=>?_,ZaQ _,ZaQ _,λ_=>by show(0:Int) -0<=200;omega⟩
 ·rcases b with rfl | rfl
  ·cases k
  ·have:=V_ (a rfl).1;exact⟨this.1,by show 0<(bM y.q).v.L.length;rw[this.2,(a rfl).2];exact Nat.one_pos⟩
 ·grind
def Wa (a b:Found):Prop:=a.pos<b.pos\/a.pos=b.pos/\a.kd<b.kd
theorem A8 (e:Int) (l:List fP):∀k,(dQ e l k).Pairwise Wa/\∀x∈dQ e l k,x.pos=e/\x.kd<k
 | 0=>⟨.nil,λx c=>nomatch c⟩
 | k+1=>by
  obtain⟨h1,d⟩:=A8 e l k;rw[dQ];split
  ·refine⟨ZbC.2 ⟨h1,ZdD _ _,λa f b g=>?_⟩,λx c=>?_⟩
   ·rw[ZaI.1 g];exact .inr ⟨(d a f).1,(d a f).2⟩
   ·rcases Zax.1 c with c | c
    ·grind
    ·rw[ZaI.1 c];exact⟨rfl,by show(k:Int)<((k+1:Nat):Int);omega⟩
  ·grind
theorem Jt (e:Int) (l:List fP):(fo e l).Pairwise Wa/\∀x∈fo e l,x.pos=e:=by
 grind [fo,aq,A8]
def iw (f:aJ) (y:aA):Int:=match f with
 | .o=>y.event
 | _=>if y.aE=true then y.line+1 else y.line
def Qf0 (f:aJ) (y:aA) (o:List Found):Prop:=o.Pairwise Wa/\(∀x∈o,x.pos<iw f y)/\(f=.o->y.aE=false/\y.event<y.line)/\y.line<=y.pos
theorem qh {b:List Found} {m n:Int} (c:a.Pairwise Wa) (g:∀x∈a,x.pos<m) (d:b.Pairwise Wa) (h:∀x∈b,m<=x.pos/\x.pos<n) (e:m<=n):(a++b).Pairwise Wa/\∀x∈a++b,x.pos<n:=by
 refine⟨ZbC.2 ⟨c,d,λx f y i=>.inl (by grind)⟩,λx f=>?_⟩;grind
theorem Wb (c:Int) (r:Z=.n\/Z=.c\/Z=.o) (h:Qf0 Z y a):Qf0 (oC Z y c) (jq Z y c) (a++eQ Z y c):=by
 obtain⟨h1,t,q,D⟩:=h;have ht:=Jt;have nil:eQ Z y c=[]->iw Z y<=iw (oC Z y c) (jq Z y c)->(a++eQ Z y c).Pairwise Wa/\∀x∈a++eQ Z y c,x.pos<iw (oC Z y c) (jq Z y c):=λe hl=>by
  grind
 rcases Lo y c with⟨k,k2,k3⟩ | ⟨k,k2⟩ | ⟨k,k2⟩ | ⟨k,k2⟩ | ⟨k,k2⟩
 ·obtain⟨b1,m,_,_,p,_,s,_,_,i,j⟩:=kd1 k;rcases r with rfl | rfl | rfl
  ·obtain⟨o,b⟩:=nil (p _) (by show iw .n y<=iw .n _;simp[iw,jq,b1,m]);exact⟨o,b,nofun,by show bg y c<=y.pos+1;omega⟩
  ·have l:oC .c y c=.c:=by rw[mc rfl,i];rfl
   rw[l] at nil ⊢;obtain⟨o,b⟩:=nil (p _) (by grind [iw,jq]);exact⟨o,b,nofun,by show bg y c<=y.pos+1;omega⟩
  ·have l:oC .o y c=.o:=by rw[mc rfl,j];rfl
   rw[l] at nil ⊢;obtain⟨o,b⟩:=nil (p _) (by simp[iw,jq,s]);exact⟨o,b,λ_=>⟨by show cS y c=false;rw[m];exact k2,by show jR .o y c<bg y c;rw[s,b1];exact(q rfl).2⟩,by show bg y c<=y.pos+1;omega⟩
 ·obtain⟨b1,m,_,_,p,_,s,_,_,i,j⟩:=kd2 k;rcases r with rfl | rfl | rfl
  ·obtain⟨v,w⟩:=ht y.line (gj y.alt);have hl:iw .n y=y.line:=by simp[iw,k2]
   have u:iw (oC .n y c) (jq .n y c)=y.pos+1:=by show iw .n _=_;simp[iw,jq,b1,m]
   obtain⟨o,b⟩:=qh (n:=y.pos+1) h1 (λx d=>hl▸t x d) v (λx d=>by grind) ω;rw[p];exact⟨o,λx d=>u▸b x d,nofun,by show bg y c<=y.pos+1;omega⟩
  ·have l:oC .c y c=.o:=by rw[mc rfl,i];rfl
   rw[l] at nil ⊢;have hl:iw .c y=y.line:=by simp[iw,k2]
   obtain⟨o,b⟩:=nil (p _) (by rw[hl];exact ZaQ _);exact⟨o,b,λ_=>⟨m,by show y.line<bg y c;omega⟩,by show bg y c<=y.pos+1;omega⟩
  ·have l:oC .o y c=.o:=by rw[mc rfl,j];rfl
   rw[l] at nil ⊢;have q:=q rfl;cases E:Gf y
   ·have A:jR .o y c=y.line:=by grind
    have z:eQ .o y c=fo y.event y.ends:=by grind [qH]
    obtain⟨v,w⟩:=ht y.event y.ends;obtain⟨o,b⟩:=qh (n:=y.line) h1 t v (λx d=>by rw[w x d];exact⟨ZaQ _,q.2⟩) (ZdZ q.2);rw[z];exact⟨o,λx d=>by show x.pos<jR .o y c;rw[A];exact b x d,λ_=>⟨m,by show jR .o y c<bg y c;omega⟩,by show bg y c<=y.pos+1;omega⟩
   ·have A:jR .o y c=y.event:=by grind
    have z:eQ .o y c=[]:=by grind [qH]
    obtain⟨o,b⟩:=nil z (by show y.event<=jR .o y c;omega);exact⟨o,b,λ_=>⟨m,by show jR .o y c<bg y c;omega⟩,by show bg y c<=y.pos+1;omega⟩
 ·obtain⟨b1,m,_,_,B,bc,bo,i,j⟩:=kd3 k;have one:[zj y].Pairwise Wa/\∀x∈[zj y],x.pos=y.line:=⟨ZdD _ _,λx d=>by rw[ZaI.1 d];rfl⟩;have u:∀Z,Z=.n\/Z=.c->∀g,iw Z (jq g y c)=y.line+1:=λZ r g=>by grind [iw,jq]
  rcases r with rfl | rfl | rfl
  ·have hl:iw .n y=y.line:=by simp[iw,k2]
   obtain⟨o,b⟩:=qh (n:=y.line+1) h1 (λx d=>hl▸t x d) one.1 (λx d=>by grind) ω;rw[B];exact⟨o,λx d=>by grind [oC],nofun,by show bg y c<=y.pos+1;omega⟩
  ·have l:oC .c y c=.c:=by rw[mc rfl,i];rfl
   have hl:iw .c y=y.line:=by simp[iw,k2]
   obtain⟨o,b⟩:=qh (n:=y.line+1) h1 (λx d=>hl▸t x d) one.1 (λx d=>by grind) ω;rw[bc,l];exact⟨o,λx d=>by grind,nofun,by show bg y c<=y.pos+1;omega⟩
  ·have l:oC .o y c=.c:=by rw[mc rfl,j];rfl
   have q:=q rfl;obtain⟨v,w⟩:=ht y.event y.ends;obtain⟨o,b⟩:=qh (n:=y.line) h1 t v (λx d=>by rw[w x d];exact⟨ZaQ _,q.2⟩) (ZdZ q.2);obtain⟨C,F⟩:=qh (n:=y.line+1) o b one.1 (λx d=>by grind) ω;rw[bo,l,<-ZaD];exact⟨C,λx d=>by grind,nofun,by show bg y c<=y.pos+1;omega⟩
 ·obtain⟨b1,m,_,_,p,_,s,_,_,i,j⟩:=kd4 (y:=y) (c:=c) ω ω ω ω;rcases r with rfl | rfl | rfl
  ·obtain⟨o,b⟩:=nil (p _) (by show iw .n y<=iw .n _;simp[iw,jq,b1,m]);exact⟨o,b,nofun,by show bg y c<=y.pos+1;omega⟩
  ·have l:oC .c y c=.c:=by rw[mc rfl,i];rfl
   rw[l] at nil ⊢;obtain⟨o,b⟩:=nil (p _) (by grind [iw,jq]);exact⟨o,b,nofun,by show bg y c<=y.pos+1;omega⟩
  ·grind
 ·obtain⟨b1,m,_,_,p,_,s,_,_,i,j⟩:=kd5 k;rcases r with rfl | rfl | rfl
  ·obtain⟨o,b⟩:=nil (p _) (by show iw .n y<=iw .n _;simp[iw,jq,b1,m,k2];omega);exact⟨o,b,nofun,by show bg y c<=y.pos+1;omega⟩
  ·have l:oC .c y c=.c:=by rw[mc rfl,i];rfl
   rw[l] at nil ⊢;obtain⟨o,b⟩:=nil (p _) (by grind [iw,jq]);exact⟨o,b,nofun,by show bg y c<=y.pos+1;omega⟩
  ·grind
theorem FN (a:Z=.n\/Z=.c) (h:y.line<=y.pos):∀k,Qf0 (bb Z y b k).1 (bb Z y b k).2.1 (bb Z y b k).2.2/\((bb Z y b k).1=.n\/(bb Z y b k).1=.c\/(bb Z y b k).1=.o)
 | 0=>⟨⟨.nil,λ_ d=>absurd d Zds,λe=>(by grind [bb]),h⟩,by rcases a with rfl | rfl;exact .inl rfl;exact .inr (.inl rfl)⟩
 | k+1=>by
  obtain⟨i1,i2⟩:=FN a h k;refine⟨Wb _ i2 i1,?_⟩;grind [oC,bb]
theorem FO (a:i<=b.length):∀k,k<=i->bb Z y (b.take i) k=bb Z y b k
 | 0,_=>rfl
 | k+1,hk=>by
  have e:(b.take i).getD k 0=b.getD k 0:=by
   grind
  rw[bb,bb,FO a k ω,e]
theorem LN {f:aJ}:∀(k d:Nat),(bb f y b k).2.2<+:(bb f y b (k+d)).2.2
 | k,0=>List.prefix_refl _
 | k,d+1=>(LN k d).trans (List.prefix_append _ _)
structure sP where
 s:b7
 l:List mP
 k:Int
def ew (y:sP):By:=lk (rv ⟨y.l,700⟩)
def oc (f:aJ) (y:sP):aA:=⟨lX y.s,0,0,0,0,false,[],bM (lX y.s).p,(match f with
 | .n=>gM
 | _=>bM (lX y.s).q),gM⟩
def lwI (y:sP):aJ:=if rp (lX y.s)=true then .c else .n
def mr (y:sP):aJ×aA×List Found:=bb (lwI y) (oc (lwI y) y) (ew y) (ew y).length
def Wc (y:sP):aJ:=if qI y.s=true then(mr y).1 else .n
def lwP (y:sP×aJ):Prop:=y.1.l.length<=1000000000000/\(∀r∈y.1.l,r.piece.length<=1000000000000)/\y.2=Wc y.1
def Wd:bf D:=bZ 6 Unit (λ_ _=>.ret ()) (λ_=>True) (λ_=>[]) λ_=>.lit true
def lwC:bf D:=bZ 3 (sP×aJ) (λ_ _=>.fail) lwP (λy=>[Ff y.1.s,.list 19 y.1.l,Qu9 y.1.k]) λ_=>.lit true
def CM (y:sP):Int:=jr ⟨y.k,0,(ew y).length⟩
def vU (y:sP):List Found:=lk (bb (lwI y) (oc (lwI y) y) ((ew y).take (CM y).toNat) (CM y).toNat).2.2
def C0 (y:sP):List Found:=lk (mr y).2.2
def Ql9 (f:aJ):aJ:=match f with
 | .n=>.n
 | _=>.c
def QtM (n:Nat):List (Nat×AV D.E):=match n with
 | 0=>[]
 | _=>[(13,.ptr 25 0),(14,.num .i64 0)]
def QtN (g:aJ) (y:sP) (n:Nat):List (Nat×AO D.E):=match n with
 | 0=>[]
 | _=>QkF 25 g 26 (oc g y)
def lwJ (g:aJ) (y:sP) (n:Nat):gP D:=⟨Unit,[2],λ_=>[(7,.ptr 0 0),(10,.list 0 (ew y)),(11,.ptr 3 0),(12,.num .i64 0)]++QtM n,[],λ_=>fc g 4 (oc g y)++QtN g y n,47,λ_=>qI y.s,λ_=>0⟩
def lwO (f:aJ) (y:sP):cH D:=⟨[],[],[(16378,⟨Nat,[16],λk=>[(11,.ptr 3 0),(18,Qu9 k)],[],λ_=>fc f 4 (iu (lX y.s) (mr y).2.1),25,λk=>1<=k/\k<=(C0 y).length+1,λk=>(C0 y).length+1-k⟩)],
 [(31,lwJ (Ql9 f) y 0),(63,lwJ (Ql9 f) y 1),(511,⟨Unit,[],λ_=>[(11,.ptr 3 0),(16,.list 4 (C0 y)),(17,.list 4 (vU y))],[],λ_=>fc f 4 (iu (lX y.s) (mr y).2.1),25,λ_=>qI y.s,λ_=>0⟩)],1,[]⟩
def Qf2 (y:lwC.Y):cH D:=lwO (Prod.snd y) (Prod.fst y)
def lwT:vE:=[Oi,V2,Wd,yd,V0,Κ,fdC,U9,V1]
def QtO (y:sP):Prop:=vc lwT Tryz.f3 lwC Qf2 (y,.n)
def QtP (y:sP):Prop:=vc lwT Tryz.f3 lwC Qf2 (y,.c)
def QtQ (y:sP):Prop:=vc lwT Tryz.f3 lwC Qf2 (y,.o)
end
end sx
end Go.Proofs.YtadfknojfbmjgaaGreat
