/- PointReads: a part of the proof. -/
import Derived.Test.YtiiiphndmbabcaaGreatC3
import Derived.Test.YtiiiphndmbabcaaGreatProg
import Derived.KernelRfl
import Derived.Test.YtiiiphndmbabcaaGreatRows
import Derived.OpenShut
import Derived.ProofKit
import Derived.Deep.Slices
set_option linter.all false
namespace Go.Proofs.YtiiiphndmbabcaaGreat
open Go.Proofs.Tryz
namespace syn
open Go Go.RowKit cls
def xt {α:Type} {l:List α} {i:Nat} {x:α} (h:l[i]?=some x):i<l.length:=(Zam.1 h).1
structure Nd where
 op:Int
 r:List Rg
 mn:Int
 mx:Int
 lz:Bool
 cap:Int
 ae:Int
def Nd.tup (x:Nd):Int×List Rg×Int×Int×Bool×Int×Int:=(x.op,x.r,x.mn,x.mx,x.lz,x.cap,x.ae)
theorem Nd.Yj {x y:Nd} (h:x.tup=y.tup):x=y:=by
 cases x;cases y;grind [Nd.tup]
instance:DecidableEq Nd:=λa b=>decidable_of_iff (a.tup=b.tup) ⟨Nd.Yj,λh=>by rw[h]⟩
def nd (op:Int):Nd:=⟨op,[],0,0,false,0,0⟩
def xu (l:List Rg):Nd:={ nd 2 with r:=l }
abbrev Gt:=Int×Int
structure Ps where
 i:Nat
 ak:Nat
 ab:Nat
 an:Int
 wh:Int
section
variable (G:List Gt)
def aI (i:Nat):Int:=((G.take i).map (·.2)).sum
def Ps.ax (s:Ps) (i:Nat) (e:Int):Ps:=if s.an=0 then { s with an:=e,wh:=aI G i } else s
def bb (s:Ps) (r:Int):Bool:=match G[s.i]? with
 | some g=>g.1==r
 | none=>false
def Ps.next (s:Ps):Ps:={ s with i:=s.i+1 }
def bp (s:Ps) (r:Int):Ps:=if bb G s r then s.next else s
def fi (i:Nat):Bool:=match G[i]? with
 | some g=>g.1==65533&&g.2==1
 | none=>false
def aK (i:Nat):Int:=(G.getD i (0,0)).1
def bW (op:Int):List (List Nd)->List Nd
 | []=>[nd 1]
 | [x]=>x
 | a=>{ nd op with ae:=a.length }::a.flatten
def Yk:List Rg:=lH [(10,10)]
def ew (r:Int):List Rg:=aU [(r,r)]
def iw (r:Int):Bool:=decide (33<=r)&&decide (r<=47)||decide (58<=r)&&decide (r<=64)||decide (91<=r)&&decide (r<=96)||decide (123<=r)&&decide (r<=126)
def mC (s:Ps) (a:Nat) (r:Int):Ps×List Rg×Bool:=
 if r=110 then(s,ew 10,true)
 else if r=116 then(s,ew 9,true)
 else if r=114 then(s,ew 13,true)
 else if r=100 then(s,aU [(48,57)],false)
 else if r=115 then(s,aU [(9,10),(13,13),(32,32)],false)
 else if r=119 then(s,aU [(48,57),(65,90),(95,95),(97,122)],false)
 else if iw r then(s,ew r,true)
 else(s.ax G a 4,[],false)
def eh (s:Ps):Ps×List Rg×Bool:=
 let t:=s.next
 if G.length<=t.i then(t.ax G s.i 4,[],false)
 else if fi G t.i then(t.ax G t.i 4,[],false)
 else mC G t.next s.i (aK G t.i)
def b5 (s:Ps):Ps×List Rg×Bool:=
 if fi G s.i then(s.ax G s.i 4,[],false)
 else
  let r:=aK G s.i
  if r=92 then eh G s
  else if r=91\/r=93\/r=45 then(s,[],false)
  else(s.next,[(r,r)],true)
def o7 (l:List Rg):Int:=(l.getD 0 (0,0)).1
def j3 (a:List Rg) (one:Bool) (c:Nat) (s:Ps):Ps×List Rg:=
 let b:=if s.i<G.length then b5 G s else(s,[],false)
 let t:=if b.1.an=0/\(one=false\/b.2.2=false\/o7 b.2.1<o7 a) then b.1.ax G c 4 else b.1
 if t.an=0 then(t,[(o7 a,o7 b.2.1)]) else(t,[])
def ei (s:Ps):Ps×List Rg:=
 let a:=b5 G s
 if a.1.an≠0 then(a.1,[])
 else if a.2.1=[] then(a.1.ax G s.i 4,[])
 else if bb G a.1 45 then j3 G a.2.1 a.2.2 s.i a.1.next
 else(a.1,a.2.1)
def dX (a:Nat):Nat->Ps->List Rg->Bool->Ps×List Rg×Bool×Bool
 | 0,s,l,none_=>(s,l,none_,false)
 | n+1,s,l,none_=>
  if s.an=0/\bb G s 93=false then
   if G.length<=s.i then(s.ax G a 4,l,none_,true)
   else dX a n (ei G s).1 (l++(ei G s).2) false
  else(s,l,none_,false)
def sd (s:Ps):Ps×List Nd:=
 let neg:=bb G s.next 94
 let t:=bp G s.next 94
 let c:=dX G s.i (G.length+2-t.i) t [] true
 if c.2.2.2 then(c.1,[])
 else if c.1.an≠0 then(c.1,[])
 else if c.2.2.1 then(c.1.ax G s.i 4,[])
 else(c.1.next,[xu (if neg then lH (aU c.2.1) else aU c.2.1)])
def ct:Nat->Nat->List UInt8->Nat×List UInt8
 | 0,i,b=>(i,b)
 | n+1,i,b=>if i<G.length/\48<=aK G i/\aK G i<=57 then
   ct n (i+1) (if 48<aK G i\/b≠[] then b++[UInt8.ofNat (aK G i).toNat] else b) else(i,b)
def dv (s:Ps):Ps:={ s with i:=(ct G (G.length-s.i) s.i []).1 }
def gU (s:Ps):List UInt8:=(ct G (G.length-s.i) s.i []).2
def gJ (s:Ps):Bool:=decide (s.i<(ct G (G.length-s.i) s.i []).1)
end
def iy (a b:List UInt8):Bool:=decide (a.length<b.length)||(a.length==b.length&&Op.bytesLess a b)
def hI (l:List UInt8):Int:=l.foldl (λn c=>10*n+((c.toNat:Int) -48)) 0
def eF (l:List UInt8):Int×Bool:=if 2<l.length then(0,false) else(hI l,decide (hI l<=30))
section
variable (G:List Gt)
def nK (a:Nat) (s:Ps) (m n:List UInt8) (ok en:Bool):Ps×Int×Int:=
 if ok=false then(s.ax G a 4,0,0)
 else if bb G s 125=false then(s.ax G a 4,0,0)
 else if en=false/\iy n m=true then(s.next.ax G a 4,0,0)
 else
  let lo:=eF m
  let hi:=eF (if en then[] else n)
  if lo.2=false\/hi.2=false then(s.next.ax G a 2,0,0)
  else(s.next,lo.1,if en then-1 else hi.1)
def gv (s:Ps):Ps×Int×Int:=
 let t:=dv G s.next
 let m:=gU G s.next
 let ok:=gJ G s.next
 if ok/\bb G t 44 then nK G s.i (dv G t.next) m (gU G t.next) ok (!gJ G t.next)
 else nK G s.i t m m ok false
def ig (aH:Ps->Ps×List Nd) (s:Ps):Ps×List Nd:=
 let free:=bb G s.next 63
 let c:=if free then s.next.next else s.next
 if free/\bb G c 58=false then(c.ax G s.i 4,[])
 else
  let s3:=if free then c.next else c
  if 20<=s3.ak then(s3.ax G s.i 10,[])
  else if free=false/\4<=s3.ab then(s3.ax G s.i 13,[])
  else
   let d:Ps:=if free then s3 else { s3 with ab:=s3.ab+1 }
   let a:=aH { d with ak:=d.ak+1 }
   let b:Ps:={ a.1 with ak:=a.1.ak-1 }
   if b.an=0/\bb G b 41=false then(b.ax G s.i 4,[])
   else
    let e:Ps:=if b.an=0 then b.next else b
    if free then(e,a.2) else(e,{ nd 6 with cap:=d.ab,ae:=1 }::a.2)
def jb (aH:Ps->Ps×List Nd) (s:Ps):Ps×List Nd:=
 if fi G s.i then(s.ax G s.i 4,[])
 else
  let r:=aK G s.i
  if r=40 then ig G aH s
  else if r=91 then sd G s
  else if r=92 then((eh G s).1,[xu (eh G s).2.1])
  else if r=46 then(s.next,[xu Yk])
  else if r=94 then(s.next,[nd 7])
  else if r=36 then(s.next,[nd 8])
  else if r=42\/r=43\/r=63\/r=41\/r=93\/r=123\/r=125\/r=124 then(s.ax G s.i 4,[])
  else(s.next,[xu (ew r)])
def nL (s:Ps) (mn mx:Int) (x:List Nd):Ps×List Nd:=
 if s.an≠0 then(s,[])
 else(bp G s 63,{ nd 5 with mn:=mn,mx:=mx,lz:=bb G s 63,ae:=1 }::x)
def fv (aH:Ps->Ps×List Nd) (s:Ps):Ps×List Nd:=
 let a:=jb G aH s
 if a.1.an≠0 then(a.1,[])
 else if bb G a.1 42 then nL G a.1.next 0 (-1) a.2
 else if bb G a.1 43 then nL G a.1.next 1 (-1) a.2
 else if bb G a.1 63 then nL G a.1.next 0 1 a.2
 else if bb G a.1 123 then nL G (gv G a.1).1 (gv G a.1).2.1 (gv G a.1).2.2 a.2
 else a
def eI (aH:Ps->Ps×List Nd):Nat->Ps->List (List Nd)->Ps×List (List Nd)
 | 0,s,a=>(s,a)
 | n+1,s,a=>
  if s.an=0/\s.i<G.length/\bb G s 124=false/\¬(bb G s 41/\0<s.ak) then eI aH n (fv G aH s).1 (a++[(fv G aH s).2])
  else(s,a)
def mD (aH:Ps->Ps×List Nd) (s:Ps):Ps×List Nd:=
 let c:=eI G aH (G.length+2-s.i) s []
 (c.1,bW 3 c.2)
def gx (aH:Ps->Ps×List Nd):Nat->Ps->List (List Nd)->Ps×List (List Nd)
 | 0,s,a=>(s,a)
 | n+1,s,a=>
  if s.an=0/\bb G s 124=true then gx aH n (mD G aH s.next).1 (a++[(mD G aH s.next).2])
  else(s,a)
def Ed (aH:Ps->Ps×List Nd) (s:Ps):Ps×List Nd:=
 let c:=mD G aH s
 let d:=gx G aH (G.length+2-c.1.i) c.1 [c.2]
 (d.1,bW 4 d.2)
def qZ:Nat->Ps->Ps×List Nd
 | 0,s=>(s,[])
 | n+1,s=>Ed G (qZ n) s
def Pe:Ps:=⟨0,0,0,0,0⟩
def xw:List Nd×Int×Int:=
 let a:=qZ G 21 Pe
 let s:=if a.1.an=0/\a.1.i<G.length then a.1.ax G a.1.i 4 else a.1
 if s.an≠0 then([],s.an,s.wh) else(a.2,0,0)
end
section
variable {G:List Gt}
@[simp] theorem Yl (s:Ps) (k:Nat) (e:Int):(s.ax G k e).i=s.i:=by grind [Ps.ax]
@[simp] theorem QbM (s:Ps) (k:Nat) (e:Int):(s.ax G k e).ak=s.ak:=by grind [Ps.ax]
@[simp] theorem Ci (s:Ps) (k:Nat) (e:Int):(s.ax G k e).ab=s.ab:=by grind [Ps.ax]
theorem fj (s:Ps) (k:Nat) {e:Int} (a:e≠0):(s.ax G k e).an≠0:=by
 grind [Ps.ax]
@[simp] theorem jg (s:Ps):s.next.i=s.i+1:=rfl
@[simp] theorem Qd6 (s:Ps):s.next.ak=s.ak:=rfl
@[simp] theorem QbN (s:Ps):s.next.ab=s.ab:=rfl
@[simp] theorem Qg5 (s:Ps):s.next.an=s.an:=rfl
theorem da {s:Ps} {r:Int} (h:bb G s r):s.i<G.length:=by
 grind [bb]
structure gi (G:List Gt) (s t:Ps):Prop where
 le:s.i<=t.i
 len:t.i<=G.length
 op:t.ak=s.ak
 gr:s.ab<=t.ab
 gm:t.ab<=4
variable {s Z:Ps}
def gi.trans {u:Ps} (h:gi G s Z) (a:gi G Z u):gi G s u:=
 ⟨Zav h.le a.le,a.len,a.op.trans h.op,Zav h.gr a.gr,a.gm⟩
theorem gi.refl (h:s.i<=G.length) (a:s.ab<=4):gi G s s:=⟨Zah _,h,rfl,Zah _,a⟩
theorem gi.ax (h:gi G s Z) (k:Nat) (e:Int):gi G s (Z.ax G k e):=⟨by simpa using h.le,by simpa using h.len,by simpa using h.op,by simpa using h.gr,by simpa using h.gm⟩
theorem gi.next (h:gi G s Z) (hl:Z.i<G.length):gi G s Z.next:=⟨by have:=h.le;simp;omega,by simp;omega,h.op,h.gr,h.gm⟩
def gi.skip (h:gi G s Z) (r:Int):gi G s (bp G Z r):=by
 unfold bp;split
 ·rename_i a
  exact h.next (da a)
 ·exact h
theorem QV (s:Ps) (a:Nat) (r:Int):(mC G s a r).1=s\/(mC G s a r).1=s.ax G a 4:=by
 grind [mC]
def qd (l:List Rg):(aU l).length<=2*l.length:=(dW l).2.2
theorem AD (s:Ps) (a:Nat) (r:Int):(mC G s a r).2.1.length<=8:=by
 unfold mC
 repeat' split
 all_goals first | exact Zav (qd _) (by simp) | simp
theorem AE (h:gi G s Z) (hl:Z.i<G.length):gi G s (eh G Z).1/\Z.i<(eh G Z).1.i/\(eh G Z).2.1.length<=8:=by
 unfold eh;simp only;split
 ·exact⟨(h.next hl).ax _ _,by simp,by simp⟩
 ·split
  ·exact⟨(h.next hl).ax _ _,by simp,by simp⟩
  ·have a:=(h.next hl).next ω;refine⟨?_,?_,AD _ _ _⟩
   ·rcases QV (G:=G) Z.next.next Z.i (aK G Z.next.i) with e | e<;>rw[e]
    ·exact a
    ·exact a.ax _ _
   ·rcases QV (G:=G) Z.next.next Z.i (aK G Z.next.i) with e | e<;>rw[e]<;>simp<;>omega
theorem mE (h:gi G s Z) (hl:Z.i<G.length):gi G s (b5 G Z).1/\((b5 G Z).2.1≠[]->Z.i<(b5 G Z).1.i)/\(b5 G Z).2.1.length<=8:=by
 unfold b5;split
 ·exact⟨h.ax _ _,by simp,by simp⟩
 ·simp only;split
  ·grind [AE]
  ·split
   ·grind
   ·exact⟨h.next hl,λ_=>by simp,by simp⟩
theorem Na (h:gi G s Z) (a:List Rg) (one:Bool) (c:Nat):gi G s (j3 G a one c Z).1/\Z.i<=(j3 G a one c Z).1.i/\(j3 G a one c Z).2.length<=8:=by
 have key:gi G s (if Z.i<G.length then b5 G Z else(Z,[],false)).1/\Z.i<=(if Z.i<G.length then b5 G Z else(Z,[],false)).1.i:=by
  split
  ·rename_i hl
   refine⟨(mE h hl).1,?_⟩;exact((mE (gi.refl (s:=Z) h.len h.gm) hl).1).le
  ·grind
 unfold j3;simp only;generalize (if Z.i<G.length then b5 G Z else(Z,[],false))=b at key;have⟨k1,k2⟩:=key
 repeat' split
 all_goals first | exact⟨k1.ax _ _,by simp_all,by simp⟩ | exact⟨k1,k2,by simp⟩
theorem kt (h:gi G s Z) (hl:Z.i<G.length):gi G s (ei G Z).1/\((ei G Z).1.an=0->Z.i<(ei G Z).1.i)/\(ei G Z).2.length<=8:=by
 have⟨k1,k2,k3⟩:=mE h hl;unfold ei;simp only;split
 ·grind
 ·split
  ·exact⟨k1.ax _ _,λe=>absurd e (fj _ _ (by decide)),by simp⟩
  ·rename_i _ a
   have k4:=k2 a;split
   ·rename_i c
    have⟨b,a2,a3⟩:=Na (k1.next (da c)) (b5 G Z).2.1 (b5 G Z).2.2 Z.i;exact⟨b,λ_=>by simp at a2;omega,a3⟩
   ·grind
theorem AF (a:Nat):∀(n:Nat) (t:Ps) (l:List Rg) (b:Bool),gi G s t->gi G s (dX G a n t l b).1/\t.i<=(dX G a n t l b).1.i
 | 0,t,l,b,h=>⟨h,Zah _⟩
 | n+1,t,l,b,h=>by
  unfold dX;split
  ·split
   ·exact⟨h.ax _ _,by simp⟩
   ·have hl:t.i<G.length:=ω;have c:=(kt (gi.refl (s:=t) h.len h.gm) hl).1.le;have b:=AF a n (ei G t).1 (l++(ei G t).2) false (kt h hl).1;grind
  ·grind
theorem tu (a:Nat):∀(n:Nat) (t:Ps) (l:List Rg) (b:Bool),t.i<=G.length->t.ab<=4->(G.length+1<n+t.i\/t.an≠0/\0<n)->(dX G a n t l b).1.an≠0\/bb G (dX G a n t l b).1 93
 | 0,t,l,b,h,d,e=>by omega
 | n+1,t,l,b,h,d,e=>by
  unfold dX;split
  ·split
   ·grind [fj]
   ·have hl:t.i<G.length:=ω;have⟨c,a2,a3⟩:=kt (gi.refl (s:=t) h d) hl;refine tu a n _ _ _ c.len c.gm ?_;omega
  ·grind
theorem jE:∀(n i:Nat) (b:List UInt8),i<=(ct G n i b).1/\((ct G n i b).1<=G.length\/(ct G n i b).1=i)/\(ct G n i b).2.length+i<=b.length+(ct G n i b).1
 | 0,i,b=>⟨Zah _,.inr rfl,Zah _⟩
 | n+1,i,b=>by
  unfold ct;split
  ·have⟨h1,a,c⟩:=jE n (i+1) (if 48<aK G i\/b≠[] then b++[UInt8.ofNat (aK G i).toNat] else b);grind
  ·grind
def se (h:gi G s Z):gi G s (dv G Z)/\Z.i<=(dv G Z).i:=by
 have a:=jE (G:=G) (G.length-Z.i) Z.i [];have h1:=a.1;have b:(dv G Z).i<=G.length:=by
  rcases a.2.1 with e | e
  ·exact e
  ·show(ct G _ _ _).1<=_
   rw[e];exact h.len
 exact⟨⟨Zav h.le h1,b,h.op,h.gr,h.gm⟩,h1⟩
theorem xx (h:gi G s Z) (b:Nat) (m n:List UInt8) (ok en:Bool):gi G s (nK G b Z m n ok en).1/\Z.i<=(nK G b Z m n ok en).1.i:=by
 unfold nK;split
 ·exact⟨h.ax _ _,by simp⟩
 ·split
  ·exact⟨h.ax _ _,by simp⟩
  ·rename_i c
   have a:=h.next (da (by simpa using c));split
   ·exact⟨a.ax _ _,by simp⟩
   ·by_cases d:(eF m).2=false\/(eF (if en=true then[] else n)).2=false
    ·rw[Zac d];exact⟨a.ax _ _,by simp⟩
    ·simp_all
theorem xy (h:gi G s Z) (hl:Z.i<G.length):gi G s (gv G Z).1/\Z.i<(gv G Z).1.i:=by
 have⟨a,a2⟩:=se (h.next hl);simp only[jg] at a2;unfold gv;simp only;split
 ·rename_i b
  have⟨b1,c⟩:=se (a.next (da b.2));grind [jg,xx]
 ·grind [xx]
theorem QW (h:gi G s Z) (hl:Z.i<G.length):gi G s (sd G Z).1/\Z.i<(sd G Z).1.i/\(sd G Z).2.length<=1:=by
 have h1:=(h.next hl).skip 94;have d:Z.i<(bp G Z.next 94).i:=by unfold bp;split<;>simp<;>omega
 have⟨a,a2⟩:=AF Z.i (G.length+2-(bp G Z.next 94).i) _ ([]:List Rg) true h1;have a3:=tu (G:=G) Z.i (G.length+2-(bp G Z.next 94).i) (bp G Z.next 94) [] true h1.len h1.gm ω;unfold sd;simp only;generalize dX G Z.i (G.length+2-(bp G Z.next 94).i) (bp G Z.next 94) [] true=c at a a2 a3;split
 ·grind
 ·split
  ·grind
  ·split
   ·exact⟨a.ax _ _,by simp;omega,by simp⟩
   ·have b:bb G c.1 93:=by grind
    exact⟨a.next (da b),by simp;omega,by simp⟩
def mF (G:List Gt) (aH:Ps->Ps×List Nd):Prop:=∀s,s.i<=G.length->s.ab<=4->gi G s (aH s).1/\(aH s).2.length<=3*((aH s).1.i-s.i)+1
variable {aH:Ps->Ps×List Nd}
variable {s:Ps}
theorem GM (A:mF G aH) (hl:s.i<G.length) (u:s.ab<=4):gi G s (ig G aH s).1/\((ig G aH s).1.an=0->s.i<(ig G aH s).1.i)/\(ig G aH s).2.length<=3*((ig G aH s).1.i-s.i):=by
 have h1:=(gi.refl ω u).next hl;unfold ig;simp only;generalize c:bb G s.next 63=free;generalize o:(if free=true then s.next.next else s.next)=f;have h:gi G s f/\s.i<f.i:=by
  subst o;split
  ·rename_i t
   subst t;exact⟨h1.next (da c),by simp;omega⟩
  ·simp_all
 split
 ·exact⟨h.1.ax _ _,λe=>absurd e (fj _ _ (by decide)),by simp⟩
 ·generalize p:(if free=true then f.next else f)=s3;have b:gi G s s3/\s.i<s3.i:=by
   subst p;split
   ·have:bb G f 58:=by
     grind
    exact⟨h.1.next (da this),by simp;omega⟩
   ·exact h
  split
  ·exact⟨b.1.ax _ _,λe=>absurd e (fj _ _ (by decide)),by simp⟩
  ·split
   ·exact⟨b.1.ax _ _,λe=>absurd e (fj _ _ (by decide)),by simp⟩
   ·generalize v:(if free=true then s3 else({ s3 with ab:=s3.ab+1 }:Ps))=s4;have j:s4.i=s3.i/\s4.ak=s3.ak/\s3.ab<=s4.ab/\s4.ab<=4:=by
     have:=b.1.gm;grind
    have r:=b.1.len;have⟨b1,q⟩:=A { s4 with ak:=s4.ak+1 } (by grind) j.2.2.2;generalize aH { s4 with ak:=s4.ak+1 }=a at b1 q;simp only[j.1] at q;have g:=b1.le;simp only[j.1] at g;have k:gi G s ({ a.1 with ak:=a.1.ak-1 }:Ps):=by
     refine⟨?_,b1.len,?_,?_,b1.gm⟩
     ·have:=b.2;simp;omega
     ·have:=b1.op;have:=b.1.op;simp at*;omega
     ·have:=b1.gr;have:=b.1.gr;simp at*;omega
    split
    ·exact⟨k.ax _ _,λe=>absurd e (fj _ _ (by decide)),by simp⟩
    ·rename_i d
     have l:gi G s (if a.1.an=0 then({ a.1 with ak:=a.1.ak-1 }:Ps).next else({ a.1 with ak:=a.1.ak-1 }:Ps))/\a.1.i<=(if a.1.an=0 then({ a.1 with ak:=a.1.ak-1 }:Ps).next else({ a.1 with ak:=a.1.ak-1 }:Ps)).i/\(a.1.an=0->(if a.1.an=0 then({ a.1 with ak:=a.1.ak-1 }:Ps).next else({ a.1 with ak:=a.1.ak-1 }:Ps)).i=a.1.i+1):=by
      split
      ·rename_i n
       have m:bb G ({ a.1 with ak:=a.1.ak-1 }:Ps) 41:=by
        cases m:bb G ({ a.1 with ak:=a.1.ak-1 }:Ps) 41
        ·exact absurd ⟨n,m⟩ d
        ·rfl
       exact⟨k.next (da m),by simp,λ_=>rfl⟩
      ·rename_i n
       exact⟨k,by simp,λe=>absurd e n⟩
     have hlen:a.2.length+1<=3*((if a.1.an=0 then({ a.1 with ak:=a.1.ak-1 }:Ps).next else({ a.1 with ak:=a.1.ak-1 }:Ps)).i-s.i):=by
      have:=l.2.1;have:=b.2;omega
     split
     ·exact⟨l.1,λ_=>by grind,by grind⟩
     ·exact⟨l.1,λ_=>by grind,by simp;omega⟩
theorem AG (A:mF G aH) (hl:s.i<G.length) (a:s.ab<=4):gi G s (jb G aH s).1/\((jb G aH s).1.an=0->s.i<(jb G aH s).1.i)/\(jb G aH s).2.length<=3*((jb G aH s).1.i-s.i):=by
 have h0:=gi.refl (Zcx hl) a;have h1:=h0.next hl;have hw:gi G s (s.ax G s.i 4)/\((s.ax G s.i 4).an=0->s.i<(s.ax G s.i 4).i)/\([]:List Nd).length<=3*((s.ax G s.i 4).i-s.i):=⟨h0.ax _ _,λe=>absurd e (fj _ _ (by decide)),by simp⟩;have b:∀x:Nd,gi G s s.next/\(s.next.an=0->s.i<s.next.i)/\[x].length<=3*(s.next.i-s.i):=λx=>⟨h1,λ_=>by simp,by simp⟩
 unfold jb;grind [GM,QW,AE]
theorem Ee {t:Ps} (h:gi G s t) (mn mx:Int) (x:List Nd):gi G s (nL G t mn mx x).1/\t.i<=(nL G t mn mx x).1.i/\(nL G t mn mx x).2.length<=x.length+1:=by
 unfold nL;split
 ·grind
 ·refine⟨h.skip 63,?_,by simp⟩;unfold bp;split<;>simp
theorem xz (A:mF G aH) (hl:s.i<G.length) (d:s.ab<=4):gi G s (fv G aH s).1/\((fv G aH s).1.an=0->s.i<(fv G aH s).1.i)/\(fv G aH s).2.length<=3*((fv G aH s).1.i-s.i):=by
 have⟨b,a2,a3⟩:=AG A hl d;unfold fv;simp only;generalize jb G aH s=a at b a2 a3;split
 ·grind
 ·rename_i g
  have key:∀(r mn mx:Int),bb G a.1 r->gi G s (nL G a.1.next mn mx a.2).1/\((nL G a.1.next mn mx a.2).1.an=0->s.i<(nL G a.1.next mn mx a.2).1.i)/\(nL G a.1.next mn mx a.2).2.length<=3*((nL G a.1.next mn mx a.2).1.i-s.i):=λr mn mx c=>by
   have⟨b1,e,f⟩:=Ee (b.next (da c)) mn mx a.2;grind [jg]
  grind [xy,da,Ee]
def total (a:List (List Nd)):Nat:=a.flatten.length
theorem gy (a:List (List Nd)) (x:List Nd):total (a++[x])=total a+x.length:=by simp[total]
theorem xA (op:Int):∀a:List (List Nd),(bW op a).length<=total a+1
 | []=>by grind [bW]
 | [x]=>by simp[bW,total]
 | x::y::a=>by simp[bW,total]
theorem AH (A:mF G aH):∀(n:Nat) (t:Ps) (a:List (List Nd)),gi G s t->total a<=3*(t.i-s.i)->gi G s (eI G aH n t a).1/\total (eI G aH n t a).2<=3*((eI G aH n t a).1.i-s.i)
 | 0,t,a,h,c=>⟨h,c⟩
 | n+1,t,a,h,c=>by
  unfold eI;split
  ·rename_i d
   have⟨b,a2,a3⟩:=xz A d.2.1 h.gm;have e:=b.le;have f:=h.le;refine AH A n _ _ (h.trans b) ?_;rw[gy];omega
  ·grind
def mG (A:mF G aH) (hl:s.i<=G.length) (b:s.ab<=4):gi G s (mD G aH s).1/\(mD G aH s).2.length<=3*((mD G aH s).1.i-s.i)+1:=by
 have⟨a,a2⟩:=AH A (G.length+2-s.i) s [] (gi.refl hl b) (by simp[total]);exact⟨a,Zav (xA _ _) (by show total (eI G aH (G.length+2-s.i) s []).2+1<=_;exact ZcU a2)⟩
theorem AI (A:mF G aH):∀(n:Nat) (t:Ps) (a:List (List Nd)),gi G s t->0<a.length->total a+2*a.length<=3*(t.i-s.i)+3->gi G s (gx G aH n t a).1/\0<(gx G aH n t a).2.length/\total (gx G aH n t a).2+2*(gx G aH n t a).2.length<=3*((gx G aH n t a).1.i-s.i)+3
 | 0,t,a,h,h0,d=>⟨h,h0,d⟩
 | n+1,t,a,h,h0,d=>by
  unfold gx;split
  ·rename_i e
   have b:=h.next (da e.2);have⟨c,a2⟩:=mG A (s:=t.next) b.len b.gm;have f:=c.le;have g:=h.le;simp only[jg] at f a2;refine AI A n _ _ (b.trans c) (by simp) ?_;grind [gy]
  ·grind
theorem uz (op:Int) (a:List (List Nd)) (h:0<a.length):(bW op a).length+2<=total a+2*a.length:=by
 match a,h with
 | [x],_=>simp[bW,total]
 | x::y::a,_=>simp[bW,total];omega
theorem QX (A:mF G aH) (hl:s.i<=G.length) (d:s.ab<=4):gi G s (Ed G aH s).1/\(Ed G aH s).2.length<=3*((Ed G aH s).1.i-s.i)+1:=by
 have⟨a,a2⟩:=mG A (s:=s) hl d;unfold Ed;generalize mD G aH s=c at a a2;have⟨b1,b,e⟩:=AI A (G.length+2-c.1.i) c.1 [c.2] a (by simp) (by grind [total]);have:=uz 4 _ b;grind
theorem vW:∀n,mF G (qZ G n)
 | 0=>λs h a=>⟨gi.refl h a,by simp[qZ]⟩
 | n+1=>λs h a=>QX (vW n) h a
end
section
variable (G:List Gt)
def sf (s:Ps) (a:Nat):Ps×List Rg:=
 if G.length<=s.i then(s.ax G a 4,[])
 else if fi G s.i then(s.ax G s.i 4,[])
 else
  let r:=aK G s.i
  if r=110 then(s.next,[(10,10)])
  else if r=116 then(s.next,[(9,9)])
  else if r=114 then(s.next,[(13,13)])
  else if r=100 then(s.next,[(48,57)])
  else if r=115 then(s.next,aU [(9,10),(13,13),(32,32)])
  else if r=119 then(s.next,aU [(48,57),(65,90),(95,95),(97,122)])
  else if iw r then(s.next,[(r,r)])
  else(s.next.ax G a 4,[])
def fk (s:Ps):Ps×List Rg:=
 if fi G s.i then(s.next.ax G s.i 4,[])
 else
  let r:=aK G s.i
  if r=92 then sf G s.next s.i
  else if r=91\/r=45 then(s.next.ax G s.i 4,[])
  else(s.next,[(r,r)])
def dk (l:List Rg):Bool:=decide (l.length=1)&&decide ((l.getD 0 (0,0)).1=(l.getD 0 (0,0)).2)
def kL (s:Ps) (c:Nat) (a l:List Rg):Ps×List Rg×Bool:=
 if s.an≠0\/bb G s 45=false then(s,l++a,false)
 else
  let t:=s.next
  if G.length<=t.i\/bb G t 93\/bb G t 91\/bb G t 45=true then(t.ax G c 4,l,true)
  else
   let b:=fk G t
   if b.1.an=0/\(dk a=false\/dk b.2=false\/o7 b.2<o7 a) then(b.1.ax G c 4,l,true)
   else if b.1.an=0 then(b.1,l++[(o7 a,o7 b.2)],false)
   else(b.1,l,false)
def dI:Nat->Ps->List Rg->Bool->Ps×List Rg×Bool
 | 0,s,l,any=>(s,l,any)
 | n+1,s,l,any=>
  if s.an=0/\s.i<G.length/\bb G s 93=false then
   let m:=kL G (fk G s).1 s.i (fk G s).2 l
   if m.2.2 then(m.1,m.2.1,true) else dI n m.1 m.2.1 true
  else(s,l,any)
def zy (s:Ps) (a:Nat):Ps×List Rg:=
 let neg:=bb G s 94
 let t:=bp G s 94
 let c:=dI G (G.length+2-t.i) t [] false
 let u:=if c.1.an=0/\(c.2.2=false\/bb G c.1 93=false) then c.1.ax G a 4 else c.1
 (u.next,if neg then lH c.2.1 else aU c.2.1)
def jF (a:Nat) (s:Ps) (m n:List UInt8) (ok op:Bool):Ps×Int×Int:=
 let t:=if ok=false\/bb G s 125=false\/(op=false/\iy n m) then s.ax G a 4 else s
 let lo:=eF m
 let hi:=if op then(-1,true) else eF n
 let u:=if lo.2=false\/hi.2=false then t.next.ax G a 2 else t.next
 (u,lo.1,hi.1)
def ey (s:Ps):Ps×Int×Int:=
 let t:=dv G s.next
 let m:=gU G s.next
 let ok:=gJ G s.next
 if ok/\bb G t 44 then jF G s.i (dv G t.next) m (gU G t.next) ok (!gJ G t.next)
 else jF G s.i t m m ok false
def fe (s:Ps) (a:Nat):Ps:=
 (if s.an=0/\bb G s 41=false then s.ax G a 4 else s).next
def jh (aH:Ps->Ps×List Nd) (deep:Nat) (s:Ps) (a:Nat):Ps×List Nd:=
 let quiet:=bb G s 63
 if quiet/\bb G s.next 58=false then(s.ax G a 4,[])
 else if 20<=deep then(s.ax G a 10,[])
 else if quiet then(fe G (aH s.next.next).1 a,(aH s.next.next).2)
 else if 4<=s.ab then(s.ax G a 13,[])
 else
  let t:Ps:={ s with ab:=s.ab+1 }
  (fe G (aH t).1 a,{ nd 6 with cap:=t.ab,ae:=1 }::(aH t).2)
def ga (aH:Ps->Ps×List Nd) (deep:Nat) (s:Ps):Ps×List Nd:=
 if fi G s.i then(s.next.ax G s.i 4,[])
 else
  let r:=aK G s.i
  if r=40 then jh G aH deep s.next s.i
  else if r=91 then((zy G s.next s.i).1,[xu (zy G s.next s.i).2])
  else if r=46 then(s.next,[xu (lH [(10,10)])])
  else if r=94 then(s.next,[nd 7])
  else if r=36 then(s.next,[nd 8])
  else if r=92 then((sf G s.next s.i).1,[xu (sf G s.next s.i).2])
  else if r=42\/r=43\/r=63\/r=123\/r=125\/r=93\/r=41\/r=124 then(s.next.ax G s.i 4,[])
  else(s.next,[xu [(r,r)]])
def jG (s:Ps) (mn mx:Int) (x:List Nd):Ps×List Nd:=
 (bp G s 63,{ nd 5 with mn:=mn,mx:=mx,lz:=bb G s 63,ae:=1 }::x)
def si (aH:Ps->Ps×List Nd) (deep:Nat) (s:Ps):Ps×List Nd:=
 let a:=ga G aH deep s
 if a.1.an≠0\/G.length<=a.1.i then a
 else if bb G a.1 42 then jG G a.1.next 0 (-1) a.2
 else if bb G a.1 43 then jG G a.1.next 1 (-1) a.2
 else if bb G a.1 63 then jG G a.1.next 0 1 a.2
 else if bb G a.1 123 then jG G (ey G a.1).1 (ey G a.1).2.1 (ey G a.1).2.2 a.2
 else a
def ej (aH:Ps->Ps×List Nd) (deep:Nat):Nat->Ps->List (List Nd)->Ps×List (List Nd)
 | 0,s,a=>(s,a)
 | n+1,s,a=>
  if s.an=0/\s.i<G.length/\bb G s 124=false/\bb G s 41=false then ej aH deep n (si G aH deep s).1 (a++[(si G aH deep s).2])
  else(s,a)
def oG (aH:Ps->Ps×List Nd) (deep:Nat) (s:Ps):Ps×List Nd:=
 let c:=ej G aH deep (G.length+2-s.i) s []
 (c.1,bW 3 c.2)
def dP (aH:Ps->Ps×List Nd) (deep:Nat):Nat->Ps->List (List Nd)->Ps×List (List Nd)
 | 0,s,a=>(s,a)
 | n+1,s,a=>
  if s.an=0/\bb G s 124=true then dP aH deep n (oG G aH deep s.next).1 (a++[(oG G aH deep s.next).2])
  else(s,a)
def uA (aH:Ps->Ps×List Nd) (deep:Nat) (s:Ps):Ps×List Nd:=
 let c:=oG G aH deep s
 let d:=dP G aH deep (G.length+2-c.1.i) c.1 [c.2]
 (d.1,bW 4 d.2)
def Cj:Nat->Nat->Ps->Ps×List Nd
 | 0,_,s=>(s,[])
 | n+1,deep,s=>uA G (Cj n (deep+1)) deep s
def GN:List Nd×Int×Int:=
 let a:=Cj G 21 0 Pe
 let s:=if a.1.an=0/\a.1.i<G.length then a.1.ax G a.1.i 4 else a.1
 if s.an≠0 then([],s.an,s.wh) else(a.2,0,0)
end
section
variable {G:List Gt}
structure Fx (G:List Gt):Prop where
 one:∀i,i<G.length->ew (aK G i)=[(aK G i,aK G i)]
 n:ew 10=[(10,10)]
 t:ew 9=[(9,9)]
 r:ew 13=[(13,13)]
 d:aU [(48,57)]=[(48,57)]
 s:dk (aU [(9,10),(13,13),(32,32)])=false
 w:dk (aU [(48,57),(65,90),(95,95),(97,122)])=false
 s0:aU [(9,10),(13,13),(32,32)]≠[]
 w0:aU [(48,57),(65,90),(95,95),(97,122)]≠[]
 not:∀l,lH (aU l)=lH l
structure At (G:List Gt) (deep:Nat) (s t:Ps):Prop where
 e:s.an=0
 e2:t.an=0
 i:t.i=s.i
 g:t.ab=s.ab
 o:s.ak=deep
 le:s.i<=G.length
variable {s:Ps} {e:Int}
def Rel {α:Type} (G:List Gt) (deep:Nat) (a b:Ps×α):Prop:=(At G deep a.1 b.1/\b.2=a.2)\/(a.1.an≠0/\b.1.an=a.1.an/\b.1.wh=a.1.wh)
theorem bQ (h:s.an=0) (k:Nat) (e:Int):s.ax G k e={ s with an:=e,wh:=aI G k }:=by grind [Ps.ax]
theorem fS {α:Type} {deep k:Nat} {t:Ps} {x y:α} (hs:s.an=0) (ht:t.an=0) (a:e≠0):Rel G deep (s.ax G k e,x) (t.ax G k e,y):=by
 right;grind [bQ]
theorem fB {t:Ps} (h:t.i=s.i) (r:Int):bb G t r=bb G s r:=by grind [bb]
theorem gK (h:bb G s e):s.i<G.length:=by
 grind [bb]
theorem qe (h:s.i<G.length):bb G s e=(aK G s.i==e):=by
 grind [bb,aK]
variable {deep:Nat} {s t:Ps}
variable {x:Ps}
theorem At.next (h:At G deep s t) (hl:s.i<G.length):At G deep s.next t.next:=⟨h.e,h.e2,by show t.i+1=s.i+1;rw[h.i],h.g,h.o,hl⟩
def At.skip (h:At G deep s t) (r:Int):At G deep (bp G s r) (bp G t r):=by
 unfold bp;rw[fB h.i];split
 ·rename_i a;exact h.next (gK a)
 ·exact h
def kM (r:Int):dk [(r,r)]:=by simp[dk]
theorem Ef (F:Fx G) (h:At G deep s t) (hl:s.i<G.length):Rel G deep ((eh G s).1,(eh G s).2.1) (sf G t.next s.i)/\((eh G s).1.an=0->(eh G s).2.2=dk (eh G s).2.1/\(eh G s).2.1≠[]):=by
 have c:=h.next hl;unfold eh sf;rw[c.i];by_cases h1:G.length<=s.next.i
 ·rw[Zac h1,Zac h1];exact⟨fS c.e c.e2 (by decide),λb=>by rw[bQ c.e] at b;cases b⟩
 ·rw[Zaa h1,Zaa h1];by_cases f:fi G s.next.i
  ·rw[Zac f,Zac f];exact⟨fS c.e c.e2 (by decide),λb=>by rw[bQ c.e] at b;cases b⟩
  ·rw[Zaa f,Zaa f];have g:=F.one s.next.i ω;have a:=c.next ω;generalize aK G s.next.i=r at g;unfold mC;by_cases c1:r=110
   ·rw[Zac c1,Zac c1,F.n];exact⟨.inl ⟨a,rfl⟩,λ_=>⟨(kM _).symm,by simp⟩⟩
   rw[Zaa c1,Zaa c1];by_cases c2:r=116
   ·rw[Zac c2,Zac c2,F.t];exact⟨.inl ⟨a,rfl⟩,λ_=>⟨(kM _).symm,by simp⟩⟩
   rw[Zaa c2,Zaa c2];by_cases c3:r=114
   ·rw[Zac c3,Zac c3,F.r];exact⟨.inl ⟨a,rfl⟩,λ_=>⟨(kM _).symm,by simp⟩⟩
   rw[Zaa c3,Zaa c3];by_cases c4:r=100
   ·rw[Zac c4,Zac c4,F.d];exact⟨.inl ⟨a,rfl⟩,λ_=>⟨by rfl,by simp⟩⟩
   rw[Zaa c4,Zaa c4];by_cases c5:r=115
   ·rw[Zac c5,Zac c5];exact⟨.inl ⟨a,rfl⟩,λ_=>⟨F.s.symm,F.s0⟩⟩
   rw[Zaa c5,Zaa c5];by_cases c6:r=119
   ·rw[Zac c6,Zac c6];exact⟨.inl ⟨a,rfl⟩,λ_=>⟨F.w.symm,F.w0⟩⟩
   rw[Zaa c6,Zaa c6];by_cases c7:iw r
   ·rw[Zac c7,Zac c7,g];exact⟨.inl ⟨a,rfl⟩,λ_=>⟨(kM _).symm,by simp⟩⟩
   ·rw[Zaa c7,Zaa c7];exact⟨fS a.e a.e2 (by decide),λb=>by rw[bQ a.e] at b;cases b⟩
theorem Eg (F:Fx G) (h:At G deep s t) (hl:s.i<G.length) (a:bb G s 93=false):
  (Rel G deep ((b5 G s).1,(b5 G s).2.1) (fk G t)/\((b5 G s).1.an=0->(b5 G s).2.2=dk (b5 G s).2.1/\(b5 G s).2.1≠[]))\/
   (b5 G s=(s,[],false)/\fi G s.i=false/\(aK G s.i=91\/aK G s.i=45)/\fk G t=(t.next.ax G s.i 4,[])):=by
 have d:=h.next hl;rw[qe hl] at a;unfold b5 fk;rw[h.i];by_cases b:fi G s.i
 ·rw[Zac b,Zac b];exact .inl ⟨fS h.e d.e2 (by decide),λc=>by rw[bQ h.e] at c;cases c⟩
 ·rw[Zaa b,Zaa b];generalize aK G s.i=r at a;by_cases c1:r=92
  ·grind [Ef]
  ·rw[Zaa c1,Zaa c1];by_cases c2:r=91\/r=45
   ·grind
   ·have c3:¬r=93:=by grind
    rw[Zaa ω,Zaa c2];exact .inl ⟨.inl ⟨d,rfl⟩,λ_=>⟨(kM _).symm,by simp⟩⟩
theorem Qd7 {i:Nat} (hl:i<G.length) (h:aK G i≠65533):fi G i=false:=by
 grind [fi,aK]
theorem gL (hl:x.i<G.length) (h:aK G x.i=91\/aK G x.i=93\/aK G x.i=45):b5 G x=(x,[],false):=by
 grind [b5,Qd7]
theorem AJ (a:List Rg) (one:Bool) (b:Nat) (c:x.an=0) (h:G.length<=x.i\/(x.i<G.length/\(aK G x.i=91\/aK G x.i=93\/aK G x.i=45))):j3 G a one b x=(x.ax G b 4,[]):=by
 grind [gL,j3,bQ]
def QnD (G:List Gt) (deep:Nat) (l:List Rg) (a:Ps×List Rg) (m:Ps×List Rg×Bool):Prop:=(At G deep a.1 m.1/\m.2=(l++a.2,false))\/(a.1.an≠0/\m.1.an=a.1.an/\m.1.wh=a.1.wh)
theorem QY {b:Nat} {a l:List Rg} (h:x.an≠0):kL G x b a l=(x,l++a,false):=by
 grind [kL]
theorem QZ (F:Fx G) (h:At G deep s t) (hl:s.i<G.length) (C:bb G s 93=false) (l:List Rg):QnD G deep l (ei G s) (kL G (fk G t).1 t.i (fk G t).2 l):=by
 rcases Eg F h hl C with⟨w,H⟩ | ⟨w,R,S,hi⟩
 ·unfold ei;generalize b5 G s=a at w H ⊢;have⟨j,a2,a3⟩:=a;generalize fk G t=b at w ⊢;have⟨b1,y⟩:=b;simp only at w H ⊢;rcases w with⟨p,v⟩ | ⟨v,x,d⟩
  ·simp only at p v;subst v;have⟨hs,E⟩:=H p.e;rw[Zaa (by rw[p.e];simp),Zaa E];by_cases m:bb G j 45
   ·rw[Zac m];have q:=p.next (gK m);unfold kL;rw[Zaa (by rw[fB p.i,m,p.e2];simp)];simp only;have o:=q.i;rw[fB o,fB o,fB o,o,h.i];by_cases c1:G.length<=j.next.i
    ·rw[Zac (.inl c1),AJ y a3 s.i q.e (.inl c1),bQ q.e,bQ q.e2];exact .inr ⟨by simp,rfl,rfl⟩
    ·by_cases c2:bb G j.next 93\/bb G j.next 91\/bb G j.next 45
     ·rw[Zac (.inr c2)];have I:aK G j.next.i=91\/aK G j.next.i=93\/aK G j.next.i=45:=by
       grind [qe]
      rw[AJ y a3 s.i q.e (.inr ⟨ω,I⟩),bQ q.e,bQ q.e2];exact .inr ⟨by simp,rfl,rfl⟩
     ·rw[Zaa (by grind)];have z:bb G j.next 93=false:=by
       grind
      rcases Eg F q ω z with⟨n,u⟩ | ⟨n,L,O,M⟩
      ·unfold j3;rw[Zac (show j.next.i<G.length by omega)];generalize b5 G j.next=c at n u ⊢;have⟨A,P,Q⟩:=c;generalize fk G b1.next=f at n ⊢;have⟨B,K⟩:=f;simp only at n u ⊢;rcases n with⟨g,d⟩ | ⟨d,r,D⟩
       ·subst d;have⟨J,_⟩:=u g.e;subst hs J;by_cases c3:dk y=false\/dk K=false\/o7 K<o7 y
        ·rw[Zac (⟨g.e,c3⟩:A.an=0/\_),Zac (⟨g.e2,c3⟩:B.an=0/\_),bQ g.e,bQ g.e2];exact .inr ⟨by simp,rfl,rfl⟩
        ·rw[Zaa (λk=>c3 k.2:¬(A.an=0/\_)),Zaa (λk=>c3 k.2:¬(B.an=0/\_)),Zac g.e,Zac g.e2];exact .inl ⟨g,rfl⟩
       ·rw[Zaa (λk=>d k.1:¬(A.an=0/\_)),Zaa d,Zaa (λk=>d (r▸k.1):¬(B.an=0/\_)),Zaa (λk=>d (r▸k))];exact .inr ⟨d,r,D⟩
      ·grind [qe]
   ·rw[Zaa m];unfold kL;rw[Zac (.inr (by rw[fB p.i];simpa using m))];exact .inl ⟨p,rfl⟩
  ·simp only at v x d;rw[Zac v,QY ω];exact .inr ⟨v,x,d⟩
 ·unfold ei;rw[w,hi];have N:=h.next hl;rw[Zaa (by rw[h.e];simp),bQ h.e,bQ N.e2];exact .inr ⟨by simp,rfl,rfl⟩
def Qg6 (G:List Gt) (deep c:Nat) (a:Ps×List Rg×Bool×Bool) (b:Ps×List Rg×Bool):Prop:=
 (At G deep a.1 b.1/\b.2.1=a.2.1/\b.2.2=!a.2.2.1/\a.2.2.2=false/\bb G a.1 93)\/
  (a.1.an≠0/\b.1.an=a.1.an/\b.1.wh=a.1.wh)\/(a.1.an=4/\a.1.wh=aI G c/\b.1.an=0/\bb G b.1 93=false)
theorem AK (F:Fx G) (c:Nat):∀(n:Nat) (s t:Ps) (l:List Rg) (none_:Bool),At G deep s t->s.ab<=4->G.length+2<=n+s.i->Qg6 G deep c (dX G c n s l none_) (dI G n t l (!none_))
 | 0,s,t,l,none_,h,r,w=>by have:=h.le;omega
 | n+1,s,t,l,none_,h,r,w=>by
  unfold dX dI;by_cases b:bb G s 93=false
  ·rw[Zac ⟨h.e,b⟩];by_cases hl:G.length<=s.i
   ·rw[Zac hl,Zaa (by rw[h.i];omega),bQ h.e];exact .inr (.inr ⟨rfl,rfl,h.e2,(fB h.i 93).trans b⟩)
   ·rw[Zaa hl,Zac ⟨h.e2,by rw[h.i];omega,by rw[fB h.i];exact b⟩];have hi:=QZ F h ω b l;have f:=(kt (gi.refl (G:=G) h.le r) ω).2.1;have p:=(kt (gi.refl (G:=G) h.le r) ω).1.gm;generalize ei G s=a at hi f p ⊢;generalize kL G (fk G t).1 t.i (fk G t).2 l=m at hi ⊢;have⟨m1,m2,m3⟩:=m;have⟨q,a2⟩:=a;rcases hi with⟨u,g⟩ | ⟨g,d,j⟩
    ·obtain⟨rfl,rfl⟩:=g;exact AK F c n q m1 _ false u p (by have:=f u.e;simp only at this;omega)
    ·simp only at g d j ⊢;have v:dX G c n q (l++a2) false=(q,l++a2,false,false):=by
      cases n with
      | zero=>rfl
      | succ n=>rw[dX,Zaa (λk=>g k.1)]
     rw[v];cases m3
     ·have e2:dI G n m1 m2 true=(m1,m2,true):=by
       cases n with
       | zero=>rfl
       | succ n=>rw[dI,Zaa (λk=>g (d▸k.1))]
      rw[e2];exact .inr (.inl ⟨g,d,j⟩)
     ·exact .inr (.inl ⟨g,d,j⟩)
  ·have o:bb G s 93:=by grind
   rw[Zaa (λk=>b k.2),Zaa (λk=>b ((fB h.i 93)▸k.2.2))];exact .inl ⟨h,rfl,rfl,rfl,o⟩
theorem Ym (F:Fx G) (h:At G deep s t) (w:s.ab<=4) (hl:s.i<G.length):Rel G deep (sd G s) ((zy G t.next s.i).1,[xu (zy G t.next s.i).2]):=by
 have r:=h.next hl;have hk:=r.skip 94;have l:(bp G s.next 94).ab<=4:=by unfold bp;split<;>exact w
 have n:Qg6 G deep s.i (dX G s.i (G.length+2-(bp G s.next 94).i) (bp G s.next 94) [] true) (dI G (G.length+2-(bp G s.next 94).i) (bp G t.next 94) [] false):=AK F s.i (G.length+2-(bp G s.next 94).i) _ _ [] true hk l ω;have j:=tu (G:=G) s.i (G.length+2-(bp G s.next 94).i) (bp G s.next 94) [] true hk.le l (.inl ω);unfold sd zy;simp only;rw[fB r.i,hk.i];generalize dX G s.i (G.length+2-(bp G s.next 94).i) (bp G s.next 94) [] true=a at n j ⊢;generalize dI G (G.length+2-(bp G s.next 94).i) (bp G t.next 94) [] false=b at n ⊢;have⟨c,a2,a3,a4⟩:=a;have⟨b1,x,q⟩:=b;rcases n with⟨g,q1,u,v,f⟩ | ⟨m,d,o⟩ | ⟨m,hw,d,f⟩
 ·simp only at q1 u v;subst q1 u v;simp only[ZaE,Za0];rw[Zaa (by rw[g.e];simp)];cases a3
  ·have hu:(if b1.an=0/\((!false)=false\/bb G b1 93=false) then b1.ax G s.i 4 else b1)=b1:=Zaa (by rw[fB g.i,f];simp);rw[hu];refine .inl ⟨g.next (gK f),?_⟩;simp only[F.not];rfl
  ·have hu:(if b1.an=0/\((!true)=false\/bb G b1 93=false) then b1.ax G s.i 4 else b1)=b1.ax G s.i 4:=Zac ⟨g.e2,.inl rfl⟩;rw[hu,bQ g.e,bQ g.e2];exact .inr ⟨by simp,rfl,rfl⟩
 ·have hu:(if b1.an=0/\(q=false\/bb G b1 93=false) then b1.ax G s.i 4 else b1)=b1:=Zaa (λk=>m (d▸k.1));rw[hu];have p:(if a4=true then(c,([]:List Nd)) else if c.an≠0 then(c,[]) else if a3=true then(c.ax G s.i 4,[]) else(c.next,[xu (if bb G s.next 94=true then lH (aU a2) else aU a2)]))=(c,[]):=by
   grind
  rw[p];exact .inr ⟨m,d,o⟩
 ·have hu:(if b1.an=0/\(q=false\/bb G b1 93=false) then b1.ax G s.i 4 else b1)=b1.ax G s.i 4:=Zac ⟨d,.inr f⟩;have p:(if a4=true then(c,([]:List Nd)) else if c.an≠0 then(c,[]) else if a3=true then(c.ax G s.i 4,[]) else(c.next,[xu (if bb G s.next 94=true then lH (aU a2) else aU a2)]))=(c,[]):=by
   grind
  rw[hu,bQ d,p];exact .inr ⟨by grind,m.symm,hw.symm⟩
def Yn (G:List Gt) (deep:Nat) (a b:Ps×Int×Int):Prop:=(At G deep a.1 b.1/\b.2=a.2)\/(a.1.an≠0/\b.1.an=a.1.an/\b.1.wh=a.1.wh)
theorem xB (h:At G deep s t) (b:Nat) (m n:List UInt8) (ok en:Bool) (k:en->n=[]):Yn G deep (nK G b s m n ok en) (jF G b t m n ok en):=by
 have key:∀(u:Ps) (c:Prop) [Decidable c] (z:Int×Int) (a:Ps×Int×Int),a.1.an≠0->u.an=a.1.an->u.wh=a.1.wh->Yn G deep a ((if c then u.next.ax G b 2 else u.next),z):=by
  intro u c _ z a h1 g j;refine .inr ⟨h1,?_⟩;split
  ·have e:u.next.ax G b 2=u.next:=by unfold Ps.ax;rw[Zaa (by simp_all)]
   rw[e];exact⟨g,j⟩
  ·exact⟨g,j⟩
 have f:∀(x:Ps),x.an=0->(x.ax G b 4).an≠0:=λx l=>by grind [bQ]
 have e2:∀(x y:Ps),x.an=0->y.an=0->(y.ax G b 4).an=(x.ax G b 4).an/\(y.ax G b 4).wh=(x.ax G b 4).wh:=λx y l p=>by grind [bQ]
 unfold nK jF;rw[fB h.i];by_cases c1:ok=false
 ·rw[Zac c1];have ht:(if ok=false\/bb G s 125=false\/en=false/\iy n m=true then t.ax G b 4 else t)=t.ax G b 4:=Zac (.inl c1);rw[ht];exact key _ _ _ _ (f s h.e) (e2 s t h.e h.e2).1 (e2 s t h.e h.e2).2
 rw[Zaa c1];by_cases c2:bb G s 125=false
 ·rw[Zac c2];have ht:(if ok=false\/bb G s 125=false\/en=false/\iy n m=true then t.ax G b 4 else t)=t.ax G b 4:=Zac (.inr (.inl c2));rw[ht];exact key _ _ _ _ (f s h.e) (e2 s t h.e h.e2).1 (e2 s t h.e h.e2).2
 rw[Zaa c2];have d:=h.next (gK (by simpa using c2));by_cases c3:en=false/\iy n m
 ·rw[Zac c3];have ht:(if ok=false\/bb G s 125=false\/en=false/\iy n m=true then t.ax G b 4 else t)=t.ax G b 4:=Zac (.inr (.inr c3));rw[ht];exact key _ _ _ _ (f s.next d.e) (e2 s.next t d.e h.e2).1 (e2 s.next t d.e h.e2).2
 have ht:(if ok=false\/bb G s 125=false\/en=false/\iy n m=true then t.ax G b 4 else t)=t:=Zaa (by grind);rw[Zaa c3,ht];have o:eF []=(0,true):=by decide
 cases en
 ·simp only[ZaE,Za0];by_cases c4:(eF m).2=false\/(eF n).2=false
  ·rw[Zac c4,Zac c4,bQ d.e,bQ d.e2];exact .inr ⟨by simp,rfl,rfl⟩
  ·rw[Zaa c4,Zaa c4];exact .inl ⟨d,rfl⟩
 ·simp only[Zbv];by_cases c4:(eF m).2=false
  ·rw[Zac (.inl c4),Zac (.inl c4),bQ d.e,bQ d.e2];exact .inr ⟨by simp,rfl,rfl⟩
  ·rw[Zaa (by grind),Zaa (by grind)];exact .inl ⟨d,rfl⟩
theorem GO (h:t.i=s.i):gU G t=gU G s/\gJ G t=gJ G s/\(dv G t).i=(dv G s).i:=by
 grind [gU,gJ,dv]
def At.Qg7 (h:At G deep s t):At G deep (dv G s) (dv G t):=by
 have hle:=jE (G:=G) (G.length-s.i) s.i [];have:=h.le;refine⟨h.e,h.e2,(GO h.i).2.2,h.g,h.o,?_⟩;show(ct G (G.length-s.i) s.i []).1<=_
 omega
theorem GP:∀(n i:Nat) (b:List UInt8),(ct G n i b).1=i->(ct G n i b).2=b
 | 0,i,b,h=>rfl
 | n+1,i,b,h=>by
  grind [ct,jE]
theorem Nb (h:gJ G x=false):gU G x=[]:=by
 grind [gJ,gU,GP,jE]
theorem Nc (h:At G deep s t) (hl:s.i<G.length):Yn G deep (gv G s) (ey G t):=by
 have d:=h.next hl;have⟨e,f,l⟩:=GO (G:=G) d.i;have b:=d.Qg7;unfold gv ey;simp only;rw[e,f,fB b.i,h.i];by_cases a:gJ G s.next/\bb G (dv G s.next) 44
 ·rw[Zac a,Zac a];have c:=b.next (gK a.2);have⟨g,j,m⟩:=GO (G:=G) c.i;rw[g,j];exact xB c.Qg7 _ _ _ _ _ λk=>Nb (by grind)
 ·grind [xB]
variable {aH mH:Ps->Ps×List Nd}
variable {x:Ps} {Z:Nat} {a:List (List Nd)} {b:List Nd}
def GQ (G:List Gt) (deep:Nat) (aH a:Ps->Ps×List Nd):Prop:=∀s t,At G deep s t->s.ab<=4->Rel G deep (aH s) (a t)
def xC (d:Nat) {a b:Ps×List Nd} (c:Nat) (h:Rel G (d+1) a b):
  let f:Ps:={ a.1 with ak:=a.1.ak-1 }
  (f.an=0/\bb G f 41=false->(f.ax G c 4).an≠0/\(fe G b.1 c).an=(f.ax G c 4).an/\(fe G b.1 c).wh=(f.ax G c 4).wh)/\
   (¬(f.an=0/\bb G f 41=false)->(At G d f.next (fe G b.1 c)/\f.an=0/\b.2=a.2)\/(f.an≠0/\(fe G b.1 c).an=f.an/\(fe G b.1 c).wh=f.wh)):=by
 unfold fe;rcases h with⟨h,s⟩ | ⟨p,n,q⟩
 ·have j:At G d { a.1 with ak:=a.1.ak-1 } b.1:=⟨h.e,h.e2,h.i,h.g,by show a.1.ak-1=d;rw[h.o];omega,h.le⟩;refine⟨λm=>?_,λm=>?_⟩
  ·rw[Zac ⟨h.e2,(fB j.i 41).trans m.2⟩,bQ j.e,bQ h.e2];exact⟨by simp,rfl,rfl⟩
  ·have l:bb G { a.1 with ak:=a.1.ak-1 } 41:=by
    cases r:bb G { a.1 with ak:=a.1.ak-1 } 41
    ·exact absurd ⟨j.e,r⟩ m
    ·rfl
   rw[Zaa (by rw[(fB j.i 41).trans l];simp)];exact .inl ⟨j.next (gK l),j.e,s⟩
 ·refine⟨λm=>absurd m.1 p,λ_=>?_⟩;rw[Zaa (λk=>p (n▸k.1))];exact .inr ⟨p,n,q⟩
theorem Nf (A:GQ G (deep+1) aH mH) (h:At G deep s t) (n:s.ab<=4) (hl:s.i<G.length):Rel G deep (ig G aH s) (jh G mH deep t.next s.i):=by
 have a:=h.next hl;unfold ig jh;rw[fB a.i];cases l:bb G s.next 63
 ·simp only[ZaE,Za0,false_and];by_cases c1:20<=s.next.ak
  ·rw[Zac c1,Zac (by have:=a.o;omega)];exact fS a.e a.e2 (by decide)
  rw[Zaa c1,Zaa (show ¬20<=deep by have:=a.o;omega)];by_cases c2:4<=s.next.ab
  ·rw[Zac (⟨trivial,c2⟩),Zac (by rw[a.g];exact c2)];exact fS a.e a.e2 (by decide)
  rw[Zaa (λk=>c2 k.2),Zaa (show ¬4<=t.next.ab by rw[a.g];exact c2)];have p:((t.next.ab+1:Nat):Int)=((s.next.ab+1:Nat):Int):=by rw[a.g]
  have⟨k1,k2⟩:=xC deep s.i (A { { s.next with ab:=s.next.ab+1 } with ak:=s.next.ak+1 } { t.next with ab:=t.next.ab+1 } ⟨a.e,a.e2,a.i,by show t.next.ab+1=s.next.ab+1;rw[a.g],by show s.next.ak+1=deep+1;rw[a.o],a.le⟩ (by grind));split
  ·rename_i f
   have⟨q1,b,c⟩:=k1 f;exact .inr ⟨q1,b,c⟩
  ·rename_i f
   rcases k2 f with⟨q1,b,c⟩ | ⟨q1,b,c⟩
   ·rw[Zac b];refine .inl ⟨q1,?_⟩;grind
   ·rw[Zaa q1];exact .inr ⟨q1,b,c⟩
 ·simp only[Zbv,Zal];have m:=a.next (gK l);rw[fB m.i];by_cases c0:bb G s.next.next 58=false
  ·rw[Zac c0,Zac c0];exact fS m.e a.e2 (by decide)
  rw[Zaa c0,Zaa c0];have j:bb G s.next.next 58:=by grind
  have d:=m.next (gK j);by_cases c1:20<=s.next.next.next.ak
  ·rw[Zac c1,Zac (by have:=d.o;omega)];exact fS d.e a.e2 (by decide)
  rw[Zaa c1,Zaa (show ¬20<=deep by have:=d.o;omega),Zaa (by simp)];have⟨k1,k2⟩:=xC deep s.i (A { s.next.next.next with ak:=s.next.next.next.ak+1 } t.next.next.next ⟨d.e,d.e2,d.i,d.g,by show s.next.next.next.ak+1=deep+1;rw[d.o],d.le⟩ n);split
  ·rename_i f
   have⟨q1,b,c⟩:=k1 f;exact .inr ⟨q1,b,c⟩
  ·rename_i f
   rcases k2 f with⟨q1,b,c⟩ | ⟨q1,b,c⟩
   ·rw[Zac b];exact .inl ⟨q1,c⟩
   ·rw[Zaa q1];exact .inr ⟨q1,b,c⟩
theorem Q0 (F:Fx G) (A:GQ G (deep+1) aH mH) (h:At G deep s t) (k:s.ab<=4) (hl:s.i<G.length):Rel G deep (jb G aH s) (ga G mH deep t):=by
 have a:=h.next hl;have g:=F.one s.i hl;unfold jb ga;rw[h.i];by_cases b:fi G s.i
 ·rw[Zac b,Zac b];exact fS h.e a.e2 (by decide)
 rw[Zaa b,Zaa b];generalize aK G s.i=r at g ⊢;by_cases c1:r=40
 ·grind [Nf]
 rw[Zaa c1,Zaa c1];by_cases c2:r=91
 ·grind [Ym]
 rw[Zaa c2,Zaa c2];by_cases c3:r=46
 ·subst c3;exact .inl ⟨a,rfl⟩
 rw[Zaa c3,Zaa c3];by_cases c4:r=94
 ·subst c4;exact .inl ⟨a,rfl⟩
 rw[Zaa c4,Zaa c4];by_cases c5:r=36
 ·subst c5;exact .inl ⟨a,rfl⟩
 rw[Zaa c5,Zaa c5];by_cases c6:r=92
 ·rw[Zac c6,Zac c6];have⟨hs,_⟩:=Ef F h hl;rcases hs with⟨j,f⟩ | ⟨f,c,d⟩
  ·refine .inl ⟨j,?_⟩;grind
  ·exact .inr ⟨f,c,d⟩
 rw[Zaa c6,Zaa c6];by_cases c7:r=42\/r=43\/r=63\/r=41\/r=93\/r=123\/r=125\/r=124
 ·rw[Zac c7,Zac ω];exact fS h.e a.e2 (by decide)
 ·rw[Zaa c7,Zaa ω,g];exact .inl ⟨a,rfl⟩
theorem sj {a b:Ps×Int×Int} (h:Yn G deep a b) (x:List Nd):Rel G deep (nL G a.1 a.2.1 a.2.2 x) (jG G b.1 b.2.1 b.2.2 x):=by
 unfold nL jG;rcases h with⟨h,g⟩ | ⟨f,c,d⟩
 ·rw[Zaa (by rw[h.e];simp),g,fB h.i];exact .inl ⟨h.skip 63,rfl⟩
 ·rw[Zac f];refine .inr ⟨f,?_⟩;unfold bp;split<;>exact⟨c,d⟩
theorem Yo (F:Fx G) (A:GQ G (deep+1) aH mH) (h:At G deep s t) (p:s.ab<=4) (hl:s.i<G.length):Rel G deep (fv G aH s) (si G mH deep t):=by
 have l:=Q0 F A h p hl;unfold fv si;generalize jb G aH s=a at l ⊢;generalize ga G mH deep t=b at l ⊢;have⟨d,a2⟩:=a;have⟨b1,j⟩:=b;rcases l with⟨c,f⟩ | ⟨f,m,n⟩
 ·simp only at c f ⊢;subst f;rw[Zaa (by rw[c.e];simp)];by_cases hle:G.length<=b1.i
  ·rw[Zac (show b1.an≠0\/G.length<=b1.i from .inr hle)];have g:∀r,bb G d r=false:=λr=>by
    cases q:bb G d r
    ·rfl
    ·have:=gK q;have:=c.i;omega
   rw[g,g,g,g];exact .inl ⟨c,rfl⟩
  ·rw[Zaa (show ¬(b1.an≠0\/G.length<=b1.i) by rw[c.e2];simp;omega)];have o:d.i<G.length:=by have:=c.i;omega
   have k:=c.next o;rw[fB c.i,fB c.i,fB c.i,fB c.i];by_cases c1:bb G d 42
   ·rw[Zac c1,Zac c1];exact sj (a:=(d.next,0,-1)) (b:=(b1.next,0,-1)) (.inl ⟨k,rfl⟩) j
   rw[Zaa c1,Zaa c1];by_cases c2:bb G d 43
   ·rw[Zac c2,Zac c2];exact sj (a:=(d.next,1,-1)) (b:=(b1.next,1,-1)) (.inl ⟨k,rfl⟩) j
   rw[Zaa c2,Zaa c2];by_cases c3:bb G d 63
   ·rw[Zac c3,Zac c3];exact sj (a:=(d.next,0,1)) (b:=(b1.next,0,1)) (.inl ⟨k,rfl⟩) j
   rw[Zaa c3,Zaa c3];by_cases c4:bb G d 123
   ·grind [sj,Nc]
   rw[Zaa c4,Zaa c4];exact .inl ⟨c,rfl⟩
 ·rw[Zac f,Zac (.inl ω)];exact .inr ⟨f,m,n⟩
def GR {α:Type} (G:List Gt) (deep:Nat) (a b:Ps×α):Prop:=Rel G deep a b\/(deep=0/\a.1.an=4/\a.1.wh=aI G b.1.i/\b.1.an=0/\bb G b.1 41)
theorem AL (h:x.an≠0):eI G aH Z x a=(x,a):=by
 cases Z with
 | zero=>rfl
 | succ Z=>rw[eI,Zaa (λk=>h k.1)]
theorem GU (h:x.an≠0):ej G mH deep Z x a=(x,a):=by
 cases Z with
 | zero=>rfl
 | succ Z=>rw[ej,Zaa (λk=>h k.1)]
theorem qf (h:x.an≠0):gx G aH Z x a=(x,a):=by
 cases Z with
 | zero=>rfl
 | succ Z=>rw[gx,Zaa (λk=>h k.1)]
theorem lU (h:x.an≠0\/bb G x 124=false):dP G mH deep Z x a=(x,a):=by
 cases Z with
 | zero=>rfl
 | succ Z=>rw[dP,Zaa (by grind)]
theorem AM (F:Fx G) (A:GQ G (deep+1) aH mH) (O:mF G aH):∀(n:Nat) (s t:Ps) (f:List (List Nd)),At G deep s t->s.ab<=4->GR G deep (eI G aH n s f) (ej G mH deep n t f)
 | 0,s,t,f,h,m=>.inl (.inl ⟨h,rfl⟩)
 | n+1,s,t,f,h,m=>by
  unfold eI ej;rw[fB h.i,fB h.i,h.i];by_cases c1:s.i<G.length/\bb G s 124=false
  ·by_cases c2:bb G s 41
   ·rw[Zaa (λk:t.an=0/\_=>by grind)];by_cases c3:0<s.ak
    ·rw[Zaa (λk=>k.2.2.2 ⟨c2,c3⟩)];exact .inl (.inl ⟨h,rfl⟩)
    ·rw[Zac ⟨h.e,c1.1,c1.2,λk=>c3 k.2⟩];have u:aK G s.i=41:=by grind [qe]
     have r:jb G aH s=(s.ax G s.i 4,[]):=by
      grind [jb]
     have er:fv G aH s=(s.ax G s.i 4,[]):=by
      unfold fv;simp only[r];rw[Zac (by rw[bQ h.e];simp)]
     rw[er];rw[AL (by rw[bQ h.e];simp)];refine .inr ⟨by have:=h.o;omega,by rw[bQ h.e],by rw[bQ h.e];show _=aI G t.i;rw[h.i],h.e2,(fB h.i 41).trans c2⟩
   ·have g:bb G s 41=false:=by grind
    rw[Zac ⟨h.e,c1.1,c1.2,λk=>c2 k.1⟩,Zac ⟨h.e2,c1.1,c1.2,g⟩];have p:=Yo F A h m c1.1;have c:=(xz O c1.1 m).1.gm;generalize fv G aH s=a at p c ⊢;generalize si G mH deep t=b at p ⊢;have⟨q,a2⟩:=a;have⟨b1,w⟩:=b;rcases p with⟨v,d⟩ | ⟨d,j,l⟩
    ·subst d;exact AM F A O n q b1 _ v c
    ·rw[AL d,GU ω];exact .inl (.inr ⟨d,j,l⟩)
  ·rw[Zaa (λk=>c1 ⟨k.2.1,k.2.2.1⟩),Zaa (λk=>c1 ⟨k.2.1,k.2.2.1⟩)];exact .inl (.inl ⟨h,rfl⟩)
theorem Eh {α β:Type} {a b:Ps×α} (f:α->β) (h:GR G deep a b):GR G deep (a.1,f a.2) (b.1,f b.2):=by
 rcases h with(⟨h,c⟩ | h) | h
 ·exact .inl (.inl ⟨h,by grind⟩)
 ·exact .inl (.inr h)
 ·exact .inr h
def Kp (F:Fx G) (A:GQ G (deep+1) aH mH) (O:mF G aH) (h:At G deep s t) (a:s.ab<=4):GR G deep (mD G aH s) (oG G mH deep t):=by
 unfold oG;rw[h.i];exact Eh (bW 3) (AM F A O _ s t [] h a)
theorem AN (F:Fx G) (A:GQ G (deep+1) aH mH) (O:mF G aH):∀(n:Nat) (s t:Ps) (l:List (List Nd)),At G deep s t->s.ab<=4->GR G deep (gx G aH n s l) (dP G mH deep n t l)
 | 0,s,t,l,h,m=>.inl (.inl ⟨h,rfl⟩)
 | n+1,s,t,l,h,m=>by
  unfold gx dP;rw[fB h.i];by_cases c1:bb G s 124
  ·rw[Zac ⟨h.e,c1⟩,Zac ⟨h.e2,c1⟩];have p:=h.next (gK c1);have o:=Kp F A O p m;have j:=(mG O (s:=s.next) p.le m).1.gm;generalize mD G aH s.next=a at o j ⊢;generalize oG G mH deep t.next=b at o ⊢;have⟨q,a2⟩:=a;have⟨b1,u⟩:=b;rcases o with(⟨r,f⟩ | ⟨f,c,d⟩) | ⟨hd,f,c,d,he3⟩
   ·subst f;exact AN F A O n q b1 _ r j
   ·rw[qf f,lU (.inl ω)];exact .inl (.inr ⟨f,c,d⟩)
   ·have g:bb G b1 124=false:=by
     grind [gK,qe]
    rw[qf ω,lU (.inr g)];exact .inr ⟨hd,f,c,d,he3⟩
  ·rw[Zaa (λk=>c1 k.2),Zaa (λk=>c1 k.2)];exact .inl (.inl ⟨h,rfl⟩)
theorem Q3 (F:Fx G) (A:GQ G (deep+1) aH mH) (O:mF G aH) (h:At G deep s t) (l:s.ab<=4):GR G deep (Ed G aH s) (uA G mH deep t):=by
 have j:=Kp F A O h l;have g:=(mG O (s:=s) h.le l).1.gm;unfold Ed uA;simp only;generalize mD G aH s=a at j g ⊢;generalize oG G mH deep t=b at j ⊢;have⟨m,a2⟩:=a;have⟨b1,n⟩:=b;rcases j with(⟨k,e⟩ | ⟨e,c,d⟩) | ⟨hd,e,c,d,he3⟩
 ·subst e;rw[k.i];exact Eh (bW 4) (AN F A O _ m b1 [n] k g)
 ·rw[qf e,lU (.inl ω)];exact .inl (.inr ⟨e,c,d⟩)
 ·have f:bb G b1 124=false:=by
   grind [gK,qe]
  rw[qf ω,lU (.inr f)];exact .inr ⟨hd,e,c,d,he3⟩
theorem Kq (F:Fx G):∀(n deep:Nat) (s t:Ps),At G deep s t->s.ab<=4->GR G deep (qZ G n s) (Cj G n deep t)
 | 0,deep,s,t,h,a=>.inl (.inl ⟨h,rfl⟩)
 | n+1,deep,s,t,h,a=>by
  refine Q3 F (λs t h a=>?_) (vW n) h a;rcases Kq F n (deep+1) s t h a with h1 | h1
  all_goals grind
def fin (G:List Gt) (a:Ps×List Nd):List Nd×Int×Int:=
 let s:=if a.1.an=0/\a.1.i<G.length then a.1.ax G a.1.i 4 else a.1
 if s.an≠0 then([],s.an,s.wh) else(a.2,0,0)
theorem xD (a:x.an=0) (hi:x.i<G.length):fin G (x,b)=([],4,aI G x.i):=by grind [fin,Ps.ax]
theorem Q4 (a:x.an=0) (hi:¬x.i<G.length):fin G (x,b)=(b,0,0):=by grind [fin]
theorem Kr (a:x.an≠0):fin G (x,b)=([],x.an,x.wh):=by simp[fin,a]
theorem Ng (F:Fx G):GN G=xw G:=by
 have h:=Kq F 21 0 Pe Pe ⟨rfl,rfl,rfl,rfl,rfl,Zaj _⟩ (by decide);show fin G (Cj G 21 0 Pe)=fin G (qZ G 21 Pe)
 generalize qZ G 21 Pe=a at h ⊢;have⟨j,a2⟩:=a;rcases h with(⟨b,d⟩ | ⟨d,f,g⟩) | ⟨hd,d,f,g,he3⟩
 ·subst d;by_cases c:j.i<G.length
  ·rw[xD b.e2 (by rw[b.i];exact c),xD b.e c,b.i]
  ·rw[Q4 b.e2 (by rw[b.i];exact c),Q4 b.e c]
 ·grind [Kr]
 ·grind [xD,gK,Kr]
end
end syn
namespace sx
open Go Go.RowKit cls
open syn (Nd Gt)
noncomputable section
structure aX where
 pc:Int
 c0:Int
 c1:Int
 c2:Int
 c3:Int
 c4:Int
 c5:Int
 c6:Int
 c7:Int
 c8:Int
 c9:Int
structure dd where
 done:Bool
 c0:Int
 c1:Int
 c2:Int
 c3:Int
 c4:Int
 c5:Int
 c6:Int
 c7:Int
 c8:Int
 c9:Int
 aJ:List aX
structure iX where
 name:List UInt8
 text:List UInt8
structure Ks where
 kind:Int
 pos:Int
 QnE:Int
 c0:Int
 c1:Int
 c2:Int
 c3:Int
 c4:Int
 c5:Int
 c6:Int
 c7:Int
 c8:Int
 c9:Int
structure aW where
 op:Int
 x:Int
 y:Int
 bm:List Rg
structure cn where
 c0:Int
 c1:Int
 c2:Int
 c3:Int
 c4:Int
 c5:Int
 c6:Int
 c7:Int
 c8:Int
 c9:Int
inductive ah where
 | mk (op:Int) (r:List Rg) (mn:Int) (mx:Int) (lz:Bool) (cap:Int) (nk:Int) (ae:List ah)
def ah.op (x:ah):Int:=match x with
 | .mk a _ _ _ _ _ _ _=>a
def ah.r (x:ah):List Rg:=match x with
 | .mk _ a _ _ _ _ _ _=>a
def ah.mn (x:ah):Int:=match x with
 | .mk _ _ a _ _ _ _ _=>a
def ah.mx (x:ah):Int:=match x with
 | .mk _ _ _ a _ _ _ _=>a
def ah.lz (x:ah):Bool:=match x with
 | .mk _ _ _ _ a _ _ _=>a
def ah.cap (x:ah):Int:=match x with
 | .mk _ _ _ _ _ a _ _=>a
def ah.nk (x:ah):Int:=match x with
 | .mk _ _ _ _ _ _ a _=>a
def ah.ae (x:ah):List ah:=match x with
 | .mk _ _ _ _ _ _ _ a=>a
structure Row where
 k:List UInt8
 v:Int
structure Item where
 i:Int
 x:Bool
structure Q5 where
 piece:List UInt8
 times:Int
 jH:Bool
structure Q6 where
 h:List UInt8
 m:Int
 L:List dd
def El (c:Nat):Type:=match c with
 | 0=>UInt8
 | 1=>aX
 | 2=>dd
 | 3=>iX
 | 4=>Ks
 | 5=>Int
 | 6=>Rg
 | 7=>Nd
 | 8=>aW
 | 9=>List Nd
 | 10=>List UInt8
 | 11=>cn
 | 12=>List dd
 | 13=>Gt
 | 14=>Int
 | 15=>ah
 | 16=>Row
 | 17=>Bool
 | 18=>Item
 | 19=>Q5
 | 20=>Q6
 | 21=>List UInt8
 | _=>Unit
def szD (c:Nat):Nat:=match c with
 | 0=>1
 | 1=>11
 | 2=>12
 | 3=>2
 | 4=>13
 | 5=>1
 | 6=>2
 | 7=>7
 | 8=>4
 | 9=>1
 | 10=>1
 | 11=>10
 | 12=>1
 | 13=>2
 | 14=>1
 | 15=>8
 | 16=>2
 | 17=>1
 | 18=>2
 | 19=>3
 | 20=>3
 | 21=>1
 | _=>1
def dj (c:Nat):El c->List (AV El):=match c with
 | 0=>λ(x:UInt8)=>[.int .u8 x.toNat]
 | 1=>λ(x:aX)=>[.int .i64 x.pc,.int .i64 x.c0,.int .i64 x.c1,.int .i64 x.c2,.int .i64 x.c3,.int .i64 x.c4,.int .i64 x.c5,.int .i64 x.c6,.int .i64 x.c7,.int .i64 x.c8,.int .i64 x.c9]
 | 2=>λ(x:dd)=>[.bool x.done,.int .i64 x.c0,.int .i64 x.c1,.int .i64 x.c2,.int .i64 x.c3,.int .i64 x.c4,.int .i64 x.c5,.int .i64 x.c6,.int .i64 x.c7,.int .i64 x.c8,.int .i64 x.c9,.list 1 x.aJ]
 | 3=>λ(x:iX)=>[.str x.name,.str x.text]
 | 4=>λ(x:Ks)=>[.int .i64 x.kind,.int .i64 x.pos,.int .i64 x.QnE,.int .i64 x.c0,.int .i64 x.c1,.int .i64 x.c2,.int .i64 x.c3,.int .i64 x.c4,.int .i64 x.c5,.int .i64 x.c6,.int .i64 x.c7,.int .i64 x.c8,.int .i64 x.c9]
 | 5=>λ(x:Int)=>[.int .i64 x]
 | 6=>λ(x:Rg)=>[.int .i32 x.1,.int .i32 x.2]
 | 7=>λ(x:Nd)=>[.int .i64 x.op,.list 6 x.r,.int .i64 x.mn,.int .i64 x.mx,.bool x.lz,.int .i64 x.cap,.int .i64 x.ae]
 | 8=>λ(x:aW)=>[.int .i64 x.op,.int .i64 x.x,.int .i64 x.y,.list 6 x.bm]
 | 9=>λ(x:List Nd)=>[.list 7 x]
 | 10=>λ(x:List UInt8)=>[.str x]
 | 11=>λ(x:cn)=>[.int .i64 x.c0,.int .i64 x.c1,.int .i64 x.c2,.int .i64 x.c3,.int .i64 x.c4,.int .i64 x.c5,.int .i64 x.c6,.int .i64 x.c7,.int .i64 x.c8,.int .i64 x.c9]
 | 12=>λ(x:List dd)=>[.list 2 x]
 | 13=>λ(x:Gt)=>[.int .i32 x.1,.int .i64 x.2]
 | 14=>λ(x:Int)=>[.int .i32 x]
 | 15=>λ(x:ah)=>[.int .i64 x.op,.list 6 x.r,.int .i64 x.mn,.int .i64 x.mx,.bool x.lz,.int .i64 x.cap,.int .i64 x.nk,.list 15 x.ae]
 | 16=>λ(x:Row)=>[.str x.k,.int .i64 x.v]
 | 17=>λ(x:Bool)=>[.bool x]
 | 18=>λ(x:Item)=>[.int .i64 x.i,.bool x.x]
 | 19=>λ(x:Q5)=>[.str x.piece,.int .i64 x.times,.bool x.jH]
 | 20=>λ(x:Q6)=>[.list 0 x.h,.int .i64 x.m,.list 2 x.L]
 | 21=>λ(x:List UInt8)=>[.list 0 x]
 | _=>λ_=>[.int .i64 0]
def cD (k:IntKind) (v:AV El):Option Int:=match v with
 | .int a n=>oI (BI k a) (some n)
 | .num a n=>oI (BI k a) (some n)
 | _=>none
def Ei (v:AV El):Option Bool:=match v with
 | .bool b=>some b
 | .lit b=>some b
 | _=>none
def GV (v:AV El):Option (List UInt8):=match v with
 | .str s=>some s
 | _=>none
def Kt (c a:Nat) (xs:List (El a)):Option (List (El c)):=Decidable.rec (motive:=λ_=>Option (List (El c))) (λ_=>none) (λh=>some (Eq.rec (motive:=λc _=>List (El c)) xs h)) (Nat.decEq a c)
def uZ (c:Nat) (v:AV El):Option (List (El c)):=match v with
 | .list a xs=>Kt c a xs
 | .grow a xs _=>Kt c a xs
 | .dF=>some []
 | _=>none
def b8 (n:Int):UInt8:=UInt8.ofNat n.toNat
def Qd8 (l:List (AV El)):Option (El 0):=match l with
 | [a0]=>oB (cD .u8 a0) λa0=>some (b8 a0)
 | _=>none
def xE (l:List (AV El)):Option (El 1):=match l with
 | [a0,b,a2,a3,a4,a5,c,d,e,a9,a]=>oB (cD .i64 a0) λa0=>oB (cD .i64 b) λb=>oB (cD .i64 a2) λa2=>oB (cD .i64 a3) λa3=>oB (cD .i64 a4) λa4=>oB (cD .i64 a5) λa5=>oB (cD .i64 c) λc=>oB (cD .i64 d) λd=>oB (cD .i64 e) λe=>oB (cD .i64 a9) λa9=>oB (cD .i64 a) λa=>some (aX.mk a0 b a2 a3 a4 a5 c d e a9 a)
 | _=>none
def GW (l:List (AV El)):Option (El 2):=match l with
 | [a0,c,a2,a3,a4,a5,d,e,f,a9,a,b]=>oB (Ei a0) λa0=>oB (cD .i64 c) λc=>oB (cD .i64 a2) λa2=>oB (cD .i64 a3) λa3=>oB (cD .i64 a4) λa4=>oB (cD .i64 a5) λa5=>oB (cD .i64 d) λd=>oB (cD .i64 e) λe=>oB (cD .i64 f) λf=>oB (cD .i64 a9) λa9=>oB (cD .i64 a) λa=>oB (uZ 1 b) λb=>some (dd.mk a0 c a2 a3 a4 a5 d e f a9 a b)
 | _=>none
def Q7 (l:List (AV El)):Option (El 3):=match l with
 | [a0,a]=>oB (GV a0) λa0=>oB (GV a) λa=>some (iX.mk a0 a)
 | _=>none
def Qd9 (l:List (AV El)):Option (El 4):=match l with
 | [a0,c,a2,a3,a4,a5,d,e,f,a9,a,b,a12]=>oB (cD .i64 a0) λa0=>oB (cD .i64 c) λc=>oB (cD .i64 a2) λa2=>oB (cD .i64 a3) λa3=>oB (cD .i64 a4) λa4=>oB (cD .i64 a5) λa5=>oB (cD .i64 d) λd=>oB (cD .i64 e) λe=>oB (cD .i64 f) λf=>oB (cD .i64 a9) λa9=>oB (cD .i64 a) λa=>oB (cD .i64 b) λb=>oB (cD .i64 a12) λa12=>some (Ks.mk a0 c a2 a3 a4 a5 d e f a9 a b a12)
 | _=>none
def Qea (l:List (AV El)):Option (El 5):=match l with
 | [a0]=>oB (cD .i64 a0) λa0=>some a0
 | _=>none
def Qeb (l:List (AV El)):Option (El 6):=match l with
 | [a0,a]=>oB (cD .i32 a0) λa0=>oB (cD .i32 a) λa=>some (Prod.mk a0 a)
 | _=>none
def Qec (l:List (AV El)):Option (El 7):=match l with
 | [a0,a,a2,a3,a4,a5,b]=>oB (cD .i64 a0) λa0=>oB (uZ 6 a) λa=>oB (cD .i64 a2) λa2=>oB (cD .i64 a3) λa3=>oB (Ei a4) λa4=>oB (cD .i64 a5) λa5=>oB (cD .i64 b) λb=>some (Nd.mk a0 a a2 a3 a4 a5 b)
 | _=>none
def Qed (l:List (AV El)):Option (El 8):=match l with
 | [a0,a,a2,a3]=>oB (cD .i64 a0) λa0=>oB (cD .i64 a) λa=>oB (cD .i64 a2) λa2=>oB (uZ 6 a3) λa3=>some (aW.mk a0 a a2 a3)
 | _=>none
def Qee (l:List (AV El)):Option (El 9):=match l with
 | [a0]=>oB (uZ 7 a0) λa0=>some a0
 | _=>none
def Q8 (l:List (AV El)):Option (El 10):=match l with
 | [a0]=>oB (GV a0) λa0=>some a0
 | _=>none
def Ku (l:List (AV El)):Option (El 11):=match l with
 | [a0,a,a2,a3,a4,a5,b,c,d,a9]=>oB (cD .i64 a0) λa0=>oB (cD .i64 a) λa=>oB (cD .i64 a2) λa2=>oB (cD .i64 a3) λa3=>oB (cD .i64 a4) λa4=>oB (cD .i64 a5) λa5=>oB (cD .i64 b) λb=>oB (cD .i64 c) λc=>oB (cD .i64 d) λd=>oB (cD .i64 a9) λa9=>some (cn.mk a0 a a2 a3 a4 a5 b c d a9)
 | _=>none
def Q9 (l:List (AV El)):Option (El 12):=match l with
 | [a0]=>oB (uZ 2 a0) λa0=>some a0
 | _=>none
def Q' (l:List (AV El)):Option (El 13):=match l with
 | [a0,a]=>oB (cD .i32 a0) λa0=>oB (cD .i64 a) λa=>some (Prod.mk a0 a)
 | _=>none
def Q_ (l:List (AV El)):Option (El 14):=match l with
 | [a0]=>oB (cD .i32 a0) λa0=>some a0
 | _=>none
def Ra (l:List (AV El)):Option (El 15):=match l with
 | [a0,a,a2,a3,a4,a5,b,c]=>oB (cD .i64 a0) λa0=>oB (uZ 6 a) λa=>oB (cD .i64 a2) λa2=>oB (cD .i64 a3) λa3=>oB (Ei a4) λa4=>oB (cD .i64 a5) λa5=>oB (cD .i64 b) λb=>oB (uZ 15 c) λc=>some (ah.mk a0 a a2 a3 a4 a5 b c)
 | _=>none
def Rb (l:List (AV El)):Option (El 16):=match l with
 | [a0,a]=>oB (GV a0) λa0=>oB (cD .i64 a) λa=>some (Row.mk a0 a)
 | _=>none
def Re (l:List (AV El)):Option (El 17):=match l with
 | [a0]=>oB (Ei a0) λa0=>some a0
 | _=>none
def Rf (l:List (AV El)):Option (El 18):=match l with
 | [a0,a]=>oB (cD .i64 a0) λa0=>oB (Ei a) λa=>some (Item.mk a0 a)
 | _=>none
def Rh (l:List (AV El)):Option (El 19):=match l with
 | [a0,a,a2]=>oB (GV a0) λa0=>oB (cD .i64 a) λa=>oB (Ei a2) λa2=>some (Q5.mk a0 a a2)
 | _=>none
def Ri (l:List (AV El)):Option (El 20):=match l with
 | [a0,a,a2]=>oB (uZ 0 a0) λa0=>oB (cD .i64 a) λa=>oB (uZ 2 a2) λa2=>some (Q6.mk a0 a a2)
 | _=>none
def Rj (l:List (AV El)):Option (El 21):=match l with
 | [a0]=>oB (uZ 0 a0) λa0=>some a0
 | _=>none
def QnG (c:Nat) (l:List (AV El)):Option (El c):=match c with
 | 0=>Qd8 l
 | 1=>xE l
 | 2=>GW l
 | 3=>Q7 l
 | 4=>Qd9 l
 | 5=>Qea l
 | 6=>Qeb l
 | 7=>Qec l
 | 8=>Qed l
 | 9=>Qee l
 | 10=>Q8 l
 | 11=>Ku l
 | 12=>Q9 l
 | 13=>Q' l
 | 14=>Q_ l
 | 15=>Ra l
 | 16=>Rb l
 | 17=>Re l
 | 18=>Rf l
 | 19=>Rh l
 | 20=>Ri l
 | 21=>Rj l
 | _=>none
def QnH (c:Nat):El c:=match c with
 | 0=>(0:UInt8)
 | 1=>aX.mk 0 0 0 0 0 0 0 0 0 0 0
 | 2=>dd.mk false 0 0 0 0 0 0 0 0 0 0 []
 | 3=>iX.mk [] []
 | 4=>Ks.mk 0 0 0 0 0 0 0 0 0 0 0 0 0
 | 5=>(0:Int)
 | 6=>Prod.mk 0 0
 | 7=>Nd.mk 0 [] 0 0 false 0 0
 | 8=>aW.mk 0 0 0 []
 | 9=>([]:List Nd)
 | 10=>([]:List UInt8)
 | 11=>cn.mk 0 0 0 0 0 0 0 0 0 0
 | 12=>([]:List dd)
 | 13=>Prod.mk 0 0
 | 14=>(0:Int)
 | 15=>ah.mk 0 [] 0 0 false 0 0 []
 | 16=>Row.mk [] 0
 | 17=>(false:Bool)
 | 18=>Item.mk 0 false
 | 19=>Q5.mk [] 0 false
 | 20=>Q6.mk [] 0 []
 | 21=>([]:List UInt8)
 | (_+22)=>()
def D:Data:=⟨El,szD,dj,QnG,QnH,0,λxs=>xs,λxs=>xs,0,λ_=>True,λ_ _ _ h=>h⟩
end
section
variable {M:Pm D} {v:AV D.E} {val:Value}
def aR {k:IntKind} {n:Int} (h:cD k v=some n) (c:VR M v val):VR M (.int k n:AV D.E) val/\fK k n:=by
 cases c<;>simp only[cD] at h<;>(try (cases h;done))
 case int d e a=>
  obtain⟨h1,b⟩:=lO.1 h;cases b;rw[fZ.1 h1];exact⟨.int a,a⟩
 case num d e a=>
  obtain⟨h1,b⟩:=lO.1 h;cases b;rw[fZ.1 h1];exact⟨.int a,a⟩
def qg {b:Bool} (h:Ei v=some b) (a:VR M v val):VR M (.bool b:AV D.E) val:=by
 cases a<;>simp only[Ei] at h<;>(try (cases h;done))
 ·cases h;exact .bool _
 ·cases h;exact .bool _
def sk {s:List UInt8} (h:GV v=some s) (a:VR M v val):VR M (.str s:AV D.E) val:=by
 cases a<;>simp only[GV] at h<;>(try (cases h;done));cases h;exact .str (by assumption)
theorem xF {c a:Nat} {xs:List (El a)} {d:List (El c)} (h:Kt c a xs=some d):∃e:a=c,e▸xs=d:=by
 unfold Kt at h;cases b:Nat.decEq a c with
 | isFalse g=>rw[b] at h;cases h
 | isTrue f=>rw[b] at h;subst f;exact⟨rfl,ZbN h⟩
def ju {c:Nat} {xs:List (El c)} (h:uZ c v=some xs) (a:VR M v val):VR M (.list c xs:AV D.E) val:=by
 cases v<;>simp only[uZ] at h<;>(try (cases h;done))
 ·cases h;cases a;exact .ed
 ·obtain⟨rfl,rfl⟩:=xF h;cases a with
  | grow h e hl hz hs d b ht=>exact .list hs d b
  | jZ h e=>exact .ed
 ·obtain⟨rfl,rfl⟩:=xF h;exact a
def mI {n:Int} (h:fK .u8 n):((b8 n).toNat:Int)=n:=by
 rw[cL] at h;simp only[De,s9] at h;unfold b8;rw[UInt8.toNat_ofNat'];omega
def iY (row a_:List (AV D.E)):Prop:=row.length=a_.length/\∀(j:Nat) (a b:AV D.E),row[j]?=some a->a_[j]?=some b->∀(M:Pm D) (v:Value),VR M a v->VR (D:=D) M b v
theorem iY.nil:iY [] []:=⟨rfl,λj a b h=>by simp at h⟩
def iY.cons {a c:AV D.E} {r e:List (AV D.E)} (h:∀(M:Pm D) (v:Value),VR M a v->VR (D:=D) M c v) (d:iY r e):iY (a::r) (c::e):=
 ⟨by simp[d.1],λj x f b e2=>by
  cases j with
  | zero=>simp at b e2;subst b;subst e2;exact h
  | succ j=>exact d.2 j x f (by simpa using b) (by simpa using e2)⟩
end
variable {Z:List (AV El)}
def Yp {x:El 0} (h:Qd8 Z=some x):iY Z (dj 0 x):=by
 unfold Qd8 at h;split at h
 ·rename_i a0
  obtain⟨d,a,h⟩:=aE.1 h;cases h;exact .cons (λM v c=>by
   obtain⟨h1,b⟩:=aR a c;show VR M (.int .u8 ((b8 d).toNat:Int)) v
   rw[mI b];exact h1) .nil
 ·cases h
def Yq {x:El 1} (h:xE Z=some x):iY Z (dj 1 x):=by
 unfold xE at h;split at h
 ·rename_i a0 n a2 a3 a4 a5 o p q a9 c
  obtain⟨r,d,h⟩:=aE.1 h;obtain⟨s,e,h⟩:=aE.1 h;obtain⟨t,e2,h⟩:=aE.1 h;obtain⟨u,f,h⟩:=aE.1 h;obtain⟨v,g,h⟩:=aE.1 h;obtain⟨w,i,h⟩:=aE.1 h;obtain⟨y,j,h⟩:=aE.1 h;obtain⟨z,k,h⟩:=aE.1 h;obtain⟨A,e8,h⟩:=aE.1 h;obtain⟨B,l,h⟩:=aE.1 h;obtain⟨m,b,h⟩:=aE.1 h;cases h;exact .cons (λ_ _ a=>(aR d a).1) (.cons (λ_ _ a=>(aR e a).1) (.cons (λ_ _ a=>(aR e2 a).1) (.cons (λ_ _ a=>(aR f a).1) (.cons (λ_ _ a=>(aR g a).1) (.cons (λ_ _ a=>(aR i a).1) (.cons (λ_ _ a=>(aR j a).1) (.cons (λ_ _ a=>(aR k a).1) (.cons (λ_ _ a=>(aR e8 a).1) (.cons (λ_ _ a=>(aR l a).1) (.cons (λ_ _ a=>(aR b a).1) .nil))))))))))
 ·cases h
def Yr {x:El 2} (h:GW Z=some x):iY Z (dj 2 x):=by
 unfold GW at h;split at h
 ·rename_i a0 q a2 a3 a4 a5 r s t a9 d e
  obtain⟨u,f,h⟩:=aE.1 h;obtain⟨v,g,h⟩:=aE.1 h;obtain⟨w,e2,h⟩:=aE.1 h;obtain⟨y,i,h⟩:=aE.1 h;obtain⟨z,j,h⟩:=aE.1 h;obtain⟨A,k,h⟩:=aE.1 h;obtain⟨B,l,h⟩:=aE.1 h;obtain⟨C,m,h⟩:=aE.1 h;obtain⟨D,e8,h⟩:=aE.1 h;obtain⟨E,n,h⟩:=aE.1 h;obtain⟨o,b,h⟩:=aE.1 h;obtain⟨p,c,h⟩:=aE.1 h;cases h;exact .cons (λ_ _ a=>qg f a) (.cons (λ_ _ a=>(aR g a).1) (.cons (λ_ _ a=>(aR e2 a).1) (.cons (λ_ _ a=>(aR i a).1) (.cons (λ_ _ a=>(aR j a).1) (.cons (λ_ _ a=>(aR k a).1) (.cons (λ_ _ a=>(aR l a).1) (.cons (λ_ _ a=>(aR m a).1) (.cons (λ_ _ a=>(aR e8 a).1) (.cons (λ_ _ a=>(aR n a).1) (.cons (λ_ _ a=>(aR b a).1) (.cons (λ_ _ a=>ju c a) .nil)))))))))))
 ·cases h
def Ys {x:El 3} (h:Q7 Z=some x):iY Z (dj 3 x):=by
 unfold Q7 at h;split at h
 ·rename_i a0 d
  obtain⟨e,b,h⟩:=aE.1 h;obtain⟨f,c,h⟩:=aE.1 h;cases h;exact .cons (λ_ _ a=>sk b a) (.cons (λ_ _ a=>sk c a) .nil)
 ·cases h
def Yt {x:El 4} (h:Qd9 Z=some x):iY Z (dj 4 x):=by
 unfold Qd9 at h;split at h
 ·rename_i a0 s a2 a3 a4 a5 t u v a9 e f a12
  obtain⟨w,g,h⟩:=aE.1 h;obtain⟨y,i,h⟩:=aE.1 h;obtain⟨z,e2,h⟩:=aE.1 h;obtain⟨A,j,h⟩:=aE.1 h;obtain⟨B,k,h⟩:=aE.1 h;obtain⟨C,l,h⟩:=aE.1 h;obtain⟨D,m,h⟩:=aE.1 h;obtain⟨E,n,h⟩:=aE.1 h;obtain⟨F,e8,h⟩:=aE.1 h;obtain⟨G,o,h⟩:=aE.1 h;obtain⟨p,b,h⟩:=aE.1 h;obtain⟨q,c,h⟩:=aE.1 h;obtain⟨r,d,h⟩:=aE.1 h;cases h;exact .cons (λ_ _ a=>(aR g a).1) (.cons (λ_ _ a=>(aR i a).1) (.cons (λ_ _ a=>(aR e2 a).1) (.cons (λ_ _ a=>(aR j a).1) (.cons (λ_ _ a=>(aR k a).1) (.cons (λ_ _ a=>(aR l a).1) (.cons (λ_ _ a=>(aR m a).1) (.cons (λ_ _ a=>(aR n a).1) (.cons (λ_ _ a=>(aR e8 a).1) (.cons (λ_ _ a=>(aR o a).1) (.cons (λ_ _ a=>(aR b a).1) (.cons (λ_ _ a=>(aR c a).1) (.cons (λ_ _ a=>(aR d a).1) .nil))))))))))))
 ·cases h
def Yu {x:El 5} (h:Qea Z=some x):iY Z (dj 5 x):=by
 unfold Qea at h;split at h
 ·rename_i a0
  obtain⟨c,a,h⟩:=aE.1 h;cases h;exact .cons (λ_ _ b=>(aR a b).1) .nil
 ·cases h
def Yv {x:El 6} (h:Qeb Z=some x):iY Z (dj 6 x):=by
 unfold Qeb at h;split at h
 ·rename_i a0 d
  obtain⟨e,b,h⟩:=aE.1 h;obtain⟨f,c,h⟩:=aE.1 h;cases h;exact .cons (λ_ _ a=>(aR b a).1) (.cons (λ_ _ a=>(aR c a).1) .nil)
 ·cases h
def Yw {x:El 7} (h:Qec Z=some x):iY Z (dj 7 x):=by
 unfold Qec at h;split at h
 ·rename_i a0 i a2 a3 a4 a5 j
  obtain⟨k,b,h⟩:=aE.1 h;obtain⟨l,c,h⟩:=aE.1 h;obtain⟨m,e2,h⟩:=aE.1 h;obtain⟨n,d,h⟩:=aE.1 h;obtain⟨o,e,h⟩:=aE.1 h;obtain⟨p,f,h⟩:=aE.1 h;obtain⟨q,g,h⟩:=aE.1 h;cases h;exact .cons (λ_ _ a=>(aR b a).1) (.cons (λ_ _ a=>ju c a) (.cons (λ_ _ a=>(aR e2 a).1) (.cons (λ_ _ a=>(aR d a).1) (.cons (λ_ _ a=>qg e a) (.cons (λ_ _ a=>(aR f a).1) (.cons (λ_ _ a=>(aR g a).1) .nil))))))
 ·cases h
def Yx {x:El 8} (h:Qed Z=some x):iY Z (dj 8 x):=by
 unfold Qed at h;split at h
 ·rename_i a0 e a2 a3
  obtain⟨f,b,h⟩:=aE.1 h;obtain⟨g,c,h⟩:=aE.1 h;obtain⟨i,e2,h⟩:=aE.1 h;obtain⟨j,d,h⟩:=aE.1 h;cases h;exact .cons (λ_ _ a=>(aR b a).1) (.cons (λ_ _ a=>(aR c a).1) (.cons (λ_ _ a=>(aR e2 a).1) (.cons (λ_ _ a=>ju d a) .nil)))
 ·cases h
def Yy {x:El 9} (h:Qee Z=some x):iY Z (dj 9 x):=by
 unfold Qee at h;split at h
 ·rename_i a0
  obtain⟨c,a,h⟩:=aE.1 h;cases h;exact .cons (λ_ _ b=>ju a b) .nil
 ·cases h
def Rk {x:El 10} (h:Q8 Z=some x):iY Z (dj 10 x):=by
 unfold Q8 at h;split at h
 ·rename_i a0
  obtain⟨c,a,h⟩:=aE.1 h;cases h;exact .cons (λ_ _ b=>sk a b) .nil
 ·cases h
def Rp {x:El 11} (h:Ku Z=some x):iY Z (dj 11 x):=by
 unfold Ku at h;split at h
 ·rename_i a0 k a2 a3 a4 a5 l m n a9
  obtain⟨o,b,h⟩:=aE.1 h;obtain⟨p,c,h⟩:=aE.1 h;obtain⟨q,e2,h⟩:=aE.1 h;obtain⟨r,d,h⟩:=aE.1 h;obtain⟨s,e,h⟩:=aE.1 h;obtain⟨t,f,h⟩:=aE.1 h;obtain⟨u,g,h⟩:=aE.1 h;obtain⟨v,i,h⟩:=aE.1 h;obtain⟨w,e8,h⟩:=aE.1 h;obtain⟨y,j,h⟩:=aE.1 h;cases h;exact .cons (λ_ _ a=>(aR b a).1) (.cons (λ_ _ a=>(aR c a).1) (.cons (λ_ _ a=>(aR e2 a).1) (.cons (λ_ _ a=>(aR d a).1) (.cons (λ_ _ a=>(aR e a).1) (.cons (λ_ _ a=>(aR f a).1) (.cons (λ_ _ a=>(aR g a).1) (.cons (λ_ _ a=>(aR i a).1) (.cons (λ_ _ a=>(aR e8 a).1) (.cons (λ_ _ a=>(aR j a).1) .nil)))))))))
 ·cases h
def Rq {x:El 12} (h:Q9 Z=some x):iY Z (dj 12 x):=by
 unfold Q9 at h;split at h
 ·rename_i a0
  obtain⟨c,a,h⟩:=aE.1 h;cases h;exact .cons (λ_ _ b=>ju a b) .nil
 ·cases h
def Rr {x:El 13} (h:Q' Z=some x):iY Z (dj 13 x):=by
 unfold Q' at h;split at h
 ·rename_i a0 d
  obtain⟨e,b,h⟩:=aE.1 h;obtain⟨f,c,h⟩:=aE.1 h;cases h;exact .cons (λ_ _ a=>(aR b a).1) (.cons (λ_ _ a=>(aR c a).1) .nil)
 ·cases h
def Rs {x:El 14} (h:Q_ Z=some x):iY Z (dj 14 x):=by
 unfold Q_ at h;split at h
 ·rename_i a0
  obtain⟨c,a,h⟩:=aE.1 h;cases h;exact .cons (λ_ _ b=>(aR a b).1) .nil
 ·cases h
def Rt {x:El 15} (h:Ra Z=some x):iY Z (dj 15 x):=by
 unfold Ra at h;split at h
 ·rename_i a0 j a2 a3 a4 a5 k l
  obtain⟨m,b,h⟩:=aE.1 h;obtain⟨n,c,h⟩:=aE.1 h;obtain⟨o,e2,h⟩:=aE.1 h;obtain⟨p,d,h⟩:=aE.1 h;obtain⟨q,e,h⟩:=aE.1 h;obtain⟨r,f,h⟩:=aE.1 h;obtain⟨s,g,h⟩:=aE.1 h;obtain⟨t,i,h⟩:=aE.1 h;cases h;exact .cons (λ_ _ a=>(aR b a).1) (.cons (λ_ _ a=>ju c a) (.cons (λ_ _ a=>(aR e2 a).1) (.cons (λ_ _ a=>(aR d a).1) (.cons (λ_ _ a=>qg e a) (.cons (λ_ _ a=>(aR f a).1) (.cons (λ_ _ a=>(aR g a).1) (.cons (λ_ _ a=>ju i a) .nil)))))))
 ·cases h
def Ru {x:El 16} (h:Rb Z=some x):iY Z (dj 16 x):=by
 unfold Rb at h;split at h
 ·rename_i a0 d
  obtain⟨e,b,h⟩:=aE.1 h;obtain⟨f,c,h⟩:=aE.1 h;cases h;exact .cons (λ_ _ a=>sk b a) (.cons (λ_ _ a=>(aR c a).1) .nil)
 ·cases h
def Rv {x:El 17} (h:Re Z=some x):iY Z (dj 17 x):=by
 unfold Re at h;split at h
 ·rename_i a0
  obtain⟨c,a,h⟩:=aE.1 h;cases h;exact .cons (λ_ _ b=>qg a b) .nil
 ·cases h
def Rw {x:El 18} (h:Rf Z=some x):iY Z (dj 18 x):=by
 unfold Rf at h;split at h
 ·rename_i a0 d
  obtain⟨e,b,h⟩:=aE.1 h;obtain⟨f,c,h⟩:=aE.1 h;cases h;exact .cons (λ_ _ a=>(aR b a).1) (.cons (λ_ _ a=>qg c a) .nil)
 ·cases h
def Rx {x:El 19} (h:Rh Z=some x):iY Z (dj 19 x):=by
 unfold Rh at h;split at h
 ·rename_i a0 d a2
  obtain⟨e,b,h⟩:=aE.1 h;obtain⟨f,c,h⟩:=aE.1 h;obtain⟨g,e2,h⟩:=aE.1 h;cases h;exact .cons (λ_ _ a=>sk b a) (.cons (λ_ _ a=>(aR c a).1) (.cons (λ_ _ a=>qg e2 a) .nil))
 ·cases h
def Ry {x:El 20} (h:Ri Z=some x):iY Z (dj 20 x):=by
 unfold Ri at h;split at h
 ·rename_i a0 d a2
  obtain⟨e,b,h⟩:=aE.1 h;obtain⟨f,c,h⟩:=aE.1 h;obtain⟨g,e2,h⟩:=aE.1 h;cases h;exact .cons (λ_ _ a=>ju b a) (.cons (λ_ _ a=>(aR c a).1) (.cons (λ_ _ a=>ju e2 a) .nil))
 ·cases h
def Rz {x:El 21} (h:Rj Z=some x):iY Z (dj 21 x):=by
 unfold Rj at h;split at h
 ·rename_i a0
  obtain⟨c,a,h⟩:=aE.1 h;cases h;exact .cons (λ_ _ b=>ju a b) .nil
 ·cases h
def kN {l:List (AV D.E)} (h:jy (λv=>one v&&mq (D:=D) v) l):∀v∈l,one v/\mq v:=λv a=>by
 have:=ec.1 h v a;simpa using this
theorem fL:aY D where
 len:=λc x=>by
  show(dj c x).length=szD c
  match c,x with
  | 0,x=>rfl
  | 1,x=>rfl
  | 2,x=>rfl
  | 3,x=>rfl
  | 4,x=>rfl
  | 5,x=>rfl
  | 6,x=>rfl
  | 7,x=>rfl
  | 8,x=>rfl
  | 9,x=>rfl
  | 10,x=>rfl
  | 11,x=>rfl
  | 12,x=>rfl
  | 13,x=>rfl
  | 14,x=>rfl
  | 15,x=>rfl
  | 16,x=>rfl
  | 17,x=>rfl
  | 18,x=>rfl
  | 19,x=>rfl
  | 20,x=>rfl
  | 21,x=>rfl
  | _+22,x=>rfl
 one:=λc x=>by
  show ∀v∈dj c x,one v/\mq (D:=D) v
  match c,x with
  | 0,x=>intro v a;exact kN (l:=dj 0 x) (by rfl) v a
  | 1,x=>intro v a;exact kN (l:=dj 1 x) (by rfl) v a
  | 2,x=>intro v a;exact kN (l:=dj 2 x) (by rfl) v a
  | 3,x=>intro v a;exact kN (l:=dj 3 x) (by rfl) v a
  | 4,x=>intro v a;exact kN (l:=dj 4 x) (by rfl) v a
  | 5,x=>intro v a;exact kN (l:=dj 5 x) (by rfl) v a
  | 6,x=>intro v a;exact kN (l:=dj 6 x) (by rfl) v a
  | 7,x=>intro v a;exact kN (l:=dj 7 x) (by rfl) v a
  | 8,x=>intro v a;exact kN (l:=dj 8 x) (by rfl) v a
  | 9,x=>intro v a;exact kN (l:=dj 9 x) (by rfl) v a
  | 10,x=>intro v a;exact kN (l:=dj 10 x) (by rfl) v a
  | 11,x=>intro v a;exact kN (l:=dj 11 x) (by rfl) v a
  | 12,x=>intro v a;exact kN (l:=dj 12 x) (by rfl) v a
  | 13,x=>intro v a;exact kN (l:=dj 13 x) (by rfl) v a
  | 14,x=>intro v a;exact kN (l:=dj 14 x) (by rfl) v a
  | 15,x=>intro v a;exact kN (l:=dj 15 x) (by rfl) v a
  | 16,x=>intro v a;exact kN (l:=dj 16 x) (by rfl) v a
  | 17,x=>intro v a;exact kN (l:=dj 17 x) (by rfl) v a
  | 18,x=>intro v a;exact kN (l:=dj 18 x) (by rfl) v a
  | 19,x=>intro v a;exact kN (l:=dj 19 x) (by rfl) v a
  | 20,x=>intro v a;exact kN (l:=dj 20 x) (by rfl) v a
  | 21,x=>intro v a;exact kN (l:=dj 21 x) (by rfl) v a
  | _+22,x=>intro v a;exact kN (l:=[.int .i64 0]) (by rfl) v a
 dec:=λc row x h=>by
  have key:iY row (dj c x):=by
   match c,x,h with
   | 0,x,h=>exact Yp h
   | 1,x,h=>exact Yq h
   | 2,x,h=>exact Yr h
   | 3,x,h=>exact Ys h
   | 4,x,h=>exact Yt h
   | 5,x,h=>exact Yu h
   | 6,x,h=>exact Yv h
   | 7,x,h=>exact Yw h
   | 8,x,h=>exact Yx h
   | 9,x,h=>exact Yy h
   | 10,x,h=>exact Rk h
   | 11,x,h=>exact Rp h
   | 12,x,h=>exact Rq h
   | 13,x,h=>exact Rr h
   | 14,x,h=>exact Rs h
   | 15,x,h=>exact Rt h
   | 16,x,h=>exact Ru h
   | 17,x,h=>exact Rv h
   | 18,x,h=>exact Rw h
   | 19,x,h=>exact Rx h
   | 20,x,h=>exact Ry h
   | 21,x,h=>exact Rz h
   | _+22,x,h=>cases(show none=some x from h)
  have hl:(dj c x).length=szD c:=by
   match c,x with
   | 0,x=>rfl
   | 1,x=>rfl
   | 2,x=>rfl
   | 3,x=>rfl
   | 4,x=>rfl
   | 5,x=>rfl
   | 6,x=>rfl
   | 7,x=>rfl
   | 8,x=>rfl
   | 9,x=>rfl
   | 10,x=>rfl
   | 11,x=>rfl
   | 12,x=>rfl
   | 13,x=>rfl
   | 14,x=>rfl
   | 15,x=>rfl
   | 16,x=>rfl
   | 17,x=>rfl
   | 18,x=>rfl
   | 19,x=>rfl
   | 20,x=>rfl
   | 21,x=>rfl
   | _+22,x=>rfl
  exact⟨key.1.trans hl,key.2⟩
 b1:=rfl
 bl:=λ_=>rfl
 be:=λ_ _ _=>rfl
 bo:=λ_=>rfl
end sx
namespace sx
open Go Go.RowKit
noncomputable section
def cdD (t:TypeId):Option Nat:=match t with
 | 5=>some 0
 | 179=>some 1
 | 106=>some 2
 | 77=>some 3
 | 110=>some 4
 | 3=>some 5
 | 350=>some 6
 | 206=>some 7
 | 203=>some 8
 | 138=>some 9
 | 9=>some 10
 | 28=>some 12
 | 192=>some 13
 | 21=>some 14
 | 209=>some 15
 | 221=>some 15
 | 275=>some 16
 | 4=>some 17
 | 379=>some 18
 | 33=>some 20
 | 29=>some 21
 | _=>none
def QnI (l:List Func):Bool:=jy (λfn=>Bool.not (fn.name== "runtime.NumGoroutine" &&fn.body.isSome)) l
theorem Nh {P:Program} (h:QnI P.funcs.toList):rZ P:=λf fn a=>by
 have:=ec.1 h fn (ZaJ (i:=f) (by rw[ZaL];exact a));grind
def sm:rZ prog:=Nh (by kernel_rfl)
def mixed:Tryz.prog.follows .mixedOrders:=by kernel_rfl
def xG (f:Func):Code:=match f.body with
 | some c=>c
 | none=>.skip
abbrev s7:=List (bh D)
def lI (tab:s7) (fn:Func) (k:bh D) (a:k.Y->cH D) (y:k.Y):Prop:=J3 prog D cdD (X2 D tab) (a y) fn.ntmps k (xG fn) fn.results.toList y
abbrev Ok (k:bh D):Prop:=DW prog D k
variable {k:bh D} {Z:Func} {Y:s7}
variable {a:k.Y->cH D} {V:k.Y->Prop}
def nM {fn:Func} {tab:s7} (ht:∀k∈tab,Ok k) (a:Tryz.prog.funcs[k.f]?=some fn) (d:fn.body=some (xG fn)) (fI:k.Y->cH D) (b:∀y,(k.args y).length<=fn.ntmps) (c:∀y,k.pre y->lI tab fn k fI y):Ok k:=
 Qg1 fL mixed sm a d (xe fL ht) fI b c
def vc (tab:s7) (fn:Func) (k:bh D) (a:k.Y->cH D) (y:k.Y):Prop:=bif Nat.ble (kb (k.args y)) fn.ntmps then lI tab fn k a y else False
@[reducible] def RA:s7->Prop
 | []=>True
 | [k]=>Ok k
 | k::l=>Ok k/\RA l
theorem RA.all:∀{l:s7},RA l->∀k∈l,Ok k
 | [],_,k,hk=>nomatch hk
 | [a],h,k,hk=>by cases hk with
  | head=>exact h
  | tail _ hk=>cases hk
 | a::b::l,h,k,hk=>by cases hk with
  | head=>exact h.1
  | tail _ hk=>exact RA.all h.2 k hk
theorem uB {α:Type} (l:List α):kb l=l.length:=by
 induction l with
 | nil=>rfl
 | cons a l b=>show Nat.succ (kb l)=_;rw[b];rfl
theorem okB {y:k.Y} (h:vc Y Z k a y):(k.args y).length<=Z.ntmps/\lI Y Z k a y:=by
 unfold vc at h;rw[uB] at h;simp_all
theorem cN (h:Z.body.isSome):Z.body=some (xG Z):=by
 grind [xG]
def cC (j:∀y,V y=vc Y Z k a y) (ht:RA Y) (h:∀y,k.pre y->V y)
  (b:Tryz.prog.funcs[k.f]?=some Z:=by kernel_rfl) (c:Z.body.isSome:=by kernel_rfl):Ok k:=by
 refine⟨⟨Z,_,b,cN c⟩,λy l=>?_⟩;obtain⟨h1,d⟩:=okB (Eq.mp (j y) (h y l));exact λM A w hl g i R e=>ke fL mixed sm b (cN c) (xe fL ht.all) h1 d M A w hl g i R e
def okZ (tab:s7) (fn:Func) (b:k.Y->cH D) (ht:RA tab) (h:∀y,k.pre y->V y) (c:∀y,V y=vc tab fn k b y:=by intro y;kernel_rfl)
  (a:Tryz.prog.funcs[k.f]?=some fn:=by kernel_rfl) (d:fn.body.isSome:=by kernel_rfl):Ok k:=cC c ht h a d
theorem xH {g:Type} (l:List g) (k:g->bh D) (me:∀i,(k i).Y->Nat) {fn:g->Func} {tab:g->s7} {fI:∀i,(k i).Y->cH D} (ht:∀i,RA (tab i)) (a:∀i,Tryz.prog.funcs[(k i).f]?=some (fn i)) (c:∀i,(fn i).body.isSome)
  (r:∀i y,(k i).pre y->vc (l.map (λj=>(k j).under (me j) (me i y))++tab i) (fn i) (k i) (fI i) y):∀i,Ok (k i):=by
 have key:∀n i,Ok ((k i).under (me i) n):=λn=>by
  induction n with
  | zero=>exact λi=>⟨⟨fn i,_,a i,cN (c i)⟩,λy b=>absurd b.2 (Zbo _)⟩
  | succ n s=>
   refine λi=>⟨⟨fn i,_,a i,cN (c i)⟩,λy b M A w hl o p R m=>?_⟩
   have u:∀j,Ok ((k j).under (me j) (me i y)):=λj=>⟨⟨fn j,_,a j,cN (c j)⟩,λt d=>(s j).2 t ⟨d.1,by have:=b.2;have:=d.2;omega⟩⟩
   obtain⟨h1,h⟩:=okB (r i y b.1);exact ke (k:=k i) fL mixed sm (a i) (cN (c i)) (xe fL λq e=>by
    rcases Zax.1 e with e | e
    ·grind
    ·exact(ht i).all q e) h1 h M A w hl o p R m
 exact λi=>⟨⟨fn i,_,a i,cN (c i)⟩,λy b=>(key (me i y+1) i).2 y ⟨b,Zbr _⟩⟩
def RC (me:k.Y->Nat) {fn:Func} {tab:s7} {fI:k.Y->cH D} (b:∀y,V y=vc (k.under me (me y)::tab) fn k fI y) (ht:RA tab) (h:∀y,k.pre y->V y)
  (a:Tryz.prog.funcs[k.f]?=some fn:=by kernel_rfl) (c:fn.body.isSome:=by kernel_rfl):Ok k:=
 xH [()] (λ_=>k) (λ_=>me) (fn:=λ_=>fn) (tab:=λ_=>tab) (fI:=λ_=>fI) (λ_=>ht) (λ_=>a) (λ_=>c) (λ_ y d=>Eq.mp (b y) (h y d)) ()
abbrev By:=List UInt8
abbrev Qvo (n:Int):AV D.E:=.int .i64 n
def aa {α:Type} (l:List α) (p:Prop):Prop:=List.rec (motive:=λ_=>Prop) p (λa _ b=>a=a/\b) l
@[simp] theorem dw {α:Type} (l:List α) (p:Prop):aa l p=p:=by
 induction l with
 | nil=>rfl
 | cons a l b=>
  grind [aa]
def Tt (n:Nat) (p:Prop):Prop:=Nat.rec (motive:=λ_=>Prop) p (λ_ a=>true/\a) n
@[simp] theorem QbO (n:Nat) (p:Prop):Tt n p=p:=by
 induction n with
 | zero=>rfl
 | succ n a=>
  show(true/\Tt n p)=p
  rw[a];simp
def aj (b:Bool) (p q:Prop):Prop:=(b->p)/\(b=false->q)
@[simp] theorem pd (b:Bool) (p q:Prop):aj b p q=((b->p)/\(b=false->q)):=rfl
def fu:dd:=⟨false,0,0,0,0,0,0,0,0,0,0,[]⟩
def gN {α:Type} (d:α) (l:List α) (x:Nat):α:=gt d l (Int.toNat (x:Int))
@[simp] theorem Qg8 {α:Type} (d:α) (l:List α) (x:Nat):gN d l x=gt d l x:=rfl
def dY {α:Type} (_:α):cH D:=⟨[],[],[],[],1,[]⟩
def Qef (args:List (AV D.E)) (s:St D.E):C (By×Int):=match args with
 | [a,b]=>az (aL D s 0 a) λl=>aP (cT b) λ_ r=>.ret ((l:By),r)
 | _=>.fail
end
end sx
namespace sx
open Go Go.RowKit Go.ChangeShapes Go.WideShapes Go.ChangeAt
inductive Lf where
 | int (k:IntKind)
 | bool
 | str
 | sl (e:TypeId)
def Kv (l:List Lf):Nat->List Lf
 | 0=>[]
 | n+1=>l++Kv l n
def Ni (P:Program) (g:TypeId->Option (List Lf)):List Field->Nat->Option (List Lf)
 | [],_=>some []
 | f::fs,o=>match g f.type with
  | some l=>if f.offset=o/\l.length=P.cellsOf f.type then(Ni P g fs (o+l.length)).map λr=>l++r else none
  | none=>none
def lvs (P:Program):Nat->TypeId->Option (List Lf)
 | 0,_=>none
 | n+1,t=>match P.underlying t with
  | some (.int k)=>some [.int k]
  | some .bool=>some [.bool]
  | some .string=>some [.str]
  | some (.slice e)=>some [.sl e]
  | some (.array m e)=>match lvs P n e with
   | some l=>if l.length=P.cellsOf e/\P.cellsOf t=m*l.length then some (Kv l m) else none
   | none=>none
  | some (.struct a)=>match Ni P (lvs P n) a.toList 0 with
   | some l=>if l.length=P.cellsOf t then some l else none
   | none=>none
  | _=>none
theorem uC {H:Type} (l:List (DataW H)):Rows.uptoBulkAll l=(l.map Rows.uptoBulk).sum:=by
 induction l with
 | nil=>simp[Rows.uptoBulkAll]
 | cons x r a=>simp only[Rows.uptoBulkAll,Zbl,Zco,a]
section
variable {H:Type} {a_:TypeId×Value->H} {P:Program} {W:World} {held:Bool}
abbrev Pf (a_:TypeId×Value->H) (P:Program) (W:World) (held:Bool):=DataW.trod a_ P W 0 (λ_=>true) held
def Nj (a_:TypeId×Value->H) (P:Program) (W:World) (held:Bool) (l:Lf) (v:Value) (w:Nat):Prop:=match l with
 | .int k=>∃n,v=.int k n/\(Lit.int k n).wf/\1<=w
 | .bool=>∃b,v=.bool b
 | .str=>∃s:ByteArray,v=.string s/\s.size<=maxLen/\s.data.toList.length<=w
 | .sl e=>v=.slice none 0 0\/∃a len cap n,v=.slice (some a) len cap/\len<=cap/\cap<=maxLen/\∃D:Nat->DataW H,((List.range len).map λi=>Rows.uptoBulk (D i)).sum<=w/\
   ∀i,i<len->∃cs p,W.cells? 0 (a.add (i*P.cellsOf e)) (P.cellsOf e)=some cs/\Pf a_ P W held n e cs=some (D i,p)
inductive fl (a_:TypeId×Value->H) (P:Program) (W:World) (held:Bool):List Lf->List Value->Nat->Prop
 | nil (T:Nat):fl a_ P W held [] [] T
 | cons {l:Lf} {ls:List Lf} {v:Value} {r:List Value} {w T T':Nat} (h:Nj a_ P W held l v w) (k:fl a_ P W held ls r T) (e:w+T<=T'):fl a_ P W held (l::ls) (v::r) T'
variable {c:List Value} {w:Nat} {a:List Lf}
theorem fl.mono {T:Nat} (h:fl a_ P W held a c w) (b:w<=T):fl a_ P W held a c T:=by
 cases h with
 | nil=>exact .nil T
 | cons h k e=>exact .cons h k ω
theorem fl.app {b:List Lf} {d:List Value} {T:Nat} (h:fl a_ P W held a c w) (k:fl a_ P W held b d T):fl a_ P W held (a++b) (c++d) (w+T):=by
 induction h with
 | nil w=>exact k.mono ω
 | cons h _ e f=>exact .cons h f ω
theorem fl.len (h:fl a_ P W held a c w):a.length=c.length:=by
 induction h with
 | nil=>rfl
 | cons _ _ _ b=>simp[b]
theorem fl.aM {l:Lf} (h:fl a_ P W held (l::a) c w):∃v r S T,c=v::r/\Nj a_ P W held l v S/\fl a_ P W held a r T/\S+T<=w:=by
 cases h with
 | cons h k e=>exact⟨_,_,_,_,rfl,h,k,e⟩
def fl.jA (h:fl a_ P W held [] c w):c=[]:=by cases h;rfl
def fl.one {l:Lf} {v:Value} (h:Nj a_ P W held l v w):fl a_ P W held [l] [v] w:=.cons h (.nil 0) ω
theorem Kw {g:TypeId->Option (List Lf)} {cs:List Value} (c:∀t l b m x,g t=some l->Pf a_ P W held m t b=some x->fl a_ P W held l b (Rows.uptoBulk x.1)):
  ∀(a:List Field) (xs:List (DataW H×List MemPlace)) (o:Nat) (l:List Lf),Ni P g a o=some l->xs.length=a.length->
   (∀(i:Nat) f x,a[i]?=some f->xs[i]?=some x->∃m,Pf a_ P W held m f.type ((cs.drop f.offset).take (P.cellsOf f.type))=some x)->
   fl a_ P W held l ((cs.drop o).take l.length) (xs.map λx=>Rows.uptoBulk x.1).sum
 | [],xs,o,l,h,_,_=>by cases h;simpa using fl.nil _
 | f::a,[],o,l,h,hl,_=>by simp at hl
 | f::a,x::xs,o,l,h,hlx,hx=>by
  unfold Ni at h;cases e:g f.type with
  | none=>rw[e] at h;cases h
  | some n=>
   rw[e] at h;simp only at h;split at h
   ·rename_i j
    obtain⟨k,hl⟩:=j;cases e2:Ni P g a (o+n.length) with
    | none=>rw[e2] at h;cases h
    | some s=>
     rw[e2] at h;cases h;obtain⟨m,h1⟩:=hx 0 f x rfl rfl;rw[k,<-hl] at h1;have k1:=c _ _ _ _ _ e h1;have k2:=Kw c a xs _ _ e2 (by simpa using hlx) λi d r q p=>hx (i+1) d r (by simpa using q) (by simpa using p)
     rw[Zab,ZdW,ZbZ,Zbl,Zco];exact k1.app k2
   ·cases h
theorem Ej {l:List Lf} {cs:List Value}:∀(xs:List (DataW H×List MemPlace)) (o:Nat),(∀i x,xs[i]?=some x->fl a_ P W held l ((cs.drop (o+i*l.length)).take l.length) (Rows.uptoBulk x.1))->
  fl a_ P W held (Kv l xs.length) ((cs.drop o).take (xs.length*l.length)) (xs.map λx=>Rows.uptoBulk x.1).sum
 | [],o,_=>by simpa [Kv] using fl.nil _
 | x::xs,o,h=>by
  have h0:=h 0 x rfl;rw[ZbS,Zbn] at h0;have h1:=Ej xs (o+l.length) λi a hi=>by
   have:=h (i+1) a (by simpa using hi);rw[show o+(i+1)*l.length=o+l.length+i*l.length by rw[ZbL];omega] at this;exact this
  rw[Zae,ZbL,Nat.one_mul,Zc1 (xs.length*l.length),ZdW,ZbZ,Zbl,Zco];exact h0.app h1
def xI {xs:List (DataW H×List MemPlace)}:(xs.map λx=>Rows.uptoBulk x.1).sum<=Rows.uptoBulk (DataW.agg (xs.map (·.1))):=by
 simp only[Rows.uptoBulk,uC,Zdq];exact ZcR _
theorem pe:∀(n:Nat) (t:TypeId) (u:List Lf) (cs:List Value) (m:Nat) (x:DataW H×List MemPlace),lvs P n t=some u->Pf a_ P W held m t cs=some x->fl a_ P W held u cs (Rows.uptoBulk x.1)
 | 0,t,u,cs,m,x,h,_=>by cases h
 | n+1,t,u,cs,m,x,h,c=>by
  unfold lvs at h;cases hu:P.underlying t with
  | none=>rw[hu] at h;cases h
  | some d=>
   rw[hu] at h;cases d<;>simp only at h<;>(try (cases h;done))
   case bool=>
    cases h;obtain⟨b,rfl,_⟩:=DataW.trod_bool hu c;have:fl a_ P W held [.bool] [.bool b] 0:=.one ⟨b,rfl⟩;exact this.mono (Zaj _)
   case int k=>
    cases h;obtain⟨v,rfl,rfl,hw⟩:=DataW.trod_int hu c;exact .one ⟨v,rfl,hw,by simp[Rows.uptoBulk]⟩
   case string=>
    cases h;obtain⟨s,rfl,rfl,hs⟩:=DataW.trod_string hu c;refine .one ⟨s,rfl,hs,?_⟩;simp only[Rows.uptoBulk];exact ZcR _
   case slice e=>
    cases h;rcases Go.Deep.open_slice hu c with⟨rfl,_⟩ | ⟨a,len,cap,q,G,D,I,rfl,_,hl,F,r,rfl,C⟩
    ·exact .one (.inl rfl)
    ·simp only[Zbv] at r;subst r;refine .one (.inr ⟨a,len,q,G,rfl,hl,F,D,?_,λi hi=>?_⟩)
     ·simp only[Rows.uptoBulk,uC,Zdq];show((List.range len).map (Rows.uptoBulk∘D)).sum<=_
      omega
     ·obtain⟨j,h1,o⟩:=C i ω;exact⟨j,_,h1,o⟩
   case array q e=>
    cases hl:lvs P n e with
    | none=>rw[hl] at h;cases h
    | some l=>
     rw[hl] at h;simp only at h;split at h
     ·rename_i A
      cases h;obtain⟨xs,B,_,rfl,h1,o,w⟩:=DataW.trod_array hu c;subst o;have:=Ej (a_:=a_) (P:=P) (W:=W) (held:=held) (l:=l) (cs:=cs) xs 0 λi x hi=>by
       have y:i<xs.length:=(Zam.1 hi).1;have p:=w i y;rw[hi] at p;rw[Za6,A.1];exact pe n e l _ _ _ hl p
      rw[ZbQ,ZaA ω] at this;exact this.mono xI
     ·cases h
   case struct z=>
    cases hl:Ni P (lvs P n) z.toList 0 with
    | none=>rw[hl] at h;cases h
    | some l=>
     rw[hl] at h;simp only at h;split at h
     ·rename_i A
      cases h;obtain⟨xs,B,_,rfl,h1,o,w⟩:=DataW.trod_struct hu c;have:=Kw (a_:=a_) (P:=P) (W:=W) (held:=held) (g:=lvs P n) (cs:=cs) (λt l j m x=>pe n t l j m x) z.toList xs 0 u hl (by simpa using o) λi f x E c=>by
       have p:=w i f (by simpa using E);rw[c] at p;exact⟨B,p⟩
      rw[ZbQ,ZaA ω] at this;exact this.mono xI
     ·cases h
end
def kO (v:Value):Option (AV D.E):=match v with
 | .int k n=>bif fK k n then some (.int k n) else none
 | .bool b=>some (.bool b)
 | .string s=>if s.data.toList.length<=9223372036854775807 then some (.str s.data.toList) else none
 | _=>none
noncomputable def lV (W:World):Pm D:=⟨λ_=>none,λb o=>(W.cell? ⟨b,o,none⟩).bind kO⟩
def RE {M:Pm D} {v:Value} {u:AV D.E} (h:kO v=some u):mq u/\VR M u v:=by
 cases v<;>simp only[kO] at h<;>(try (cases h;done))
 case bool b=>cases h;exact⟨rfl,.bool b⟩
 case int k n=>
  cases a:fK k n with
  | false=>rw[a] at h;cases h
  | true=>rw[a] at h;cases h;exact⟨rfl,.int a⟩
 case string s=>
  split at h
  ·rename_i hs;cases h;exact⟨rfl,.str hs⟩
  ·cases h
theorem Nk (W:World) (f:D.ng<=W.heap.size) (d:D.gw W):ee (lV W) (λ_=>none) W:=by
 refine⟨λb o h=>(nomatch h),λb i o j a g h=>(nomatch h),λb o v h=>?_,λb o a h=>(nomatch h),λb c xs e a h=>(nomatch h),⟨f,d⟩,λb o a h=>(nomatch h)⟩;have h:(W.cell? ⟨b,o,none⟩).bind kO=some v:=h;cases e:W.cell? ⟨b,o,none⟩ with
 | none=>rw[e] at h;cases h
 | some u=>
  rw[e] at h;have:=RE (M:=lV W) h;grind
end sx
namespace sx
open Go Go.RowKit
variable {a b:Int} {u:Nat}
theorem fm {a b:Int}:aG a b↔a<=b:=by simp[aG]
def RF {a b:Int}:aG a b=false↔b<a:=by simp[aG]
theorem dA {a b:Int}:aw a b↔a<b:=by simp[aw]
theorem hU {a b:Int}:aw a b=false↔b<=a:=by simp[aw]
def oo {a b:Int}:aB a b↔a=b:=by simp[aB]
def oq {a b:Int}:aB a b=false↔a≠b:=by simp[aB]
def xJ {a b:By}:seq a b↔a=b:=by simp[seq]
theorem br:bJ a u↔a*u<=140737488355328:=by simp[bJ]
theorem sq:fK .i64 a↔-9223372036854775808<=a/\a<=9223372036854775807:=by rw[cL];simp only[De,s9]
theorem RG:fK .u64 a↔0<=a/\a<=18446744073709551615:=by rw[cL];simp only[De,s9]
theorem ba (h1: -9223372036854775808<=a+b) (c:a+b<=9223372036854775807):ay .i64 a b=a+b:=dG (sq.2 ⟨h1,c⟩)
theorem jQ (h1: -9223372036854775808<=a-b) (c:a-b<=9223372036854775807):cx .i64 a b=a-b:=dG (sq.2 ⟨h1,c⟩)
theorem Nl (h1:0<=a) (b:a<=18446744073709551615):jP .u64 a=a:=dG (RG.2 ⟨h1,b⟩)
theorem RH (h1:0<=a*b) (c:a*b<=18446744073709551615):gG .u64 a b=a*b:=dG (RG.2 ⟨h1,c⟩)
theorem au {α:Type} (l:List α):ag l=(l.length:Int):=rfl
theorem aT {α:Type} (a b:List α):bM a b=a++b:=rfl
theorem Qg9 (n:Int):imax n 0=(n.toNat:Int):=by unfold imax;split<;>omega
theorem RI {j:Nat} (a:u<18446744073709551616) (b:j<=8):oC .u64 (u:Int) (gG .u64 8 (jP .u64 (j:Int)))=((u / 256 ^ j:Nat):Int):=by
 rw[Nl ω ω,RH ω ω];unfold oC;have e:((8:Int)*(j:Int)).toNat=8*j:=ω;rw[e,Zbj (by show 8*j<=64;omega),show(256:Nat) ^ j=2 ^ (8*j) by rw[Nat.pow_mul]];simp
theorem xK (h1: -9223372036854775808<=a*b) (c:a*b<=9223372036854775807):gG .i64 a b=a*b:=dG (sq.2 ⟨h1,c⟩)
def RJ {j:Nat} (a:j<=8):oC .i64 (u:Int) (8*(j:Int))=((u / 256 ^ j:Nat):Int):=by
 unfold oC;have e:((8:Int)*(j:Int)).toNat=8*j:=ω;rw[e,Zbj (by show 8*j<=64;omega),show(256:Nat) ^ j=2 ^ (8*j) by rw[Nat.pow_mul]];simp
theorem ib (s:By):dD s=(s.length:Int):=rfl
theorem b8U:b8 (jP .u8 (u:Int))=UInt8.ofNat u:=by
 unfold b8 jP;apply UInt8.toNat_inj.1;rw[UInt8.toNat_ofNat',UInt8.toNat_ofNat'];simp only[IntKind.wrap,IntKind.bits,IntKind.signed];simp;omega
end sx
set_option maxRecDepth 100000
set_option maxHeartbeats 4000000
namespace sx
noncomputable section
open Go Go.RowKit cls syn
variable {u:Nat}
def nb (u:Nat):Nat:=if h:u=0 then 0 else nb (u / 256)+1
def dn (u j k:Nat):By:=((List.range' j (k-j)).reverse).map λi=>UInt8.ofNat (u / 256 ^ i)
def nN (b:By) (u j:Nat):By:=b++(UInt8.ofNat (nb u)::dn u j (nb u))
def a7 (b:By) (n:Int):By:=nN b (min n.toNat 9223372036854775807) 0
def RK (n:Int):Int:=(n.toNat:Int)
def nO:bh D where
 f:=82
 Y:=By×Int
 oM:=Qef
 pre:=λy=>y.1.length<=1073741824/\0<=y.2/\y.2<=1073741824
 args:=λy=>[.list 0 y.1,.int .i64 y.2]
 heap:=λ_=>[]
 res:=λy=>.grow 0 y.1 0
 dy:=λ_=>[(0,.tok 0 5)]
 jY:=0
 oS:=1
def RL (_:nO.Y):cH D:=⟨[],[],[],[],1,[]⟩
def Qeh (y:nO.Y):Prop:=lI [] f82 nO RL y
def gb:bh D where
 f:=33
 Y:=By×Int
 oM:=Qef
 pre:=λy=>y.1.length<=1073741824
 args:=λy=>[.list 0 y.1,.int .i64 y.2]
 heap:=λ_=>[]
 res:=λy=>.grow 0 (a7 y.1 y.2) 0
 dy:=λ_=>[(0,.tok 0 5)]
 jY:=0
 oS:=1
def QbP (y:gb.Y):cH D:=⟨[(0,.fact 1)],[],
  [(124,⟨Nat,[5,6],λk=>[(7,Qvo k)],[0],λ_=>[],1,λk=>k<=nb y.2.toNat,λk=>8-k⟩),
   (1018,⟨Nat,[6],λx=>[(5,.grow 0 (nN y.1 y.2.toNat x) 0),(8,Qvo ((x:Int) -1))],[],λ_=>[(0,.tok 0 5)],1,λx=>x<=nb y.2.toNat,λx=>x⟩)],
  [(31,⟨Unit,[5,6],λ_=>[(7,Qvo (nb y.2.toNat))],[0],λ_=>[],1,λ_=>True,λ_=>0⟩)],1,[]⟩
def Qha (y:gb.Y):Prop:=lI [nO] f33 gb QbP y
def iz:bh D where
 f:=37
 Y:=By×Int
 oM:=Qef
 pre:=λy=>y.1.length<=1073741824
 args:=λy=>[.list 0 y.1,.int .i64 y.2]
 heap:=λ_=>[]
 res:=λy=>.grow 0 (a7 y.1 y.2) 0
 dy:=λ_=>[(0,.tok 0 5)]
 jY:=0
 oS:=1
def QbQ (y:iz.Y):cH D:=⟨[(0,.fact 1)],[],
  [(250,⟨Nat,[1,5],λk=>[(6,Qvo k),(7,Qvo ((y.2.toNat / 256 ^ k:Nat):Int))],[1],λ_=>[],2,λk=>k<=nb y.2.toNat,λk=>nb y.2.toNat-k⟩),
   (1018,⟨Nat,[1],λx=>[(5,.grow 0 (nN y.1 y.2.toNat x) 0),(8,Qvo ((x:Int) -1))],[],λ_=>[(0,.tok 0 5)],1,λx=>x<=nb y.2.toNat,λx=>x⟩)],
  [(7,⟨Unit,[5],λ_=>[(1,Qvo (RK y.2))],[1],λ_=>[],2,λ_=>True,λ_=>0⟩)],1,[]⟩
def Qhb (y:iz.Y):Prop:=lI [] f37 iz QbQ y
def QnL (args:List (AV D.E)) (s:St D.E):C (By×By):=match args with
 | [a,b]=>az (aL D s 0 a) λl=>az (fY b) λr=>.ret ((l:By),r)
 | _=>.fail
def gf (b s:By):By:=a7 b s.length++s
def qN:bh D where
 f:=136
 Y:=By×By
 oM:=QnL
 pre:=λy=>y.1.length<=536870912/\y.2.length<=536870912
 args:=λy=>[.list 0 y.1,.str y.2]
 heap:=λ_=>[]
 res:=λy=>.grow 0 (gf y.1 y.2) 0
 dy:=λ_=>[(0,.tok 0 5)]
 jY:=0
 oS:=1
def QbS (_:qN.Y):cH D:=⟨[],[],[],[],1,[]⟩
def Qhd (y:qN.Y):Prop:=lI [nO,gb] f136 qN QbS y
def pf:bh D:={ qN with f:=142 }
def RN (_:pf.Y):cH D:=⟨[],[],[],[],1,[]⟩
def Qej (y:pf.Y):Prop:=lI [iz] f142 pf RN y
def Kx (y:Prod (List UInt8) Int):Prop:=let a:=bM ([]:List UInt8) y.1;let q1:=ay .i64 (ag y.1) y.2;((aG (0:Int) (0:Int)))/\((aG (0:Int) q1))/\((bJ q1 1))/\((bJ (ag a) 1))/\(a=y.1)/\True
def Nn:∀y,Kx y=Qeh y:=λy=>by kernel_rfl
def RO (y:Prod (List UInt8) Int):Prop:=let a:=Int.toNat y.2;let q1:=jP .u64 (imax y.2 (0:Int));let c:=bM y.1 ((b8 (jP .u8 ((nb a:Nat):Int)))::([]:List UInt8));((fK .i64 y.2))->(Iv (((List.length y.1:Nat)<=1073741824)/\(((0:Int):Int)<=(9:Int))/\((9:Int):Int)<=(1073741824:Int)))/\aa [y.1] (aa ([(9:Int)]:List Int) (((∃z:Nat,aa [y.1] (aa [q1] (((0:Int)=((z:Nat):Int))/\(Iv ((z:Nat)<=(nb a))))))/\(∀x:Nat,let d:=aw ((x:Nat):Int) (8:Int);let e:=gG .u64 (8:Int) (jP .u64 ((x:Nat):Int));let f:=aw (0:Int) (oC .u64 q1 e);(Iv ((x:Nat)<=(nb a)))->((d)->((aG (0:Int) e))/\((aG (0:Int) q1))/\((f)->∃z:Nat,aa [y.1] (aa [q1] (((ay .i64 ((x:Nat):Int) (1:Int))=((z:Nat):Int))/\(Iv (((z:Nat)<=(nb a))/\((8:Nat) -z:Nat)<((8:Nat) -x))))))/\((f=false)->∃z:Unit,aa [y.1] (aa [q1] ((((x:Nat):Int)=((nb a:Nat):Int))/\(Iv True)))))/\((d=false)->∃z:Unit,aa [y.1] (aa [q1] ((((x:Nat):Int)=((nb a:Nat):Int))/\(Iv True))))))/\(∀x:Unit,(Iv True)->((bJ (ag c) 1))/\(∃z:Nat,aa [q1] ((c=(nN y.1 a z))/\((cx .i64 ((nb a:Nat):Int) (1:Int))=((((z:Nat):Int):Int) -(1:Int)))/\(Iv ((z:Nat)<=(nb a)))))/\(∀b:Nat,let g:=nN y.1 a b;let h:=aG (0:Int) ((((b:Nat):Int):Int) -(1:Int));let i:=gG .u64 (8:Int) (jP .u64 ((((b:Nat):Int):Int) -(1:Int)));let j:=bM g ((b8 (jP .u8 (oC .u64 q1 i)))::([]:List UInt8));(Iv ((b:Nat)<=(nb a)))->((h)->((aG (0:Int) i))/\((aG (0:Int) q1))/\((bJ (ag j) 1))/\∃z:Nat,aa [q1] ((j=(nN y.1 a z))/\((cx .i64 ((((b:Nat):Int):Int) -(1:Int)) (1:Int))=((((z:Nat):Int):Int) -(1:Int)))/\(Iv (((z:Nat)<=(nb a))/\(z:Nat)<b))))/\((h=false)->(g=(a7 y.1 y.2))/\True)))))
def RP:∀y,RO y=Qha y:=λy=>by kernel_rfl
def RQ (y:Prod (List UInt8) Int):Prop:=let a:=Int.toNat y.2;let q1:=bM ([]:List UInt8) y.1;let d:=aw y.2 (0:Int);((fK .i64 y.2))->((bJ (ag q1) 1))/\(((d)->∃z:Unit,aa [q1] (((0:Int)=(RK y.2))/\(Iv True)))/\((d=false)->∃z:Unit,aa [q1] ((y.2=(RK y.2))/\(Iv True))))/\(∀x:Unit,(Iv True)->(∃z:Nat,aa [RK y.2] (aa [q1] (((0:Int)=((z:Nat):Int))/\((RK y.2)=(((a:Nat) / ((256:Nat) ^ z):Nat):Int))/\(Iv ((z:Nat)<=(nb a))))))/\(∀b:Nat,let e:=bM q1 ((b8 (jP .u8 ((b:Nat):Int)))::([]:List UInt8));let f:=aw (0:Int) (((a:Nat) / ((256:Nat) ^ b):Nat):Int);(Iv ((b:Nat)<=(nb a)))->((f)->((aG (0:Int) (8:Int)))/\((aG (0:Int) (((a:Nat) / ((256:Nat) ^ b):Nat):Int)))/\∃z:Nat,aa [RK y.2] (aa [q1] (((ay .i64 ((b:Nat):Int) (1:Int))=((z:Nat):Int))/\((oC .i64 (((a:Nat) / ((256:Nat) ^ b):Nat):Int) (8:Int))=(((a:Nat) / ((256:Nat) ^ z):Nat):Int))/\(Iv (((z:Nat)<=(nb a))/\((nb a:Nat) -z:Nat)<((nb a:Nat) -b))))))/\((f=false)->((bJ (ag e) 1))/\(∃z:Nat,aa [RK y.2] ((e=(nN y.1 a z))/\((cx .i64 ((b:Nat):Int) (1:Int))=((((z:Nat):Int):Int) -(1:Int)))/\(Iv ((z:Nat)<=(nb a)))))/\(∀c:Nat,let g:=nN y.1 a c;let h:=aG (0:Int) ((((c:Nat):Int):Int) -(1:Int));let i:=gG .i64 (8:Int) ((((c:Nat):Int):Int) -(1:Int));let j:=bM g ((b8 (jP .u8 (oC .i64 (RK y.2) i)))::([]:List UInt8));(Iv ((c:Nat)<=(nb a)))->((h)->((aG (0:Int) i))/\((aG (0:Int) (RK y.2)))/\((bJ (ag j) 1))/\∃z:Nat,aa [RK y.2] ((j=(nN y.1 a z))/\((cx .i64 ((((c:Nat):Int):Int) -(1:Int)) (1:Int))=((((z:Nat):Int):Int) -(1:Int)))/\(Iv (((z:Nat)<=(nb a))/\(z:Nat)<c))))/\((h=false)->(g=(a7 y.1 y.2))/\True)))))
def RR:∀y,RQ y=Qhb y:=λy=>by kernel_rfl
def RU (y:Prod (List UInt8) (List UInt8)):Prop:=let a:=ay .i64 (9:Int) (dD y.2);let q1:=bM (a7 y.1 (dD y.2)) y.2;(Iv (((List.length y.1:Nat)<=1073741824)/\(((0:Int):Int)<=a)/\(a:Int)<=(1073741824:Int)))/\aa [y.1] (aa [a] ((Iv ((List.length y.1:Nat)<=1073741824))/\aa [y.1] (aa [dD y.2] (((bJ (ag q1) 1))/\(q1=(gf y.1 y.2))/\True))))
def RV:∀y,RU y=Qhd y:=λy=>by kernel_rfl
def Kz (y:Prod (List UInt8) (List UInt8)):Prop:=let a:=bM (a7 y.1 (dD y.2)) y.2;(Iv ((List.length y.1:Nat)<=1073741824))/\aa [y.1] (aa [dD y.2] (((bJ (ag a) 1))/\(a=(gf y.1 y.2))/\True))
def Np:∀y,Kz y=Qej y:=λy=>by kernel_rfl
theorem KC:nb 0=0:=by rw[nb];rfl
theorem RW (h:u≠0):nb u=nb (u / 256)+1:=by rw[nb,dif_neg h]
theorem uD:∀(x u:Nat),x<nb u↔0<u / 256 ^ x
 | 0,u=>by
  grind [KC,RW]
 | x+1,u=>by
  by_cases h:u=0
  ·subst h;rw[KC];simp
  ·rw[RW h,Nat.pow_succ,Zb9,<-Nat.div_div_eq_div_mul,<-uD x (u / 256)];omega
theorem RX (h:u<18446744073709551616):nb u<=8:=by
 grind [uD]
theorem KD {j k:Nat} (h:j<k):dn u j k=dn u (j+1) k++[UInt8.ofNat (u / 256 ^ j)]:=by
 unfold dn;rw[show k-j=(k-(j+1))+1 by omega,List.range'_succ];simp
theorem KE (u k:Nat):dn u k k=[]:=by unfold dn;simp
theorem Qek (u j k:Nat):(dn u j k).length=k-j:=by unfold dn;simp
theorem xL (b:By) (u j:Nat):(nN b u j).length=b.length+1+(nb u-j):=by grind [nN,Qek]
theorem Qel (y:By×Int) (a:nO.pre y):Kx y:=by
 obtain⟨h1,b,c⟩:y.1.length<=1073741824/\0<=y.2/\y.2<=1073741824:=a;have e:ay IntKind.i64 (ag y.1) y.2=↑y.1.length+y.2:=ba (by rw[au];omega) (by grind [au]);refine⟨rfl,?_,?_,?_,?_,trivial⟩
 ·grind [fm]
 ·grind [br]
 ·grind [aT,au,br]
 ·rfl
theorem KG:Ok nO:=nM (tab:=[]) (fn:=f82) (fI:=RL) (by simp) (by kernel_rfl) (by kernel_rfl) (λ_=>ZcY (by kernel_rfl)) λy a=>Eq.mp (Nn y) (Qel y a)
theorem Qhe (y:By×Int) (g:gb.pre y):RO y:=by
 have h1:y.1.length<=1073741824:=g;intro d;rw[sq] at d;have hu:y.2.toNat<9223372036854775808:=ω;have e:jP IntKind.u64 (imax y.2 (0:Int))=↑y.2.toNat:=by grind [Qg9,Nl]
 have hk:=RX (u:=y.2.toNat) ω;refine⟨⟨h1,ω,ω⟩,rfl,rfl,⟨⟨0,rfl,rfl,rfl,⟨Zaj _⟩⟩,λx b=>?_⟩,λ_ _=>⟨?_,⟨nb y.2.toNat,rfl,?_,?_,⟨Zah _⟩⟩,λx b=>?_⟩⟩
 ·have b:=b.out;refine⟨λa=>⟨?_,?_,λc=>⟨x+1,rfl,rfl,?_,?_,?_⟩,λc=>⟨(),rfl,rfl,?_,⟨trivial⟩⟩⟩,λa=>⟨(),rfl,rfl,?_,⟨trivial⟩⟩⟩
  ·rfl
  ·grind [fm]
  ·grind [ba]
  ·rw[e,RI ω ω,dA] at c;have:=(uD x y.2.toNat).2 ω;omega
  ·grind [dA]
  ·rw[e,RI ω ω,hU] at c;have:¬x<nb y.2.toNat:=λf=>by
    grind [uD]
   omega
  ·grind [hU]
 ·grind [aT,au,br]
 ·grind [aT,b8U,nN,KE]
 ·grind [jQ]
 ·have b:=b.out;refine⟨λa=>?_,λa=>⟨?_,trivial⟩⟩
  ·rw[fm] at a;refine⟨?_,?_,?_,x-1,rfl,?_,?_,?_,?_⟩
   ·grind [Nl,RH,fm]
   ·grind [fm]
   ·grind [aT,au,br,xL]
   ·grind [RI,b8U,aT,nN,KD]
   ·grind [jQ]
   ·omega
   ·omega
  ·rw[RF] at a;have:x=0:=ω;subst this;show nN y.1 y.2.toNat 0=nN y.1 (min y.2.toNat 9223372036854775807) 0
   grind
theorem kQ:Ok gb:=nM (tab:=[nO]) (fn:=f33) (fI:=QbP) (by grind [KG]) (by kernel_rfl) (by kernel_rfl) (λ_=>ZcY (by kernel_rfl)) λy a=>Eq.mp (RP y) (Qhe y a)
theorem Qhf (y:By×Int) (i:iz.pre y):RQ y:=by
 have h1:y.1.length<=1073741824:=i;intro d;rw[sq] at d;have hk:=RX (u:=y.2.toNat) ω;have g:RK y.2=↑y.2.toNat:=rfl;refine⟨?_,⟨λa=>⟨(),rfl,?_,⟨trivial⟩⟩,λa=>⟨(),rfl,?_,⟨trivial⟩⟩⟩,λ_ _=>⟨⟨0,rfl,rfl,rfl,?_,⟨Zaj _⟩⟩,λx b=>⟨λa=>⟨rfl,?_,x+1,rfl,rfl,?_,?_,?_,?_⟩,λa=>⟨?_,⟨nb y.2.toNat,rfl,?_,?_,⟨Zah _⟩⟩,λz hz=>⟨λc=>?_,λc=>⟨?_,trivial⟩⟩⟩⟩⟩⟩
 ·grind [aT,au,br]
 ·grind [dA]
 ·grind [hU]
 ·omega
 ·rfl
 ·have:=b.out;grind [ba]
 ·have e:=RJ (u:=y.2.toNat / 256 ^ x) (j:=1) ω;rw[show(8:Int)*((1:Nat):Int)=8 by rfl] at e;rw[e,Nat.div_div_eq_div_mul,<-Nat.pow_succ]
 ·rw[dA] at a;have:=(uD x y.2.toNat).2 ω;omega
 ·rw[dA] at a;have:=(uD x y.2.toNat).2 ω;omega
 ·grind [aT,au,br]
 ·have b:=b.out;rw[hU] at a;have h:¬x<nb y.2.toNat:=λf=>by
   grind [uD]
  grind [aT,b8U,nN,KE]
 ·have b:=b.out;rw[hU] at a;have h:¬x<nb y.2.toNat:=λf=>by
   grind [uD]
  grind [jQ]
 ·have hz:=hz.out;rw[fm] at c;have ex:((z:Int) -1)=((z-1:Nat):Int):=ω;have em:gG .i64 8 ((z-1:Nat):Int)=8*((z-1:Nat):Int):=xK ω ω;refine⟨?_,?_,?_,z-1,rfl,?_,?_,?_,?_⟩
  ·grind [fm]
  ·rfl
  ·grind [aT,au,br,xL]
  ·rw[g,ex,em,RJ ω,b8U,aT];grind [nN,KD]
  ·grind [jQ]
  ·omega
  ·omega
 ·rw[RF] at c;have:z=0:=ω;subst this;show nN y.1 y.2.toNat 0=nN y.1 (min y.2.toNat 9223372036854775807) 0
  grind
theorem nP:Ok iz:=nM (tab:=[]) (fn:=f37) (fI:=QbQ) (by simp) (by kernel_rfl) (by kernel_rfl) (λ_=>ZcY (by kernel_rfl)) λy a=>Eq.mp (RR y) (Qhf y a)
theorem bX (b:By) (n:Int):(a7 b n).length<=b.length+9:=by
 grind [RX,a7,xL]
theorem Qhh (y:By×By) (a:qN.pre y):RU y:=by
 obtain⟨h1,b⟩:y.1.length<=536870912/\y.2.length<=536870912:=a;have e:ay IntKind.i64 (9:Int) (dD y.2)=9+↑y.2.length:=ba (by rw[ib];omega) (by rw[ib];omega);have hl:=bX y.1 ↑y.2.length;refine⟨⟨ω,ω,ω⟩,rfl,rfl,⟨ω⟩,rfl,rfl,?_,rfl,trivial⟩;grind [aT,au,ib,br]
theorem GY:Ok qN:=nM (tab:=[nO,gb]) (fn:=f136) (fI:=QbS) (by grind [KG,kQ]) (by kernel_rfl) (by kernel_rfl) (λ_=>ZcY (by kernel_rfl)) λy a=>Eq.mp (RV y) (Qhh y a)
theorem Qen (y:By×By) (a:pf.pre y):Kz y:=by
 obtain⟨h1,b⟩:y.1.length<=536870912/\y.2.length<=536870912:=a;have hl:=bX y.1 ↑y.2.length;refine⟨⟨ω⟩,rfl,rfl,?_,rfl,trivial⟩;grind [aT,au,ib,br]
theorem KH:Ok pf:=nM (tab:=[iz]) (fn:=f142) (fI:=RN) (by grind [nP]) (by kernel_rfl) (by kernel_rfl) (λ_=>ZcY (by kernel_rfl)) λy a=>Eq.mp (Np y) (Qen y a)
structure dM where
 held:By
 aI:Int
 lists:List dd
structure bd where
 at_:Int
 bN:Int
 ch:Bool
 opened:Bool
 bj:Int
 size:Int
 aS:List dd
 a8:dM
 aH:dM
 aZ:dM
def QnQ (x:dM):List (AV D.E):=[.list 0 x.held,.int .i64 x.aI,.list 2 x.lists]
def Qhu (x:bd):List (AV D.E):=[.int .i64 x.at_,.int .i64 x.bN,.bool x.ch,.bool x.opened,.int .i64 x.bj,.int .i64 x.size,.list 2 x.aS,
 .list 0 x.a8.held,.int .i64 x.a8.aI,.list 2 x.a8.lists,.list 0 x.aH.held,.int .i64 x.aH.aI,.list 2 x.aH.lists,.list 0 x.aZ.held,.int .i64 x.aZ.aI,.list 2 x.aZ.lists]
end
end sx
namespace sx
open Go Go.RowKit
variable {k:IntKind} {x:Int} {m:Nat}
def YD (k:IntKind):s9 k<(uT k:Int):=by cases k<;>decide
theorem Se (k:IntKind):De k<=0:=by cases k<;>decide
def vY (h:(m:Int)<=s9 k):Dk k (m:Int)=m:=by
 have:=YD k;show Nat.mod m (uT k)=m
 exact Zdr ω
theorem Em (h:(m:Int)<=s9 k):k.wrap (m:Int)=m:=dG (cL.2 ⟨by grind [Se],h⟩)
def KJ {n:Nat} (a:(m:Int)<=s9 k) (b:((2 ^ n-1:Nat):Int)<=s9 k):lF k (m:Int) ((2 ^ n-1:Nat):Int)=((m % 2 ^ n:Nat):Int):=by
 unfold lF;rw[vY a,vY b];have e:Nat.land m (2 ^ n-1)=m % 2 ^ n:=Nat.and_two_pow_sub_one_eq_mod m n;rw[e];exact Em (m:=m % 2 ^ n) ω
def Sf (h0:0<=x) (h1:x<=s9 k):lF k x 63=x % 64:=by
 obtain⟨m,rfl⟩:=Zau h0;exact(KJ (n:=6) h1 (by cases k<;>decide)).trans (by simp)
def Sg (h0:0<=x) (h1:x<=s9 k):lF k x 31=x % 32:=by
 obtain⟨m,rfl⟩:=Zau h0;exact(KJ (n:=5) h1 (by cases k<;>decide)).trans (by simp)
def Sh (h0:0<=x) (h1:x<=s9 k):lF k x 15=x % 16:=by
 obtain⟨m,rfl⟩:=Zau h0;exact(KJ (n:=4) h1 (by cases k<;>decide)).trans (by simp)
def Qb1 (h0:0<=x) (h1:x<=s9 k):lF k x 7=x % 8:=by
 obtain⟨m,rfl⟩:=Zau h0;exact(KJ (n:=3) h1 (by cases k<;>decide)).trans (by simp)
def QhI {a b n:Nat} (c:b<2 ^ n) (h:((2 ^ n*a+b:Nat):Int)<=s9 k):FZ k ((2 ^ n*a:Nat):Int) (b:Int)=((2 ^ n*a+b:Nat):Int):=by
 unfold FZ;rw[vY ω,vY ω];have e:Nat.lor (2 ^ n*a) b=2 ^ n*a+b:=(Nat.two_pow_add_eq_or_of_lt c a).symm;rw[e];exact Em h
def Qb2 (a:m<=k.bits) (h0:0<=x) (h1:x*2 ^ m<=s9 k):oO k x (m:Int)=x*2 ^ m:=by
 unfold oO;rw[Zad,Zbj a];exact dG (cL.2 ⟨by have:=Se k;have:=Int.mul_nonneg h0 (show(0:Int)<=2 ^ m from ZdZ (Int.pow_pos (by decide)));omega,h1⟩)
theorem six {b:Int} (h0:0<=x) (h1:x<33554432) (d:0<=b) (b1:b<64):FZ .i32 (oO .i32 x 6) b=x*64+b:=by
 have e:oO .i32 x ((6:Nat):Int)=x*2 ^ 6:=Qb2 (by decide) h0 (by show x*2 ^ 6<=2147483647;omega);rw[show(6:Int)=((6:Nat):Int) from rfl,e];obtain⟨m,rfl⟩:=Zau h0;obtain⟨c,rfl⟩:=Zau d;have:=QhI (k:=.i32) (a:=m) (b:=c) (n:=6) ω (by show _<=(2147483647:Int);omega);grind
def vZ (h0:De k<=x) (h1:x<=s9 k):jP k x=x:=dG (cL.2 ⟨h0,h1⟩)
attribute [grind=] ba jQ xK au aT ib dw QbO pd
@[grind=] theorem QuI (a b:Int):aw a b=decide (a<b):=rfl
@[grind=] theorem QhJ (a b:Int):aG a b=decide (a<=b):=rfl
@[grind=] theorem uG (a b:Int):aB a b=decide (a=b):=rfl
@[grind=] theorem QnU (a:Int) (n:Nat):bJ a n=decide (a*n<=140737488355328):=rfl
@[grind=] theorem dq {α:Type} (d:α) (l:List α) (n:Nat):gt d l n=l.getD n d:=rfl
@[grind=] theorem QuJ (a b:By):seq a b=decide (a=b):=rfl
@[grind=] theorem kU (p:Prop):Iv p=p:=propext ⟨λh=>h.out,λh=>⟨h⟩⟩
def gz:=And.intro @dw (And.intro @QbO (And.intro @pd Zai))
def bC:=And.intro gz (And.intro @kU Zal)
def bL:=And.intro @oo (And.intro @oq (And.intro @fm (And.intro @RF (And.intro @dA @hU))))
end sx
namespace syn
open Go Go.RowKit cls
variable {l:List UInt8} {i:Nat}
def En {G:List Gt} (h:i<G.length):G[i]?=some (G.getD i (0,0)):=getD_eq h _
theorem kV {m:List Rg} (h:cls.Good m):aU m=m:=Ec h λr=>by
 cases a:bk m r
 ·simp
 ·obtain⟨p,b,h1,c⟩:=(r_ m r).1 a;have:=h.1 p b;grind [gI,uy]
theorem qi {r:Int} (h:fD r):ew r=[(r,r)]:=by
 have b:=(gI r).1 h;refine kV ⟨λp a=>?_,by simp⟩;grind [uy]
def b6 (c:Nat):Int×Nat×Nat:=
 if c<128 then(0,0,0) else if c<194 then(-1,0,0) else if c<224 then(1,128,191) else if c=224 then(2,160,191) else if c=237 then(2,128,159)
 else if c<240 then(2,128,191) else if c=240 then(3,144,191) else if c<244 then(3,128,191) else if c=244 then(3,128,143) else(-1,0,0)
def dx:Nat->Int->Nat->Nat->List UInt8->Option Int
 | 0,r,_,_,_=>some r
 | _+1,_,_,_,[]=>none
 | k+1,r,lo,hi,b::t=>if b.toNat<lo\/hi<b.toNat then none else dx k (r*64+b.toNat % 64) 128 191 t
def start (k:Int) (c:Nat):Int:=if k=0 then c else if k=1 then(c % 32:Nat) else if k=2 then(c % 16:Nat) else(c % 8:Nat)
def cB:List UInt8->Int×Int
 | []=>(0,0)
 | c::t=>if (b6 c.toNat).1<0 then(0,0) else match dx (b6 c.toNat).1.toNat (start (b6 c.toNat).1 c.toNat) (b6 c.toNat).2.1 (b6 c.toNat).2.2 t with
  | some r=>(r,(b6 c.toNat).1+1)
  | none=>(0,0)
def kW (c:Nat):((b6 c).1= -1\/(b6 c).1=0\/(b6 c).1=1\/(b6 c).1=2\/(b6 c).1=3)/\(b6 c).2.1<256/\(b6 c).2.2<256:=by
 unfold b6
 repeat' split
 all_goals simp
theorem uH (x:UInt8) (t:List UInt8) {n:Nat} {k:Int} {lo hi:Nat} (b:x.toNat=n) (a:b6 n=(k,lo,hi)):cB (x::t)=if k<0 then(0,0) else match dx k.toNat (start k n) lo hi t with
  | some r=>(r,k+1)
  | none=>(0,0):=by
 grind [cB]
def iM:Nat->List UInt8->List Gt
 | 0,_=>[]
 | n+1,l=>if l=[] then[] else if (cB l).2=0 then(65533,1)::iM n (l.drop 1) else cB l::iM n (l.drop (cB l).2.toNat)
def bg (l:List UInt8):List Gt:=iM l.length l
theorem q_:∀(k:Nat) (r:Int) (lo hi:Nat) (t:List UInt8) (x:Int),dx k r lo hi t=some x->k<=t.length
 | 0,_,_,_,_,_,_=>Zaj _
 | k+1,r,lo,hi,[],x,h=>by cases h
 | k+1,r,lo,hi,b::t,x,h=>by
  rw[dx] at h;split at h
  ·cases h
  ·have:=q_ k _ _ _ t x h;simp;omega
theorem kX (l:List UInt8):(cB l).2=0\/∃n:Nat,(cB l).2=n/\1<=n/\n<=l.length/\n<=4:=by
 rcases l with _ | ⟨c,t⟩
 ·exact .inl rfl
 ·have d:=(kW c.toNat).1;obtain⟨m,b⟩:∃m,b6 c.toNat=m:=⟨_,rfl⟩;obtain⟨k,lo,hi⟩:=m;rw[uH c t rfl b];rw[b] at d;split
  ·omega
  ·cases a:dx k.toNat (start k c.toNat) lo hi t with
   | none=>exact .inl rfl
   | some r=>
    have:=q_ _ _ _ _ _ _ a;refine .inr ⟨k.toNat+1,?_,?_,?_,?_⟩
    ·grind
    ·omega
    ·grind
    ·omega
theorem mN (n:Nat):iM n []=[]:=by cases n<;>rfl
theorem mP (h:l≠[]) (h0:(cB l).2=0):iM (i+1) l=(65533,1)::iM i (l.drop 1):=by grind [iM]
theorem pj (h:l≠[]) {m:Nat} (h0:(cB l).2=m) (a:1<=m):iM (i+1) l=cB l::iM i (l.drop m):=by
 grind [iM]
theorem rb:∀(n k:Nat) (l:List UInt8),l.length<=n->l.length<=k->iM n l=iM k l
 | 0,k,l,h,_=>by
  grind [mN]
 | n+1,0,l,_,h=>by
  grind [mN]
 | n+1,k+1,l,h,b=>by
  by_cases hl:l=[]
  ·grind [mN]
  ·rcases kX l with h0 | ⟨m,a,h1,c,_⟩
   ·rw[mP hl h0,mP hl h0,rb n k _ (by grind) (by grind)]
   ·rw[pj hl a h1,pj hl a h1,rb n k _ (by grind) (by grind)]
theorem xE {r lo hi x} (h:dx 1 r lo hi l=some x):∃b:Nat,lo<=b/\b<=hi/\x=r*64+(b % 64:Nat):=by
 cases l with
 | nil=>cases h
 | cons b l=>
  grind [dx]
theorem GW {r lo hi x} (h:dx 2 r lo hi l=some x):∃b d:Nat,lo<=b/\b<=hi/\128<=d/\d<=191/\x=(r*64+(b % 64:Nat))*64+(d % 64:Nat):=by
 cases l with
 | nil=>cases h
 | cons b l=>
  rw[dx] at h;split at h
  ·cases h
  ·obtain⟨d,h1,a,c⟩:=xE h;exact⟨b.toNat,d,ω,ω,h1,a,by assumption⟩
theorem Q7 {r lo hi x} (h:dx 3 r lo hi l=some x):∃b d f:Nat,lo<=b/\b<=hi/\128<=d/\d<=191/\128<=f/\f<=191/\x=((r*64+(b % 64:Nat))*64+(d % 64:Nat))*64+(f % 64:Nat):=by
 cases l with
 | nil=>cases h
 | cons b l=>
  rw[dx] at h;split at h
  ·cases h
  ·obtain⟨d,f,h1,a,c,e,g⟩:=GW h;exact⟨b.toNat,d,f,ω,ω,h1,a,c,e,by assumption⟩
def Hd (n:Nat):(n<128/\b6 n=(0,0,0))\/b6 n=(-1,0,0)\/(194<=n/\n<224/\b6 n=(1,128,191))\/(n=224/\b6 n=(2,160,191))\/(n=237/\b6 n=(2,128,159))\/
  (225<=n/\n<240/\n≠237/\b6 n=(2,128,191))\/(n=240/\b6 n=(3,144,191))\/(241<=n/\n<244/\b6 n=(3,128,191))\/(n=244/\b6 n=(3,128,143)):=by
 unfold b6
 repeat' split
 all_goals simp
 all_goals omega
theorem Eo:∀l:List UInt8,(cB l).2≠0->fD (cB l).1
 | [],h=>absurd rfl h
 | c::t,h=>by
  have d:=λ{k:Int} {lo hi:Nat}=>uH c t (n:=c.toNat) (k:=k) (lo:=lo) (hi:=hi) rfl
  rw[gI];rcases Hd c.toNat with⟨h1,a⟩ | a | ⟨h1,b,a⟩ | ⟨h1,a⟩ | ⟨h1,a⟩ | ⟨h1,b,e,a⟩ | ⟨h1,a⟩ | ⟨h1,b,a⟩ | ⟨h1,a⟩
  all_goals grind [dx,start,xE,GW,Q7]
theorem pk:∀(n:Nat) (l:List UInt8),∀g∈iM n l,fD g.1
 | 0,l,g,h=>by cases h
 | n+1,l,g,h=>by
  by_cases hl:l=[]
  ·grind [mN]
  ·rcases kX l with h0 | ⟨m,a,h1,b,c⟩
   ·rw[mP hl h0] at h;rcases Zbf.1 h with rfl | h
    ·decide
    ·exact pk n _ g h
   ·rw[pj hl a h1] at h;rcases Zbf.1 h with rfl | h
    ·grind [Eo]
    ·exact pk n _ g h
theorem xU (h:i<(bg l).length):fD (aK (bg l) i):=
 pk _ _ _ (ZaJ (En h))
theorem KK (l:List UInt8) (i:Nat):0<=aK (bg l) i:=by
 grind [gI,xU,aK]
def s3:aU [(9,10),(13,13),(32,32)]=[(9,10),(13,13),(32,32)]:=kV ⟨by simp[uy],by simp⟩
def w4:aU [(48,57),(65,90),(95,95),(97,122)]=[(48,57),(65,90),(95,95),(97,122)]:=kV ⟨by simp[uy],by simp⟩
theorem He (l:List UInt8):Fx (bg l) where
 one i h:=qi (xU h)
 n:=qi (by decide)
 t:=qi (by decide)
 r:=qi (by decide)
 d:=kV ⟨by simp[uy],by simp⟩
 s:=by rw[s3];rfl
 w:=by rw[w4];rfl
 s0:=by rw[s3];simp
 w0:=by rw[w4];simp
 not l:=by
  show aU (iv 0 (aU (aU l)))=aU (iv 0 (aU l))
  rw[kV (dW l).1]
theorem Hf (l:List UInt8):GN (bg l)=xw (bg l):=Ng (He l)
end syn
set_option maxRecDepth 100000
set_option maxHeartbeats 4000000
namespace sx
noncomputable section
open Go Go.RowKit cls syn
def kY:Nat->Nat->Nat->By->Bool
 | 0,_,_,_=>false
 | _+1,_,_,[]=>true
 | k+1,lo,hi,b::t=>if b.toNat<lo\/hi<b.toNat then false else kY k 128 191 t
def mo (y:By):Int×Nat×Nat:=b6 (y.getD 0 0).toNat
def ji (y:By):Bool:=decide (y≠[])&&decide (0<=(mo y).1)&&kY (mo y).1.toNat (mo y).2.1 (mo y).2.2 (y.drop 1)
def in1 (args:List (AV D.E)):C Int:=match args with
 | [a]=>aP (cT a) λ_ n=>.ret n
 | _=>.fail
def Nt (args:List (AV D.E)) (s:St D.E):C By:=match args with
 | [a]=>az (aL D s 0 a) λl=>.ret (l:By)
 | _=>.fail
def Hg (y:Int):Prop:=0<=y/\y<256
abbrev bO (f:FuncId) (Y:Type) (oM:List (AV D.E)->St D.E->C Y) (pre:Y->Prop) (args:Y->List (AV D.E)) (res:Y->AV D.E):bh D:=⟨f,Y,oM,pre,args,λ_=>[],res,λ_=>[],0,0⟩
def AP:bh D:=bO 209 Int (λa _=>in1 a) Hg (λy=>[.int .u8 y]) λy=>.tuple [Qvo (b6 y.toNat).1,.int .u8 ((b6 y.toNat).2.1:Nat),.int .u8 ((b6 y.toNat).2.2:Nat)]
def QhL (_:AP.Y):cH D:=dY ()
def po:bh D:=bO 167 By Nt (λ_=>True) (λy=>[.list 0 y]) λy=>.tuple [.int .i32 (cB y).1,Qvo (cB y).2,.bool (ji y)]
def u_ (y:By) (i:Nat):Int:=if i=1 then((mo y).2.1:Nat) else 128
def tF (y:By) (i:Nat):Int:=if i=1 then((mo y).2.2:Nat) else 191
def vb (y:By):Int:=syn.start (mo y).1 (y.getD 0 0).toNat
def xV (y:By) (i:Nat) (r:Int):Prop:=1<=i/\(i:Int)<=(mo y).1+1/\0<=r/\r<128*64 ^ (i-1)/\dx (mo y).1.toNat (vb y) (mo y).2.1 (mo y).2.2 (y.drop 1)=dx ((mo y).1.toNat+1-i) r (u_ y i).toNat (tF y i).toNat (y.drop i)/\
 kY (mo y).1.toNat (mo y).2.1 (mo y).2.2 (y.drop 1)=kY ((mo y).1.toNat+1-i) (u_ y i).toNat (tF y i).toNat (y.drop i)
def Qey (y:po.Y):cH D:=⟨[],[],[(1018,⟨Nat×Int,[0,5],λx=>[(2,.int .i32 x.2),(6,.int .u8 (u_ y x.1)),(7,.int .u8 (tF y x.1)),(8,Qvo x.1)],[],λ_=>[],0,λx=>xV y x.1 x.2,λx=>5-x.1⟩)],
 [(63,⟨Unit,[0,5,6,7],λ_=>[(2,.int .i32 (vb y))],[],λ_=>[],0,λ_=>True,λ_=>0⟩)],1,[]⟩
def Hh:bh D:=bO 113 By Nt (λy=>y.length<=1000000) (λy=>[.list 0 y]) λy=>.list 13 (bg y)
def QnV (y:Hh.Y):cH D:=⟨[],[],[(28,⟨By×List Gt,[],λx=>[(0,.list 0 x.1),(3,.grow 13 x.2 0)],[],λ_=>[(0,.tok 13 192)],1,λx=>x.2++bg x.1=bg y/\x.1.length+x.2.length<=y.length,λx=>x.1.length⟩)],[],1,[]⟩
structure re where
 pl:List Int
 us:List Item
def spO (b n m:Nat) (y:re):List (Nat×AO D.E):=[(b,.cells [.own n 1 (ag y.pl),.own m 2 (ag y.us)] 327 false),(n,.arr 5 y.pl 3 false),(m,.arr 18 y.us 379 false)]
def QnX (v:AV D.E) (s:St D.E):C re:=match v with
 | .ptr b _=>az (cR (s.h.get b)) λo=>match o with
  | .cells cs _ _=>match cs with
   | [p,l]=>az (aL D s 5 p) λp=>az (aL D s 18 l) λl=>.ret ⟨p,l⟩
   | _=>.fail
  | _=>.fail
 | _=>.fail
def it0:Item:=⟨0,false⟩
def Pg:List Item:=[]
def zrs (n:Int):List Int:=List.replicate n.toNat 0
def Hi (y:re) (i:Int):Bool:=decide (0<=i)&&decide (i<y.pl.length)&&decide (y.pl.getD i.toNat 0<y.us.length)&&decide ((y.us.getD (y.pl.getD i.toNat 0).toNat it0).i=i)
def mQ (y:re) (i:Int):Bool:=decide (0<=i)&&decide (i<y.pl.length)&&!Hi y i
def nQ (y:re) (i:Int) (x:Bool):re:=if mQ y i=true then⟨y.pl.set i.toNat y.us.length,y.us++[⟨i,x⟩]⟩ else y
structure LnY where
 n:Int
 l:Bool
def Nu:bh D:=⟨206,Unit,λ_ _=>.ret (),λ_=>True,λ_=>[],λ_=>[],λ_=>.agg [Qvo (-1),Qvo (-1),Qvo (-1),Qvo (-1),Qvo (-1),Qvo (-1),Qvo (-1),Qvo (-1),Qvo (-1),Qvo (-1)],λ_=>[],0,0⟩
structure iC where
 af:List aW
 av:List Int
def XG (y:iC):Prop:=y.af.length<=1000/\y.av.length<=1000/\∀x∈y.af,x.bm.length<=1000000
def Hj (y:iC):AV D.E:=.agg [.list 8 y.af,.list 5 y.av]
def Hk (v:AV D.E) (s:St D.E):C iC:=az (asAgg v) λcs=>match cs with
 | [c,l]=>az (aL D s 8 c) λc=>az (aL D s 5 l) λl=>.ret ⟨c,l⟩
 | _=>.fail
def QhN:bh D:=⟨205,iC,λa s=>match a with
 | [p]=>Hk p s
 | _=>.fail,XG,λy=>[Hj y],λ_=>[],Hj,λ_=>[],0,0⟩
def Qn0 (y:QhN.Y):cH D:=⟨[],[],[(58,⟨Nat,[2,11,12],λk=>[(3,.ptr 3 0),(13,Qvo k)],[1],λk=>[(3,.cells [.grow 8 (y.af.take k) 4,.list 5 y.av] 88 false),(4,.tok 8 203)],5,λk=>k<=y.af.length,λk=>y.af.length-k⟩)],[],1,[]⟩
structure pq where
 p:iC
 aI:Int
 L:List dd
 s:re
def vmR (b m n:Nat) (y:pq):List (Nat×AO D.E):=(b,.cells [.list 8 y.p.af,.list 5 y.p.av,.int .i64 y.aI,.own n 12 (ag y.L),.ptr (b+1) 0] 260 false)::(spO (b+1) (b+2) m y.s++[(n,.arr 2 y.L 106 false)])
def vmO (b:Nat) (y:pq):List (Nat×AO D.E):=vmR b (b+3) (b+4) y
def Qn2 (v:AV D.E) (s:St D.E):C pq:=match v with
 | .ptr b _=>az (cR (s.h.get b)) λo=>match o with
  | .cells cs _ _=>match cs with
   | [c,l,n,x,q]=>az (aL D s 8 c) λc=>az (aL D s 5 l) λl=>aP (cT n) λ_ n=>az (aL D s 2 x) λx=>az (QnX q s) λq=>.ret ⟨⟨c,l⟩,n,x,q⟩
   | _=>.fail
  | _=>.fail
 | _=>.fail
def Qn3 (a:List (AV D.E)) (s:St D.E):C pq:=match a with
 | [p]=>Qn2 p s
 | _=>.fail
def sw (s:Int):dd:=⟨false,-1,-1,-1,-1,-1,-1,-1,-1,-1,-1,[⟨s,-1,-1,-1,-1,-1,-1,-1,-1,-1,-1⟩]⟩
def QhO (y:pq) (k:Nat):pq:={ y with L:=y.L++(y.p.av.take k).map sw }
def Hl:bh D:=⟨202,pq,Qn3,λy=>y.p.av.length+y.L.length<=1000000,λ_=>[.ptr 0 0],vmO 0,λ_=>.tuple [],λy=>vmR 0 3 5 (QhO y y.p.av.length),5,6⟩
def Qn4 (y:Hl.Y):cH D:=⟨[],[],[(6,⟨Nat,[0,8,9],λk=>[(10,Qvo k)],[],λk=>vmR 0 3 5 (QhO y k),6,λk=>k<=y.p.av.length,λk=>y.p.av.length-k⟩)],[],1,[]⟩
def KL (y:Unit):Prop:=aa ([-1,-1,-1,-1,-1,-1,-1,-1,-1,-1]:List Int) (True)
abbrev RAG {T0:Type} (a:T0) (p:Prop):Prop:=aa [a] p
abbrev RAH {T0 T1:Type} (a:T0) (b:T1) (p:Prop):Prop:=aa [a] (aa [b] p)
def Si (y:iC):Prop:=let a:=y.af.length;let q1:=ag y.af;bJ (ag y.av) 8=true/\(∃z:Nat,RAH y.af q1 (0=(z:Int)/\[]=List.take z y.af/\aa [y.av] ((Iv (z<=a)))))/\(∀x:Nat,let b:=List.take x y.af;let c:=gt (aW.mk 0 0 0 []) y.af (x:Int).toNat;(Iv (x<=a))->aj (aw (x:Int) q1) (aG 0 (x:Int)=true/\aw (x:Int) q1=true/\bJ (ag c.bm) 8=true/\bJ (ag (bM b [c])) 48=true/\∃z:Nat,RAH y.af q1 (ay .i64 (x:Int) 1=(z:Int)/\bM b [c]=List.take z y.af/\aa [y.av] ((Iv (z<=a/\(a-z)<(a-x)))))) (b=y.af/\RAG y.av (True)))
abbrev RAI {T0 T1 T2:Type} (a:T0) (b:T1) (c:T2) (p:Prop):Prop:=aa [a] (aa [b] (aa [c] p))
abbrev RAJ {T0 T1 T2 T3:Type} (a:T0) (b:T1) (c:T2) (d:T3) (p:Prop):Prop:=aa [a] (aa [b] (aa [c] (aa [d] p)))
abbrev RA3 (v:iC) (p:Prop):Prop:=aa [v.af] (aa [v.av] p)
def Qb4 (y:pq):Prop:=let a:=ag y.p.av;let q1:=y.p.av.length;let d:=λp:Prop=>RA3 y.p (RAG y.aI p);let e:=λp:Prop=>RAJ (ag y.s.pl) (ag y.s.us) y.s.pl y.s.us p;let u:=λz:Nat=>y.L++List.map sw (List.take z y.p.av);let A:=λx:Nat=>y.L++List.map sw (List.take x y.p.av);let B:=y.L++List.map sw (List.take q1 y.p.av);(∃z:Nat,RAH y.p.av a (0=(z:Int)/\d (ag y.L=ag (u z)/\y.L=(u z)/\e ((Iv (z<=q1))))))/\(∀x:Nat,let b:=ag (A x);let c:=bM (A x) [dd.mk false (-1) (-1) (-1) (-1) (-1) (-1) (-1) (-1) (-1) (-1) [aX.mk (gt 0 y.p.av (x:Int).toNat) (-1) (-1) (-1) (-1) (-1) (-1) (-1) (-1) (-1) (-1)]];(Iv (x<=q1))->aj (aw (x:Int) a) (aG 0 (x:Int)=true/\aw (x:Int) a=true/\Iv True/\Iv True/\bJ (ag c) 112=true/\RAI b b b (∃z:Nat,aa [y.p.av] (aa [a] (ay .i64 (x:Int) 1=(z:Int)/\d (ag c=ag (u z)/\c=(u z)/\e ((Iv (z<=q1/\(q1-z)<(q1-x))))))))) (d (b=ag B/\(A x)=B/\e (True))))
theorem Qb5:Ok Nu:=okZ (V:=KL) [] f206 (λ_=>⟨[],[],[],[],11,[]⟩) trivial λy a=>by
 grind [KL]
theorem Qn6 (y:iC) (a:XG y):Si y:=by
 unfold Si;simp only[bL,bC,au,br,aT,dq,Zad];obtain⟨h1,b,c⟩:y.af.length<=1000/\y.av.length<=1000/\∀x∈y.af,x.bm.length<=1000000:=a;grind [List.take_append_getElem]
theorem Sj (L:List dd) {l:List Int} {x:Nat} (h:x<l.length):L++(l.take x).map sw++[sw (l.getD x 0)]=L++(l.take (x+1)).map sw:=by
 grind [List.take_append_getElem]
theorem QhP:Ok Hl:=okZ (V:=Qb4) [Nu] f202 Qn4 Qb5 λy a=>by
 unfold Qb4;simp only[bL,bC,au,br,aT,dq,Zad];have h:y.p.av.length+y.L.length<=1000000:=a;refine⟨⟨0,rfl,by simp,by simp,Zaj _⟩,λx b=>⟨λk=>?_,λk=>?_⟩⟩
 ·have hk:x<y.p.av.length:=ω;have e:=Sj y.L hk;have hl:(y.L++(y.p.av.take (x+1)).map sw).length<=1000001:=by
   grind
  refine⟨ω,k,?_,x+1,ba ω ω,ZaR (λl:List dd=>(l.length:Int)) e,e,ω,ω⟩;grind
 ·grind
end
end sx
end Go.Proofs.YtiiiphndmbabcaaGreat
