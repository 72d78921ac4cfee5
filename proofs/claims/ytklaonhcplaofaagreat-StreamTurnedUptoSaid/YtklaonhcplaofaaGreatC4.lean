/- StreamTurned: a part of the proof. -/
import Derived.Test.YtklaonhcplaofaaGreatC3
import Derived.Test.YtklaonhcplaofaaGreatProg
import Derived.KernelRfl
import Derived.Test.YtklaonhcplaofaaGreatRows
import Derived.OpenShut
import Derived.ProofKit
import Derived.Deep.Slices
set_option linter.all false
namespace Go.Proofs.YtklaonhcplaofaaGreat
open Go.Proofs.Tryz
namespace syn
open Go Go.RowKit cls
def wy {α:Type} {l:List α} {i:Nat} {x:α} (h:l[i]?=some x):i<l.length:=(Zam.1 h).1
structure Nd where
 op:Int
 r:List Rg
 mn:Int
 mx:Int
 lz:Bool
 cap:Int
 af:Int
def Nd.tup (x:Nd):Int×List Rg×Int×Int×Bool×Int×Int:=(x.op,x.r,x.mn,x.mx,x.lz,x.cap,x.af)
theorem Nd.WQ {x y:Nd} (h:x.tup=y.tup):x=y:=by
 cases x;cases y;grind [Nd.tup]
instance:DecidableEq Nd:=λa b=>decidable_of_iff (a.tup=b.tup) ⟨Nd.WQ,λh=>by rw[h]⟩
def nd (op:Int):Nd:=⟨op,[],0,0,false,0,0⟩
def wz (l:List Rg):Nd:={ nd 2 with r:=l }
abbrev Gt:=Int×Int
structure Ps where
 i:Nat
 an:Nat
 ae:Nat
 aq:Int
 wh:Int
section
variable (G:List Gt)
def aO (i:Nat):Int:=((G.take i).map (·.2)).sum
def Ps.ax (s:Ps) (i:Nat) (e:Int):Ps:=if s.aq=0 then { s with aq:=e,wh:=aO G i } else s
def a8 (s:Ps) (r:Int):Bool:=match G[s.i]? with
 | some g=>g.1==r
 | none=>false
def Ps.next (s:Ps):Ps:={ s with i:=s.i+1 }
def bj (s:Ps) (r:Int):Ps:=if a8 G s r then s.next else s
def eQ (i:Nat):Bool:=match G[i]? with
 | some g=>g.1==65533&&g.2==1
 | none=>false
def aJ (i:Nat):Int:=(G.getD i (0,0)).1
def bU (op:Int):List (List Nd)->List Nd
 | []=>[nd 1]
 | [x]=>x
 | a=>{ nd op with af:=a.length }::a.flatten
def WR:List Rg:=kQ [(10,10)]
def dZ (r:Int):List Rg:=aV [(r,r)]
def gX (r:Int):Bool:=decide (33<=r)&&decide (r<=47)||decide (58<=r)&&decide (r<=64)||decide (91<=r)&&decide (r<=96)||decide (123<=r)&&decide (r<=126)
def l0 (s:Ps) (a:Nat) (r:Int):Ps×List Rg×Bool:=
 if r=110 then(s,dZ 10,true)
 else if r=116 then(s,dZ 9,true)
 else if r=114 then(s,dZ 13,true)
 else if r=100 then(s,aV [(48,57)],false)
 else if r=115 then(s,aV [(9,10),(13,13),(32,32)],false)
 else if r=119 then(s,aV [(48,57),(65,90),(95,95),(97,122)],false)
 else if gX r then(s,dZ r,true)
 else(s.ax G a 4,[],false)
def dT (s:Ps):Ps×List Rg×Bool:=
 let t:=s.next
 if G.length<=t.i then(t.ax G s.i 4,[],false)
 else if eQ G t.i then(t.ax G t.i 4,[],false)
 else l0 G t.next s.i (aJ G t.i)
def bX (s:Ps):Ps×List Rg×Bool:=
 if eQ G s.i then(s.ax G s.i 4,[],false)
 else
  let r:=aJ G s.i
  if r=92 then dT G s
  else if r=91\/r=93\/r=45 then(s,[],false)
  else(s.next,[(r,r)],true)
def ox (l:List Rg):Int:=(l.getD 0 (0,0)).1
def jG (a:List Rg) (one:Bool) (c:Nat) (s:Ps):Ps×List Rg:=
 let b:=if s.i<G.length then bX G s else(s,[],false)
 let t:=if b.1.aq=0/\(one=false\/b.2.2=false\/ox b.2.1<ox a) then b.1.ax G c 4 else b.1
 if t.aq=0 then(t,[(ox a,ox b.2.1)]) else(t,[])
def dU (s:Ps):Ps×List Rg:=
 let a:=bX G s
 if a.1.aq≠0 then(a.1,[])
 else if a.2.1=[] then(a.1.ax G s.i 4,[])
 else if a8 G a.1 45 then jG G a.2.1 a.2.2 s.i a.1.next
 else(a.1,a.2.1)
def dJ (a:Nat):Nat->Ps->List Rg->Bool->Ps×List Rg×Bool×Bool
 | 0,s,l,none_=>(s,l,none_,false)
 | n+1,s,l,none_=>
  if s.aq=0/\a8 G s 93=false then
   if G.length<=s.i then(s.ax G a 4,l,none_,true)
   else dJ a n (dU G s).1 (l++(dU G s).2) false
  else(s,l,none_,false)
def rF (s:Ps):Ps×List Nd:=
 let neg:=a8 G s.next 94
 let t:=bj G s.next 94
 let c:=dJ G s.i (G.length+2-t.i) t [] true
 if c.2.2.2 then(c.1,[])
 else if c.1.aq≠0 then(c.1,[])
 else if c.2.2.1 then(c.1.ax G s.i 4,[])
 else(c.1.next,[wz (if neg then kQ (aV c.2.1) else aV c.2.1)])
def cj:Nat->Nat->List UInt8->Nat×List UInt8
 | 0,i,b=>(i,b)
 | n+1,i,b=>if i<G.length/\48<=aJ G i/\aJ G i<=57 then
   cj n (i+1) (if 48<aJ G i\/b≠[] then b++[UInt8.ofNat (aJ G i).toNat] else b) else(i,b)
def dg (s:Ps):Ps:={ s with i:=(cj G (G.length-s.i) s.i []).1 }
def gp (s:Ps):List UInt8:=(cj G (G.length-s.i) s.i []).2
def ga (s:Ps):Bool:=decide (s.i<(cj G (G.length-s.i) s.i []).1)
end
def gY (a b:List UInt8):Bool:=decide (a.length<b.length)||(a.length==b.length&&Op.bytesLess a b)
def gD (l:List UInt8):Int:=l.foldl (λn c=>10*n+((c.toNat:Int) -48)) 0
def eg (l:List UInt8):Int×Bool:=if 2<l.length then(0,false) else(gD l,decide (gD l<=30))
section
variable (G:List Gt)
def na (a:Nat) (s:Ps) (m n:List UInt8) (ok en:Bool):Ps×Int×Int:=
 if ok=false then(s.ax G a 4,0,0)
 else if a8 G s 125=false then(s.ax G a 4,0,0)
 else if en=false/\gY n m=true then(s.next.ax G a 4,0,0)
 else
  let lo:=eg m
  let hi:=eg (if en then[] else n)
  if lo.2=false\/hi.2=false then(s.next.ax G a 2,0,0)
  else(s.next,lo.1,if en then-1 else hi.1)
def fR (s:Ps):Ps×Int×Int:=
 let t:=dg G s.next
 let m:=gp G s.next
 let ok:=ga G s.next
 if ok/\a8 G t 44 then na G s.i (dg G t.next) m (gp G t.next) ok (!ga G t.next)
 else na G s.i t m m ok false
def gP (aG:Ps->Ps×List Nd) (s:Ps):Ps×List Nd:=
 let free:=a8 G s.next 63
 let c:=if free then s.next.next else s.next
 if free/\a8 G c 58=false then(c.ax G s.i 4,[])
 else
  let s3:=if free then c.next else c
  if 20<=s3.an then(s3.ax G s.i 10,[])
  else if free=false/\4<=s3.ae then(s3.ax G s.i 13,[])
  else
   let d:Ps:=if free then s3 else { s3 with ae:=s3.ae+1 }
   let a:=aG { d with an:=d.an+1 }
   let b:Ps:={ a.1 with an:=a.1.an-1 }
   if b.aq=0/\a8 G b 41=false then(b.ax G s.i 4,[])
   else
    let e:Ps:=if b.aq=0 then b.next else b
    if free then(e,a.2) else(e,{ nd 6 with cap:=d.ae,af:=1 }::a.2)
def iJ (aG:Ps->Ps×List Nd) (s:Ps):Ps×List Nd:=
 if eQ G s.i then(s.ax G s.i 4,[])
 else
  let r:=aJ G s.i
  if r=40 then gP G aG s
  else if r=91 then rF G s
  else if r=92 then((dT G s).1,[wz (dT G s).2.1])
  else if r=46 then(s.next,[wz WR])
  else if r=94 then(s.next,[nd 7])
  else if r=36 then(s.next,[nd 8])
  else if r=42\/r=43\/r=63\/r=41\/r=93\/r=123\/r=125\/r=124 then(s.ax G s.i 4,[])
  else(s.next,[wz (dZ r)])
def nc (s:Ps) (mn mx:Int) (x:List Nd):Ps×List Nd:=
 if s.aq≠0 then(s,[])
 else(bj G s 63,{ nd 5 with mn:=mn,mx:=mx,lz:=a8 G s 63,af:=1 }::x)
def fb (aG:Ps->Ps×List Nd) (s:Ps):Ps×List Nd:=
 let a:=iJ G aG s
 if a.1.aq≠0 then(a.1,[])
 else if a8 G a.1 42 then nc G a.1.next 0 (-1) a.2
 else if a8 G a.1 43 then nc G a.1.next 1 (-1) a.2
 else if a8 G a.1 63 then nc G a.1.next 0 1 a.2
 else if a8 G a.1 123 then nc G (fR G a.1).1 (fR G a.1).2.1 (fR G a.1).2.2 a.2
 else a
def ej (aG:Ps->Ps×List Nd):Nat->Ps->List (List Nd)->Ps×List (List Nd)
 | 0,s,a=>(s,a)
 | n+1,s,a=>
  if s.aq=0/\s.i<G.length/\a8 G s 124=false/\¬(a8 G s 41/\0<s.an) then ej aG n (fb G aG s).1 (a++[(fb G aG s).2])
  else(s,a)
def l3 (aG:Ps->Ps×List Nd) (s:Ps):Ps×List Nd:=
 let c:=ej G aG (G.length+2-s.i) s []
 (c.1,bU 3 c.2)
def fS (aG:Ps->Ps×List Nd):Nat->Ps->List (List Nd)->Ps×List (List Nd)
 | 0,s,a=>(s,a)
 | n+1,s,a=>
  if s.aq=0/\a8 G s 124=true then fS aG n (l3 G aG s.next).1 (a++[(l3 G aG s.next).2])
  else(s,a)
def Dh (aG:Ps->Ps×List Nd) (s:Ps):Ps×List Nd:=
 let c:=l3 G aG s
 let d:=fS G aG (G.length+2-c.1.i) c.1 [c.2]
 (d.1,bU 4 d.2)
def qq:Nat->Ps->Ps×List Nd
 | 0,s=>(s,[])
 | n+1,s=>Dh G (qq n) s
def Oa:Ps:=⟨0,0,0,0,0⟩
def wA:List Nd×Int×Int:=
 let a:=qq G 21 Oa
 let s:=if a.1.aq=0/\a.1.i<G.length then a.1.ax G a.1.i 4 else a.1
 if s.aq≠0 then([],s.aq,s.wh) else(a.2,0,0)
end
section
variable {G:List Gt}
@[simp] theorem WS (s:Ps) (k:Nat) (e:Int):(s.ax G k e).i=s.i:=by grind [Ps.ax]
@[simp] theorem Qad (s:Ps) (k:Nat) (e:Int):(s.ax G k e).an=s.an:=by grind [Ps.ax]
@[simp] theorem Bj (s:Ps) (k:Nat) (e:Int):(s.ax G k e).ae=s.ae:=by grind [Ps.ax]
theorem eU (s:Ps) (k:Nat) {e:Int} (a:e≠0):(s.ax G k e).aq≠0:=by
 grind [Ps.ax]
@[simp] theorem iP (s:Ps):s.next.i=s.i+1:=rfl
@[simp] theorem Qcm (s:Ps):s.next.an=s.an:=rfl
@[simp] theorem Qae (s:Ps):s.next.ae=s.ae:=rfl
@[simp] theorem Qe8 (s:Ps):s.next.aq=s.aq:=rfl
theorem cW {s:Ps} {r:Int} (h:a8 G s r):s.i<G.length:=by
 grind [a8]
structure fL (G:List Gt) (s t:Ps):Prop where
 le:s.i<=t.i
 len:t.i<=G.length
 op:t.an=s.an
 gr:s.ae<=t.ae
 gm:t.ae<=4
variable {s Z:Ps}
def fL.trans {u:Ps} (h:fL G s Z) (a:fL G Z u):fL G s u:=
 ⟨Zav h.le a.le,a.len,a.op.trans h.op,Zav h.gr a.gr,a.gm⟩
theorem fL.refl (h:s.i<=G.length) (a:s.ae<=4):fL G s s:=⟨Zah _,h,rfl,Zah _,a⟩
theorem fL.ax (h:fL G s Z) (k:Nat) (e:Int):fL G s (Z.ax G k e):=⟨by simpa using h.le,by simpa using h.len,by simpa using h.op,by simpa using h.gr,by simpa using h.gm⟩
theorem fL.next (h:fL G s Z) (hl:Z.i<G.length):fL G s Z.next:=⟨by have:=h.le;simp;omega,by simp;omega,h.op,h.gr,h.gm⟩
def fL.skip (h:fL G s Z) (r:Int):fL G s (bj G Z r):=by
 unfold bj;split
 ·rename_i a
  exact h.next (cW a)
 ·exact h
theorem PQ (s:Ps) (a:Nat) (r:Int):(l0 G s a r).1=s\/(l0 G s a r).1=s.ax G a 4:=by
 grind [l0]
def pw (l:List Rg):(aV l).length<=2*l.length:=(dI l).2.2
theorem zq (s:Ps) (a:Nat) (r:Int):(l0 G s a r).2.1.length<=8:=by
 unfold l0
 repeat' split
 all_goals first | exact Zav (pw _) (by simp) | simp
theorem zr (h:fL G s Z) (hl:Z.i<G.length):fL G s (dT G Z).1/\Z.i<(dT G Z).1.i/\(dT G Z).2.1.length<=8:=by
 unfold dT;simp only;split
 ·exact⟨(h.next hl).ax _ _,by simp,by simp⟩
 ·split
  ·exact⟨(h.next hl).ax _ _,by simp,by simp⟩
  ·have a:=(h.next hl).next ω;refine⟨?_,?_,zq _ _ _⟩
   ·rcases PQ (G:=G) Z.next.next Z.i (aJ G Z.next.i) with e | e<;>rw[e]
    ·exact a
    ·exact a.ax _ _
   ·rcases PQ (G:=G) Z.next.next Z.i (aJ G Z.next.i) with e | e<;>rw[e]<;>simp<;>omega
theorem l4 (h:fL G s Z) (hl:Z.i<G.length):fL G s (bX G Z).1/\((bX G Z).2.1≠[]->Z.i<(bX G Z).1.i)/\(bX G Z).2.1.length<=8:=by
 unfold bX;split
 ·exact⟨h.ax _ _,by simp,by simp⟩
 ·simp only;split
  ·grind [zr]
  ·split
   ·grind
   ·exact⟨h.next hl,λ_=>by simp,by simp⟩
theorem LU (h:fL G s Z) (a:List Rg) (one:Bool) (c:Nat):fL G s (jG G a one c Z).1/\Z.i<=(jG G a one c Z).1.i/\(jG G a one c Z).2.length<=8:=by
 have key:fL G s (if Z.i<G.length then bX G Z else(Z,[],false)).1/\Z.i<=(if Z.i<G.length then bX G Z else(Z,[],false)).1.i:=by
  split
  ·rename_i hl
   refine⟨(l4 h hl).1,?_⟩;exact((l4 (fL.refl (s:=Z) h.len h.gm) hl).1).le
  ·grind
 unfold jG;simp only;generalize (if Z.i<G.length then bX G Z else(Z,[],false))=b at key;have⟨k1,k2⟩:=key
 repeat' split
 all_goals first | exact⟨k1.ax _ _,by simp_all,by simp⟩ | exact⟨k1,k2,by simp⟩
theorem jZ (h:fL G s Z) (hl:Z.i<G.length):fL G s (dU G Z).1/\((dU G Z).1.aq=0->Z.i<(dU G Z).1.i)/\(dU G Z).2.length<=8:=by
 have⟨k1,k2,k3⟩:=l4 h hl;unfold dU;simp only;split
 ·grind
 ·split
  ·exact⟨k1.ax _ _,λe=>absurd e (eU _ _ (by decide)),by simp⟩
  ·rename_i _ a
   have k4:=k2 a;split
   ·rename_i c
    have⟨b,a2,a3⟩:=LU (k1.next (cW c)) (bX G Z).2.1 (bX G Z).2.2 Z.i;exact⟨b,λ_=>by simp at a2;omega,a3⟩
   ·grind
theorem zt (a:Nat):∀(n:Nat) (t:Ps) (l:List Rg) (b:Bool),fL G s t->fL G s (dJ G a n t l b).1/\t.i<=(dJ G a n t l b).1.i
 | 0,t,l,b,h=>⟨h,Zah _⟩
 | n+1,t,l,b,h=>by
  unfold dJ;split
  ·split
   ·exact⟨h.ax _ _,by simp⟩
   ·have hl:t.i<G.length:=ω;have c:=(jZ (fL.refl (s:=t) h.len h.gm) hl).1.le;have b:=zt a n (dU G t).1 (l++(dU G t).2) false (jZ h hl).1;grind
  ·grind
theorem sP (a:Nat):∀(n:Nat) (t:Ps) (l:List Rg) (b:Bool),t.i<=G.length->t.ae<=4->(G.length+1<n+t.i\/t.aq≠0/\0<n)->(dJ G a n t l b).1.aq≠0\/a8 G (dJ G a n t l b).1 93
 | 0,t,l,b,h,d,e=>by omega
 | n+1,t,l,b,h,d,e=>by
  unfold dJ;split
  ·split
   ·grind [eU]
   ·have hl:t.i<G.length:=ω;have⟨c,a2,a3⟩:=jZ (fL.refl (s:=t) h d) hl;refine sP a n _ _ _ c.len c.gm ?_;omega
  ·grind
theorem jj:∀(n i:Nat) (b:List UInt8),i<=(cj G n i b).1/\((cj G n i b).1<=G.length\/(cj G n i b).1=i)/\(cj G n i b).2.length+i<=b.length+(cj G n i b).1
 | 0,i,b=>⟨Zah _,.inr rfl,Zah _⟩
 | n+1,i,b=>by
  unfold cj;split
  ·have⟨h1,a,c⟩:=jj n (i+1) (if 48<aJ G i\/b≠[] then b++[UInt8.ofNat (aJ G i).toNat] else b);grind
  ·grind
def rG (h:fL G s Z):fL G s (dg G Z)/\Z.i<=(dg G Z).i:=by
 have a:=jj (G:=G) (G.length-Z.i) Z.i [];have h1:=a.1;have b:(dg G Z).i<=G.length:=by
  rcases a.2.1 with e | e
  ·exact e
  ·show(cj G _ _ _).1<=_
   rw[e];exact h.len
 exact⟨⟨Zav h.le h1,b,h.op,h.gr,h.gm⟩,h1⟩
theorem wB (h:fL G s Z) (b:Nat) (m n:List UInt8) (ok en:Bool):fL G s (na G b Z m n ok en).1/\Z.i<=(na G b Z m n ok en).1.i:=by
 unfold na;split
 ·exact⟨h.ax _ _,by simp⟩
 ·split
  ·exact⟨h.ax _ _,by simp⟩
  ·rename_i c
   have a:=h.next (cW (by simpa using c));split
   ·exact⟨a.ax _ _,by simp⟩
   ·by_cases d:(eg m).2=false\/(eg (if en=true then[] else n)).2=false
    ·rw[Zac d];exact⟨a.ax _ _,by simp⟩
    ·simp_all
theorem wC (h:fL G s Z) (hl:Z.i<G.length):fL G s (fR G Z).1/\Z.i<(fR G Z).1.i:=by
 have⟨a,a2⟩:=rG (h.next hl);simp only[iP] at a2;unfold fR;simp only;split
 ·rename_i b
  have⟨b1,c⟩:=rG (a.next (cW b.2));grind [iP,wB]
 ·grind [wB]
theorem PR (h:fL G s Z) (hl:Z.i<G.length):fL G s (rF G Z).1/\Z.i<(rF G Z).1.i/\(rF G Z).2.length<=1:=by
 have h1:=(h.next hl).skip 94;have d:Z.i<(bj G Z.next 94).i:=by unfold bj;split<;>simp<;>omega
 have⟨a,a2⟩:=zt Z.i (G.length+2-(bj G Z.next 94).i) _ ([]:List Rg) true h1;have a3:=sP (G:=G) Z.i (G.length+2-(bj G Z.next 94).i) (bj G Z.next 94) [] true h1.len h1.gm ω;unfold rF;simp only;generalize dJ G Z.i (G.length+2-(bj G Z.next 94).i) (bj G Z.next 94) [] true=c at a a2 a3;split
 ·grind
 ·split
  ·grind
  ·split
   ·exact⟨a.ax _ _,by simp;omega,by simp⟩
   ·have b:a8 G c.1 93:=by grind
    exact⟨a.next (cW b),by simp;omega,by simp⟩
def l5 (G:List Gt) (aG:Ps->Ps×List Nd):Prop:=∀s,s.i<=G.length->s.ae<=4->fL G s (aG s).1/\(aG s).2.length<=3*((aG s).1.i-s.i)+1
variable {aG:Ps->Ps×List Nd}
variable {s:Ps}
theorem FU (A:l5 G aG) (hl:s.i<G.length) (u:s.ae<=4):fL G s (gP G aG s).1/\((gP G aG s).1.aq=0->s.i<(gP G aG s).1.i)/\(gP G aG s).2.length<=3*((gP G aG s).1.i-s.i):=by
 have h1:=(fL.refl ω u).next hl;unfold gP;simp only;generalize c:a8 G s.next 63=free;generalize o:(if free=true then s.next.next else s.next)=f;have h:fL G s f/\s.i<f.i:=by
  subst o;split
  ·rename_i t
   subst t;exact⟨h1.next (cW c),by simp;omega⟩
  ·simp_all
 split
 ·exact⟨h.1.ax _ _,λe=>absurd e (eU _ _ (by decide)),by simp⟩
 ·generalize p:(if free=true then f.next else f)=s3;have b:fL G s s3/\s.i<s3.i:=by
   subst p;split
   ·have:a8 G f 58:=by
     grind
    exact⟨h.1.next (cW this),by simp;omega⟩
   ·exact h
  split
  ·exact⟨b.1.ax _ _,λe=>absurd e (eU _ _ (by decide)),by simp⟩
  ·split
   ·exact⟨b.1.ax _ _,λe=>absurd e (eU _ _ (by decide)),by simp⟩
   ·generalize v:(if free=true then s3 else({ s3 with ae:=s3.ae+1 }:Ps))=s4;have j:s4.i=s3.i/\s4.an=s3.an/\s3.ae<=s4.ae/\s4.ae<=4:=by
     have:=b.1.gm;grind
    have r:=b.1.len;have⟨b1,q⟩:=A { s4 with an:=s4.an+1 } (by grind) j.2.2.2;generalize aG { s4 with an:=s4.an+1 }=a at b1 q;simp only[j.1] at q;have g:=b1.le;simp only[j.1] at g;have k:fL G s ({ a.1 with an:=a.1.an-1 }:Ps):=by
     refine⟨?_,b1.len,?_,?_,b1.gm⟩
     ·have:=b.2;simp;omega
     ·have:=b1.op;have:=b.1.op;simp at*;omega
     ·have:=b1.gr;have:=b.1.gr;simp at*;omega
    split
    ·exact⟨k.ax _ _,λe=>absurd e (eU _ _ (by decide)),by simp⟩
    ·rename_i d
     have l:fL G s (if a.1.aq=0 then({ a.1 with an:=a.1.an-1 }:Ps).next else({ a.1 with an:=a.1.an-1 }:Ps))/\a.1.i<=(if a.1.aq=0 then({ a.1 with an:=a.1.an-1 }:Ps).next else({ a.1 with an:=a.1.an-1 }:Ps)).i/\(a.1.aq=0->(if a.1.aq=0 then({ a.1 with an:=a.1.an-1 }:Ps).next else({ a.1 with an:=a.1.an-1 }:Ps)).i=a.1.i+1):=by
      split
      ·rename_i n
       have m:a8 G ({ a.1 with an:=a.1.an-1 }:Ps) 41:=by
        cases m:a8 G ({ a.1 with an:=a.1.an-1 }:Ps) 41
        ·exact absurd ⟨n,m⟩ d
        ·rfl
       exact⟨k.next (cW m),by simp,λ_=>rfl⟩
      ·rename_i n
       exact⟨k,by simp,λe=>absurd e n⟩
     have hlen:a.2.length+1<=3*((if a.1.aq=0 then({ a.1 with an:=a.1.an-1 }:Ps).next else({ a.1 with an:=a.1.an-1 }:Ps)).i-s.i):=by
      have:=l.2.1;have:=b.2;omega
     split
     ·exact⟨l.1,λ_=>by grind,by grind⟩
     ·exact⟨l.1,λ_=>by grind,by simp;omega⟩
theorem zu (A:l5 G aG) (hl:s.i<G.length) (a:s.ae<=4):fL G s (iJ G aG s).1/\((iJ G aG s).1.aq=0->s.i<(iJ G aG s).1.i)/\(iJ G aG s).2.length<=3*((iJ G aG s).1.i-s.i):=by
 have h0:=fL.refl (Zcx hl) a;have h1:=h0.next hl;have hw:fL G s (s.ax G s.i 4)/\((s.ax G s.i 4).aq=0->s.i<(s.ax G s.i 4).i)/\([]:List Nd).length<=3*((s.ax G s.i 4).i-s.i):=⟨h0.ax _ _,λe=>absurd e (eU _ _ (by decide)),by simp⟩;have b:∀x:Nd,fL G s s.next/\(s.next.aq=0->s.i<s.next.i)/\[x].length<=3*(s.next.i-s.i):=λx=>⟨h1,λ_=>by simp,by simp⟩
 unfold iJ;grind [FU,PR,zr]
theorem Di {t:Ps} (h:fL G s t) (mn mx:Int) (x:List Nd):fL G s (nc G t mn mx x).1/\t.i<=(nc G t mn mx x).1.i/\(nc G t mn mx x).2.length<=x.length+1:=by
 unfold nc;split
 ·grind
 ·refine⟨h.skip 63,?_,by simp⟩;unfold bj;split<;>simp
theorem wD (A:l5 G aG) (hl:s.i<G.length) (d:s.ae<=4):fL G s (fb G aG s).1/\((fb G aG s).1.aq=0->s.i<(fb G aG s).1.i)/\(fb G aG s).2.length<=3*((fb G aG s).1.i-s.i):=by
 have⟨b,a2,a3⟩:=zu A hl d;unfold fb;simp only;generalize iJ G aG s=a at b a2 a3;split
 ·grind
 ·rename_i g
  have key:∀(r mn mx:Int),a8 G a.1 r->fL G s (nc G a.1.next mn mx a.2).1/\((nc G a.1.next mn mx a.2).1.aq=0->s.i<(nc G a.1.next mn mx a.2).1.i)/\(nc G a.1.next mn mx a.2).2.length<=3*((nc G a.1.next mn mx a.2).1.i-s.i):=λr mn mx c=>by
   have⟨b1,e,f⟩:=Di (b.next (cW c)) mn mx a.2;grind [iP]
  grind [wC,cW,Di]
def total (a:List (List Nd)):Nat:=a.flatten.length
theorem fT (a:List (List Nd)) (x:List Nd):total (a++[x])=total a+x.length:=by simp[total]
theorem wE (op:Int):∀a:List (List Nd),(bU op a).length<=total a+1
 | []=>by grind [bU]
 | [x]=>by simp[bU,total]
 | x::y::a=>by simp[bU,total]
theorem zv (A:l5 G aG):∀(n:Nat) (t:Ps) (a:List (List Nd)),fL G s t->total a<=3*(t.i-s.i)->fL G s (ej G aG n t a).1/\total (ej G aG n t a).2<=3*((ej G aG n t a).1.i-s.i)
 | 0,t,a,h,c=>⟨h,c⟩
 | n+1,t,a,h,c=>by
  unfold ej;split
  ·rename_i d
   have⟨b,a2,a3⟩:=wD A d.2.1 h.gm;have e:=b.le;have f:=h.le;refine zv A n _ _ (h.trans b) ?_;rw[fT];omega
  ·grind
def l6 (A:l5 G aG) (hl:s.i<=G.length) (b:s.ae<=4):fL G s (l3 G aG s).1/\(l3 G aG s).2.length<=3*((l3 G aG s).1.i-s.i)+1:=by
 have⟨a,a2⟩:=zv A (G.length+2-s.i) s [] (fL.refl hl b) (by simp[total]);exact⟨a,Zav (wE _ _) (by show total (ej G aG (G.length+2-s.i) s []).2+1<=_;exact ZcU a2)⟩
theorem zw (A:l5 G aG):∀(n:Nat) (t:Ps) (a:List (List Nd)),fL G s t->0<a.length->total a+2*a.length<=3*(t.i-s.i)+3->fL G s (fS G aG n t a).1/\0<(fS G aG n t a).2.length/\total (fS G aG n t a).2+2*(fS G aG n t a).2.length<=3*((fS G aG n t a).1.i-s.i)+3
 | 0,t,a,h,h0,d=>⟨h,h0,d⟩
 | n+1,t,a,h,h0,d=>by
  unfold fS;split
  ·rename_i e
   have b:=h.next (cW e.2);have⟨c,a2⟩:=l6 A (s:=t.next) b.len b.gm;have f:=c.le;have g:=h.le;simp only[iP] at f a2;refine zw A n _ _ (b.trans c) (by simp) ?_;grind [fT]
  ·grind
theorem tG (op:Int) (a:List (List Nd)) (h:0<a.length):(bU op a).length+2<=total a+2*a.length:=by
 match a,h with
 | [x],_=>simp[bU,total]
 | x::y::a,_=>simp[bU,total];omega
theorem PT (A:l5 G aG) (hl:s.i<=G.length) (d:s.ae<=4):fL G s (Dh G aG s).1/\(Dh G aG s).2.length<=3*((Dh G aG s).1.i-s.i)+1:=by
 have⟨a,a2⟩:=l6 A (s:=s) hl d;unfold Dh;generalize l3 G aG s=c at a a2;have⟨b1,b,e⟩:=zw A (G.length+2-c.1.i) c.1 [c.2] a (by simp) (by grind [total]);have:=tG 4 _ b;grind
theorem uS:∀n,l5 G (qq G n)
 | 0=>λs h a=>⟨fL.refl h a,by simp[qq]⟩
 | n+1=>λs h a=>PT (uS n) h a
end
section
variable (G:List Gt)
def rH (s:Ps) (a:Nat):Ps×List Rg:=
 if G.length<=s.i then(s.ax G a 4,[])
 else if eQ G s.i then(s.ax G s.i 4,[])
 else
  let r:=aJ G s.i
  if r=110 then(s.next,[(10,10)])
  else if r=116 then(s.next,[(9,9)])
  else if r=114 then(s.next,[(13,13)])
  else if r=100 then(s.next,[(48,57)])
  else if r=115 then(s.next,aV [(9,10),(13,13),(32,32)])
  else if r=119 then(s.next,aV [(48,57),(65,90),(95,95),(97,122)])
  else if gX r then(s.next,[(r,r)])
  else(s.next.ax G a 4,[])
def eV (s:Ps):Ps×List Rg:=
 if eQ G s.i then(s.next.ax G s.i 4,[])
 else
  let r:=aJ G s.i
  if r=92 then rH G s.next s.i
  else if r=91\/r=45 then(s.next.ax G s.i 4,[])
  else(s.next,[(r,r)])
def db (l:List Rg):Bool:=decide (l.length=1)&&decide ((l.getD 0 (0,0)).1=(l.getD 0 (0,0)).2)
def ki (s:Ps) (c:Nat) (a l:List Rg):Ps×List Rg×Bool:=
 if s.aq≠0\/a8 G s 45=false then(s,l++a,false)
 else
  let t:=s.next
  if G.length<=t.i\/a8 G t 93\/a8 G t 91\/a8 G t 45=true then(t.ax G c 4,l,true)
  else
   let b:=eV G t
   if b.1.aq=0/\(db a=false\/db b.2=false\/ox b.2<ox a) then(b.1.ax G c 4,l,true)
   else if b.1.aq=0 then(b.1,l++[(ox a,ox b.2)],false)
   else(b.1,l,false)
def dn:Nat->Ps->List Rg->Bool->Ps×List Rg×Bool
 | 0,s,l,any=>(s,l,any)
 | n+1,s,l,any=>
  if s.aq=0/\s.i<G.length/\a8 G s 93=false then
   let m:=ki G (eV G s).1 s.i (eV G s).2 l
   if m.2.2 then(m.1,m.2.1,true) else dn n m.1 m.2.1 true
  else(s,l,any)
def yq (s:Ps) (a:Nat):Ps×List Rg:=
 let neg:=a8 G s 94
 let t:=bj G s 94
 let c:=dn G (G.length+2-t.i) t [] false
 let u:=if c.1.aq=0/\(c.2.2=false\/a8 G c.1 93=false) then c.1.ax G a 4 else c.1
 (u.next,if neg then kQ c.2.1 else aV c.2.1)
def jk (a:Nat) (s:Ps) (m n:List UInt8) (ok op:Bool):Ps×Int×Int:=
 let t:=if ok=false\/a8 G s 125=false\/(op=false/\gY n m) then s.ax G a 4 else s
 let lo:=eg m
 let hi:=if op then(-1,true) else eg n
 let u:=if lo.2=false\/hi.2=false then t.next.ax G a 2 else t.next
 (u,lo.1,hi.1)
def d_ (s:Ps):Ps×Int×Int:=
 let t:=dg G s.next
 let m:=gp G s.next
 let ok:=ga G s.next
 if ok/\a8 G t 44 then jk G s.i (dg G t.next) m (gp G t.next) ok (!ga G t.next)
 else jk G s.i t m m ok false
def eL (s:Ps) (a:Nat):Ps:=
 (if s.aq=0/\a8 G s 41=false then s.ax G a 4 else s).next
def iQ (aG:Ps->Ps×List Nd) (deep:Nat) (s:Ps) (a:Nat):Ps×List Nd:=
 let quiet:=a8 G s 63
 if quiet/\a8 G s.next 58=false then(s.ax G a 4,[])
 else if 20<=deep then(s.ax G a 10,[])
 else if quiet then(eL G (aG s.next.next).1 a,(aG s.next.next).2)
 else if 4<=s.ae then(s.ax G a 13,[])
 else
  let t:Ps:={ s with ae:=s.ae+1 }
  (eL G (aG t).1 a,{ nd 6 with cap:=t.ae,af:=1 }::(aG t).2)
def fG (aG:Ps->Ps×List Nd) (deep:Nat) (s:Ps):Ps×List Nd:=
 if eQ G s.i then(s.next.ax G s.i 4,[])
 else
  let r:=aJ G s.i
  if r=40 then iQ G aG deep s.next s.i
  else if r=91 then((yq G s.next s.i).1,[wz (yq G s.next s.i).2])
  else if r=46 then(s.next,[wz (kQ [(10,10)])])
  else if r=94 then(s.next,[nd 7])
  else if r=36 then(s.next,[nd 8])
  else if r=92 then((rH G s.next s.i).1,[wz (rH G s.next s.i).2])
  else if r=42\/r=43\/r=63\/r=123\/r=125\/r=93\/r=41\/r=124 then(s.next.ax G s.i 4,[])
  else(s.next,[wz [(r,r)]])
def jl (s:Ps) (mn mx:Int) (x:List Nd):Ps×List Nd:=
 (bj G s 63,{ nd 5 with mn:=mn,mx:=mx,lz:=a8 G s 63,af:=1 }::x)
def rI (aG:Ps->Ps×List Nd) (deep:Nat) (s:Ps):Ps×List Nd:=
 let a:=fG G aG deep s
 if a.1.aq≠0\/G.length<=a.1.i then a
 else if a8 G a.1 42 then jl G a.1.next 0 (-1) a.2
 else if a8 G a.1 43 then jl G a.1.next 1 (-1) a.2
 else if a8 G a.1 63 then jl G a.1.next 0 1 a.2
 else if a8 G a.1 123 then jl G (d_ G a.1).1 (d_ G a.1).2.1 (d_ G a.1).2.2 a.2
 else a
def dV (aG:Ps->Ps×List Nd) (deep:Nat):Nat->Ps->List (List Nd)->Ps×List (List Nd)
 | 0,s,a=>(s,a)
 | n+1,s,a=>
  if s.aq=0/\s.i<G.length/\a8 G s 124=false/\a8 G s 41=false then dV aG deep n (rI G aG deep s).1 (a++[(rI G aG deep s).2])
  else(s,a)
def nR (aG:Ps->Ps×List Nd) (deep:Nat) (s:Ps):Ps×List Nd:=
 let c:=dV G aG deep (G.length+2-s.i) s []
 (c.1,bU 3 c.2)
def dB (aG:Ps->Ps×List Nd) (deep:Nat):Nat->Ps->List (List Nd)->Ps×List (List Nd)
 | 0,s,a=>(s,a)
 | n+1,s,a=>
  if s.aq=0/\a8 G s 124=true then dB aG deep n (nR G aG deep s.next).1 (a++[(nR G aG deep s.next).2])
  else(s,a)
def tH (aG:Ps->Ps×List Nd) (deep:Nat) (s:Ps):Ps×List Nd:=
 let c:=nR G aG deep s
 let d:=dB G aG deep (G.length+2-c.1.i) c.1 [c.2]
 (d.1,bU 4 d.2)
def Bk:Nat->Nat->Ps->Ps×List Nd
 | 0,_,s=>(s,[])
 | n+1,deep,s=>tH G (Bk n (deep+1)) deep s
def FV:List Nd×Int×Int:=
 let a:=Bk G 21 0 Oa
 let s:=if a.1.aq=0/\a.1.i<G.length then a.1.ax G a.1.i 4 else a.1
 if s.aq≠0 then([],s.aq,s.wh) else(a.2,0,0)
end
section
variable {G:List Gt}
structure Fx (G:List Gt):Prop where
 one:∀i,i<G.length->dZ (aJ G i)=[(aJ G i,aJ G i)]
 n:dZ 10=[(10,10)]
 t:dZ 9=[(9,9)]
 r:dZ 13=[(13,13)]
 d:aV [(48,57)]=[(48,57)]
 s:db (aV [(9,10),(13,13),(32,32)])=false
 w:db (aV [(48,57),(65,90),(95,95),(97,122)])=false
 s0:aV [(9,10),(13,13),(32,32)]≠[]
 w0:aV [(48,57),(65,90),(95,95),(97,122)]≠[]
 not:∀l,kQ (aV l)=kQ l
structure At (G:List Gt) (deep:Nat) (s t:Ps):Prop where
 e:s.aq=0
 e2:t.aq=0
 i:t.i=s.i
 g:t.ae=s.ae
 o:s.an=deep
 le:s.i<=G.length
variable {s:Ps} {e:Int}
def Rel {α:Type} (G:List Gt) (deep:Nat) (a b:Ps×α):Prop:=(At G deep a.1 b.1/\b.2=a.2)\/(a.1.aq≠0/\b.1.aq=a.1.aq/\b.1.wh=a.1.wh)
theorem bN (h:s.aq=0) (k:Nat) (e:Int):s.ax G k e={ s with aq:=e,wh:=aO G k }:=by grind [Ps.ax]
theorem fy {α:Type} {deep k:Nat} {t:Ps} {x y:α} (hs:s.aq=0) (ht:t.aq=0) (a:e≠0):Rel G deep (s.ax G k e,x) (t.ax G k e,y):=by
 right;grind [bN]
theorem fh {t:Ps} (h:t.i=s.i) (r:Int):a8 G t r=a8 G s r:=by grind [a8]
theorem gb (h:a8 G s e):s.i<G.length:=by
 grind [a8]
theorem px (h:s.i<G.length):a8 G s e=(aJ G s.i==e):=by
 grind [a8,aJ]
variable {deep:Nat} {s t:Ps}
variable {x:Ps}
theorem At.next (h:At G deep s t) (hl:s.i<G.length):At G deep s.next t.next:=⟨h.e,h.e2,by show t.i+1=s.i+1;rw[h.i],h.g,h.o,hl⟩
def At.skip (h:At G deep s t) (r:Int):At G deep (bj G s r) (bj G t r):=by
 unfold bj;rw[fh h.i];split
 ·rename_i a;exact h.next (gb a)
 ·exact h
def kj (r:Int):db [(r,r)]:=by simp[db]
theorem Dj (F:Fx G) (h:At G deep s t) (hl:s.i<G.length):Rel G deep ((dT G s).1,(dT G s).2.1) (rH G t.next s.i)/\((dT G s).1.aq=0->(dT G s).2.2=db (dT G s).2.1/\(dT G s).2.1≠[]):=by
 have c:=h.next hl;unfold dT rH;rw[c.i];by_cases h1:G.length<=s.next.i
 ·rw[Zac h1,Zac h1];exact⟨fy c.e c.e2 (by decide),λb=>by rw[bN c.e] at b;cases b⟩
 ·rw[Zaa h1,Zaa h1];by_cases f:eQ G s.next.i
  ·rw[Zac f,Zac f];exact⟨fy c.e c.e2 (by decide),λb=>by rw[bN c.e] at b;cases b⟩
  ·rw[Zaa f,Zaa f];have g:=F.one s.next.i ω;have a:=c.next ω;generalize aJ G s.next.i=r at g;unfold l0;by_cases c1:r=110
   ·rw[Zac c1,Zac c1,F.n];exact⟨.inl ⟨a,rfl⟩,λ_=>⟨(kj _).symm,by simp⟩⟩
   rw[Zaa c1,Zaa c1];by_cases c2:r=116
   ·rw[Zac c2,Zac c2,F.t];exact⟨.inl ⟨a,rfl⟩,λ_=>⟨(kj _).symm,by simp⟩⟩
   rw[Zaa c2,Zaa c2];by_cases c3:r=114
   ·rw[Zac c3,Zac c3,F.r];exact⟨.inl ⟨a,rfl⟩,λ_=>⟨(kj _).symm,by simp⟩⟩
   rw[Zaa c3,Zaa c3];by_cases c4:r=100
   ·rw[Zac c4,Zac c4,F.d];exact⟨.inl ⟨a,rfl⟩,λ_=>⟨by rfl,by simp⟩⟩
   rw[Zaa c4,Zaa c4];by_cases c5:r=115
   ·rw[Zac c5,Zac c5];exact⟨.inl ⟨a,rfl⟩,λ_=>⟨F.s.symm,F.s0⟩⟩
   rw[Zaa c5,Zaa c5];by_cases c6:r=119
   ·rw[Zac c6,Zac c6];exact⟨.inl ⟨a,rfl⟩,λ_=>⟨F.w.symm,F.w0⟩⟩
   rw[Zaa c6,Zaa c6];by_cases c7:gX r
   ·rw[Zac c7,Zac c7,g];exact⟨.inl ⟨a,rfl⟩,λ_=>⟨(kj _).symm,by simp⟩⟩
   ·rw[Zaa c7,Zaa c7];exact⟨fy a.e a.e2 (by decide),λb=>by rw[bN a.e] at b;cases b⟩
theorem Dk (F:Fx G) (h:At G deep s t) (hl:s.i<G.length) (a:a8 G s 93=false):
  (Rel G deep ((bX G s).1,(bX G s).2.1) (eV G t)/\((bX G s).1.aq=0->(bX G s).2.2=db (bX G s).2.1/\(bX G s).2.1≠[]))\/
   (bX G s=(s,[],false)/\eQ G s.i=false/\(aJ G s.i=91\/aJ G s.i=45)/\eV G t=(t.next.ax G s.i 4,[])):=by
 have d:=h.next hl;rw[px hl] at a;unfold bX eV;rw[h.i];by_cases b:eQ G s.i
 ·rw[Zac b,Zac b];exact .inl ⟨fy h.e d.e2 (by decide),λc=>by rw[bN h.e] at c;cases c⟩
 ·rw[Zaa b,Zaa b];generalize aJ G s.i=r at a;by_cases c1:r=92
  ·grind [Dj]
  ·rw[Zaa c1,Zaa c1];by_cases c2:r=91\/r=45
   ·grind
   ·have c3:¬r=93:=by grind
    rw[Zaa ω,Zaa c2];exact .inl ⟨.inl ⟨d,rfl⟩,λ_=>⟨(kj _).symm,by simp⟩⟩
theorem Qcn {i:Nat} (hl:i<G.length) (h:aJ G i≠65533):eQ G i=false:=by
 grind [eQ,aJ]
theorem gf (hl:x.i<G.length) (h:aJ G x.i=91\/aJ G x.i=93\/aJ G x.i=45):bX G x=(x,[],false):=by
 grind [bX,Qcn]
theorem zx (a:List Rg) (one:Bool) (b:Nat) (c:x.aq=0) (h:G.length<=x.i\/(x.i<G.length/\(aJ G x.i=91\/aJ G x.i=93\/aJ G x.i=45))):jG G a one b x=(x.ax G b 4,[]):=by
 grind [gf,jG,bN]
def Qlb (G:List Gt) (deep:Nat) (l:List Rg) (a:Ps×List Rg) (m:Ps×List Rg×Bool):Prop:=(At G deep a.1 m.1/\m.2=(l++a.2,false))\/(a.1.aq≠0/\m.1.aq=a.1.aq/\m.1.wh=a.1.wh)
theorem PU {b:Nat} {a l:List Rg} (h:x.aq≠0):ki G x b a l=(x,l++a,false):=by
 grind [ki]
theorem PV (F:Fx G) (h:At G deep s t) (hl:s.i<G.length) (C:a8 G s 93=false) (l:List Rg):Qlb G deep l (dU G s) (ki G (eV G t).1 t.i (eV G t).2 l):=by
 rcases Dk F h hl C with⟨w,H⟩ | ⟨w,R,S,hi⟩
 ·unfold dU;generalize bX G s=a at w H ⊢;have⟨j,a2,a3⟩:=a;generalize eV G t=b at w ⊢;have⟨b1,y⟩:=b;simp only at w H ⊢;rcases w with⟨p,v⟩ | ⟨v,x,d⟩
  ·simp only at p v;subst v;have⟨hs,E⟩:=H p.e;rw[Zaa (by rw[p.e];simp),Zaa E];by_cases m:a8 G j 45
   ·rw[Zac m];have q:=p.next (gb m);unfold ki;rw[Zaa (by rw[fh p.i,m,p.e2];simp)];simp only;have o:=q.i;rw[fh o,fh o,fh o,o,h.i];by_cases c1:G.length<=j.next.i
    ·rw[Zac (.inl c1),zx y a3 s.i q.e (.inl c1),bN q.e,bN q.e2];exact .inr ⟨by simp,rfl,rfl⟩
    ·by_cases c2:a8 G j.next 93\/a8 G j.next 91\/a8 G j.next 45
     ·rw[Zac (.inr c2)];have I:aJ G j.next.i=91\/aJ G j.next.i=93\/aJ G j.next.i=45:=by
       grind [px]
      rw[zx y a3 s.i q.e (.inr ⟨ω,I⟩),bN q.e,bN q.e2];exact .inr ⟨by simp,rfl,rfl⟩
     ·rw[Zaa (by grind)];have z:a8 G j.next 93=false:=by
       grind
      rcases Dk F q ω z with⟨n,u⟩ | ⟨n,L,O,M⟩
      ·unfold jG;rw[Zac (show j.next.i<G.length by omega)];generalize bX G j.next=c at n u ⊢;have⟨A,P,Q⟩:=c;generalize eV G b1.next=f at n ⊢;have⟨B,K⟩:=f;simp only at n u ⊢;rcases n with⟨g,d⟩ | ⟨d,r,D⟩
       ·subst d;have⟨J,_⟩:=u g.e;subst hs J;by_cases c3:db y=false\/db K=false\/ox K<ox y
        ·rw[Zac (⟨g.e,c3⟩:A.aq=0/\_),Zac (⟨g.e2,c3⟩:B.aq=0/\_),bN g.e,bN g.e2];exact .inr ⟨by simp,rfl,rfl⟩
        ·rw[Zaa (λk=>c3 k.2:¬(A.aq=0/\_)),Zaa (λk=>c3 k.2:¬(B.aq=0/\_)),Zac g.e,Zac g.e2];exact .inl ⟨g,rfl⟩
       ·rw[Zaa (λk=>d k.1:¬(A.aq=0/\_)),Zaa d,Zaa (λk=>d (r▸k.1):¬(B.aq=0/\_)),Zaa (λk=>d (r▸k))];exact .inr ⟨d,r,D⟩
      ·grind [px]
   ·rw[Zaa m];unfold ki;rw[Zac (.inr (by rw[fh p.i];simpa using m))];exact .inl ⟨p,rfl⟩
  ·simp only at v x d;rw[Zac v,PU ω];exact .inr ⟨v,x,d⟩
 ·unfold dU;rw[w,hi];have N:=h.next hl;rw[Zaa (by rw[h.e];simp),bN h.e,bN N.e2];exact .inr ⟨by simp,rfl,rfl⟩
def Qe9 (G:List Gt) (deep c:Nat) (a:Ps×List Rg×Bool×Bool) (b:Ps×List Rg×Bool):Prop:=
 (At G deep a.1 b.1/\b.2.1=a.2.1/\b.2.2=!a.2.2.1/\a.2.2.2=false/\a8 G a.1 93)\/
  (a.1.aq≠0/\b.1.aq=a.1.aq/\b.1.wh=a.1.wh)\/(a.1.aq=4/\a.1.wh=aO G c/\b.1.aq=0/\a8 G b.1 93=false)
theorem zy (F:Fx G) (c:Nat):∀(n:Nat) (s t:Ps) (l:List Rg) (none_:Bool),At G deep s t->s.ae<=4->G.length+2<=n+s.i->Qe9 G deep c (dJ G c n s l none_) (dn G n t l (!none_))
 | 0,s,t,l,none_,h,r,w=>by have:=h.le;omega
 | n+1,s,t,l,none_,h,r,w=>by
  unfold dJ dn;by_cases b:a8 G s 93=false
  ·rw[Zac ⟨h.e,b⟩];by_cases hl:G.length<=s.i
   ·rw[Zac hl,Zaa (by rw[h.i];omega),bN h.e];exact .inr (.inr ⟨rfl,rfl,h.e2,(fh h.i 93).trans b⟩)
   ·rw[Zaa hl,Zac ⟨h.e2,by rw[h.i];omega,by rw[fh h.i];exact b⟩];have hi:=PV F h ω b l;have f:=(jZ (fL.refl (G:=G) h.le r) ω).2.1;have p:=(jZ (fL.refl (G:=G) h.le r) ω).1.gm;generalize dU G s=a at hi f p ⊢;generalize ki G (eV G t).1 t.i (eV G t).2 l=m at hi ⊢;have⟨m1,m2,m3⟩:=m;have⟨q,a2⟩:=a;rcases hi with⟨u,g⟩ | ⟨g,d,j⟩
    ·obtain⟨rfl,rfl⟩:=g;exact zy F c n q m1 _ false u p (by have:=f u.e;simp only at this;omega)
    ·simp only at g d j ⊢;have v:dJ G c n q (l++a2) false=(q,l++a2,false,false):=by
      cases n with
      | zero=>rfl
      | succ n=>rw[dJ,Zaa (λk=>g k.1)]
     rw[v];cases m3
     ·have e2:dn G n m1 m2 true=(m1,m2,true):=by
       cases n with
       | zero=>rfl
       | succ n=>rw[dn,Zaa (λk=>g (d▸k.1))]
      rw[e2];exact .inr (.inl ⟨g,d,j⟩)
     ·exact .inr (.inl ⟨g,d,j⟩)
  ·have o:a8 G s 93:=by grind
   rw[Zaa (λk=>b k.2),Zaa (λk=>b ((fh h.i 93)▸k.2.2))];exact .inl ⟨h,rfl,rfl,rfl,o⟩
theorem WT (F:Fx G) (h:At G deep s t) (w:s.ae<=4) (hl:s.i<G.length):Rel G deep (rF G s) ((yq G t.next s.i).1,[wz (yq G t.next s.i).2]):=by
 have r:=h.next hl;have hk:=r.skip 94;have l:(bj G s.next 94).ae<=4:=by unfold bj;split<;>exact w
 have n:Qe9 G deep s.i (dJ G s.i (G.length+2-(bj G s.next 94).i) (bj G s.next 94) [] true) (dn G (G.length+2-(bj G s.next 94).i) (bj G t.next 94) [] false):=zy F s.i (G.length+2-(bj G s.next 94).i) _ _ [] true hk l ω;have j:=sP (G:=G) s.i (G.length+2-(bj G s.next 94).i) (bj G s.next 94) [] true hk.le l (.inl ω);unfold rF yq;simp only;rw[fh r.i,hk.i];generalize dJ G s.i (G.length+2-(bj G s.next 94).i) (bj G s.next 94) [] true=a at n j ⊢;generalize dn G (G.length+2-(bj G s.next 94).i) (bj G t.next 94) [] false=b at n ⊢;have⟨c,a2,a3,a4⟩:=a;have⟨b1,x,q⟩:=b;rcases n with⟨g,q1,u,v,f⟩ | ⟨m,d,o⟩ | ⟨m,hw,d,f⟩
 ·simp only at q1 u v;subst q1 u v;simp only[ZaE,Za0];rw[Zaa (by rw[g.e];simp)];cases a3
  ·have hu:(if b1.aq=0/\((!false)=false\/a8 G b1 93=false) then b1.ax G s.i 4 else b1)=b1:=Zaa (by rw[fh g.i,f];simp);rw[hu];refine .inl ⟨g.next (gb f),?_⟩;simp only[F.not];rfl
  ·have hu:(if b1.aq=0/\((!true)=false\/a8 G b1 93=false) then b1.ax G s.i 4 else b1)=b1.ax G s.i 4:=Zac ⟨g.e2,.inl rfl⟩;rw[hu,bN g.e,bN g.e2];exact .inr ⟨by simp,rfl,rfl⟩
 ·have hu:(if b1.aq=0/\(q=false\/a8 G b1 93=false) then b1.ax G s.i 4 else b1)=b1:=Zaa (λk=>m (d▸k.1));rw[hu];have p:(if a4=true then(c,([]:List Nd)) else if c.aq≠0 then(c,[]) else if a3=true then(c.ax G s.i 4,[]) else(c.next,[wz (if a8 G s.next 94=true then kQ (aV a2) else aV a2)]))=(c,[]):=by
   grind
  rw[p];exact .inr ⟨m,d,o⟩
 ·have hu:(if b1.aq=0/\(q=false\/a8 G b1 93=false) then b1.ax G s.i 4 else b1)=b1.ax G s.i 4:=Zac ⟨d,.inr f⟩;have p:(if a4=true then(c,([]:List Nd)) else if c.aq≠0 then(c,[]) else if a3=true then(c.ax G s.i 4,[]) else(c.next,[wz (if a8 G s.next 94=true then kQ (aV a2) else aV a2)]))=(c,[]):=by
   grind
  rw[hu,bN d,p];exact .inr ⟨by grind,m.symm,hw.symm⟩
def WU (G:List Gt) (deep:Nat) (a b:Ps×Int×Int):Prop:=(At G deep a.1 b.1/\b.2=a.2)\/(a.1.aq≠0/\b.1.aq=a.1.aq/\b.1.wh=a.1.wh)
theorem wF (h:At G deep s t) (b:Nat) (m n:List UInt8) (ok en:Bool) (k:en->n=[]):WU G deep (na G b s m n ok en) (jk G b t m n ok en):=by
 have key:∀(u:Ps) (c:Prop) [Decidable c] (z:Int×Int) (a:Ps×Int×Int),a.1.aq≠0->u.aq=a.1.aq->u.wh=a.1.wh->WU G deep a ((if c then u.next.ax G b 2 else u.next),z):=by
  intro u c _ z a h1 g j;refine .inr ⟨h1,?_⟩;split
  ·have e:u.next.ax G b 2=u.next:=by unfold Ps.ax;rw[Zaa (by simp_all)]
   rw[e];exact⟨g,j⟩
  ·exact⟨g,j⟩
 have f:∀(x:Ps),x.aq=0->(x.ax G b 4).aq≠0:=λx l=>by grind [bN]
 have e2:∀(x y:Ps),x.aq=0->y.aq=0->(y.ax G b 4).aq=(x.ax G b 4).aq/\(y.ax G b 4).wh=(x.ax G b 4).wh:=λx y l p=>by grind [bN]
 unfold na jk;rw[fh h.i];by_cases c1:ok=false
 ·rw[Zac c1];have ht:(if ok=false\/a8 G s 125=false\/en=false/\gY n m=true then t.ax G b 4 else t)=t.ax G b 4:=Zac (.inl c1);rw[ht];exact key _ _ _ _ (f s h.e) (e2 s t h.e h.e2).1 (e2 s t h.e h.e2).2
 rw[Zaa c1];by_cases c2:a8 G s 125=false
 ·rw[Zac c2];have ht:(if ok=false\/a8 G s 125=false\/en=false/\gY n m=true then t.ax G b 4 else t)=t.ax G b 4:=Zac (.inr (.inl c2));rw[ht];exact key _ _ _ _ (f s h.e) (e2 s t h.e h.e2).1 (e2 s t h.e h.e2).2
 rw[Zaa c2];have d:=h.next (gb (by simpa using c2));by_cases c3:en=false/\gY n m
 ·rw[Zac c3];have ht:(if ok=false\/a8 G s 125=false\/en=false/\gY n m=true then t.ax G b 4 else t)=t.ax G b 4:=Zac (.inr (.inr c3));rw[ht];exact key _ _ _ _ (f s.next d.e) (e2 s.next t d.e h.e2).1 (e2 s.next t d.e h.e2).2
 have ht:(if ok=false\/a8 G s 125=false\/en=false/\gY n m=true then t.ax G b 4 else t)=t:=Zaa (by grind);rw[Zaa c3,ht];have o:eg []=(0,true):=by decide
 cases en
 ·simp only[ZaE,Za0];by_cases c4:(eg m).2=false\/(eg n).2=false
  ·rw[Zac c4,Zac c4,bN d.e,bN d.e2];exact .inr ⟨by simp,rfl,rfl⟩
  ·rw[Zaa c4,Zaa c4];exact .inl ⟨d,rfl⟩
 ·simp only[Zbv];by_cases c4:(eg m).2=false
  ·rw[Zac (.inl c4),Zac (.inl c4),bN d.e,bN d.e2];exact .inr ⟨by simp,rfl,rfl⟩
  ·rw[Zaa (by grind),Zaa (by grind)];exact .inl ⟨d,rfl⟩
theorem FW (h:t.i=s.i):gp G t=gp G s/\ga G t=ga G s/\(dg G t).i=(dg G s).i:=by
 grind [gp,ga,dg]
def At.Qfa (h:At G deep s t):At G deep (dg G s) (dg G t):=by
 have hle:=jj (G:=G) (G.length-s.i) s.i [];have:=h.le;refine⟨h.e,h.e2,(FW h.i).2.2,h.g,h.o,?_⟩;show(cj G (G.length-s.i) s.i []).1<=_
 omega
theorem FX:∀(n i:Nat) (b:List UInt8),(cj G n i b).1=i->(cj G n i b).2=b
 | 0,i,b,h=>rfl
 | n+1,i,b,h=>by
  grind [cj,jj]
theorem LV (h:ga G x=false):gp G x=[]:=by
 grind [ga,gp,FX,jj]
theorem LW (h:At G deep s t) (hl:s.i<G.length):WU G deep (fR G s) (d_ G t):=by
 have d:=h.next hl;have⟨e,f,l⟩:=FW (G:=G) d.i;have b:=d.Qfa;unfold fR d_;simp only;rw[e,f,fh b.i,h.i];by_cases a:ga G s.next/\a8 G (dg G s.next) 44
 ·rw[Zac a,Zac a];have c:=b.next (gb a.2);have⟨g,j,m⟩:=FW (G:=G) c.i;rw[g,j];exact wF c.Qfa _ _ _ _ _ λk=>LV (by grind)
 ·grind [wF]
variable {aG l7:Ps->Ps×List Nd}
variable {x:Ps} {Z:Nat} {a:List (List Nd)} {b:List Nd}
def FY (G:List Gt) (deep:Nat) (aG a:Ps->Ps×List Nd):Prop:=∀s t,At G deep s t->s.ae<=4->Rel G deep (aG s) (a t)
def wG (d:Nat) {a b:Ps×List Nd} (c:Nat) (h:Rel G (d+1) a b):
  let f:Ps:={ a.1 with an:=a.1.an-1 }
  (f.aq=0/\a8 G f 41=false->(f.ax G c 4).aq≠0/\(eL G b.1 c).aq=(f.ax G c 4).aq/\(eL G b.1 c).wh=(f.ax G c 4).wh)/\
   (¬(f.aq=0/\a8 G f 41=false)->(At G d f.next (eL G b.1 c)/\f.aq=0/\b.2=a.2)\/(f.aq≠0/\(eL G b.1 c).aq=f.aq/\(eL G b.1 c).wh=f.wh)):=by
 unfold eL;rcases h with⟨h,s⟩ | ⟨p,n,q⟩
 ·have j:At G d { a.1 with an:=a.1.an-1 } b.1:=⟨h.e,h.e2,h.i,h.g,by show a.1.an-1=d;rw[h.o];omega,h.le⟩;refine⟨λm=>?_,λm=>?_⟩
  ·rw[Zac ⟨h.e2,(fh j.i 41).trans m.2⟩,bN j.e,bN h.e2];exact⟨by simp,rfl,rfl⟩
  ·have l:a8 G { a.1 with an:=a.1.an-1 } 41:=by
    cases r:a8 G { a.1 with an:=a.1.an-1 } 41
    ·exact absurd ⟨j.e,r⟩ m
    ·rfl
   rw[Zaa (by rw[(fh j.i 41).trans l];simp)];exact .inl ⟨j.next (gb l),j.e,s⟩
 ·refine⟨λm=>absurd m.1 p,λ_=>?_⟩;rw[Zaa (λk=>p (n▸k.1))];exact .inr ⟨p,n,q⟩
theorem LX (A:FY G (deep+1) aG l7) (h:At G deep s t) (n:s.ae<=4) (hl:s.i<G.length):Rel G deep (gP G aG s) (iQ G l7 deep t.next s.i):=by
 have a:=h.next hl;unfold gP iQ;rw[fh a.i];cases l:a8 G s.next 63
 ·simp only[ZaE,Za0,false_and];by_cases c1:20<=s.next.an
  ·rw[Zac c1,Zac (by have:=a.o;omega)];exact fy a.e a.e2 (by decide)
  rw[Zaa c1,Zaa (show ¬20<=deep by have:=a.o;omega)];by_cases c2:4<=s.next.ae
  ·rw[Zac (⟨trivial,c2⟩),Zac (by rw[a.g];exact c2)];exact fy a.e a.e2 (by decide)
  rw[Zaa (λk=>c2 k.2),Zaa (show ¬4<=t.next.ae by rw[a.g];exact c2)];have p:((t.next.ae+1:Nat):Int)=((s.next.ae+1:Nat):Int):=by rw[a.g]
  have⟨k1,k2⟩:=wG deep s.i (A { { s.next with ae:=s.next.ae+1 } with an:=s.next.an+1 } { t.next with ae:=t.next.ae+1 } ⟨a.e,a.e2,a.i,by show t.next.ae+1=s.next.ae+1;rw[a.g],by show s.next.an+1=deep+1;rw[a.o],a.le⟩ (by grind));split
  ·rename_i f
   have⟨q1,b,c⟩:=k1 f;exact .inr ⟨q1,b,c⟩
  ·rename_i f
   rcases k2 f with⟨q1,b,c⟩ | ⟨q1,b,c⟩
   ·rw[Zac b];refine .inl ⟨q1,?_⟩;grind
   ·rw[Zaa q1];exact .inr ⟨q1,b,c⟩
 ·simp only[Zbv,Zal];have m:=a.next (gb l);rw[fh m.i];by_cases c0:a8 G s.next.next 58=false
  ·rw[Zac c0,Zac c0];exact fy m.e a.e2 (by decide)
  rw[Zaa c0,Zaa c0];have j:a8 G s.next.next 58:=by grind
  have d:=m.next (gb j);by_cases c1:20<=s.next.next.next.an
  ·rw[Zac c1,Zac (by have:=d.o;omega)];exact fy d.e a.e2 (by decide)
  rw[Zaa c1,Zaa (show ¬20<=deep by have:=d.o;omega),Zaa (by simp)];have⟨k1,k2⟩:=wG deep s.i (A { s.next.next.next with an:=s.next.next.next.an+1 } t.next.next.next ⟨d.e,d.e2,d.i,d.g,by show s.next.next.next.an+1=deep+1;rw[d.o],d.le⟩ n);split
  ·rename_i f
   have⟨q1,b,c⟩:=k1 f;exact .inr ⟨q1,b,c⟩
  ·rename_i f
   rcases k2 f with⟨q1,b,c⟩ | ⟨q1,b,c⟩
   ·rw[Zac b];exact .inl ⟨q1,c⟩
   ·rw[Zaa q1];exact .inr ⟨q1,b,c⟩
theorem PW (F:Fx G) (A:FY G (deep+1) aG l7) (h:At G deep s t) (k:s.ae<=4) (hl:s.i<G.length):Rel G deep (iJ G aG s) (fG G l7 deep t):=by
 have a:=h.next hl;have g:=F.one s.i hl;unfold iJ fG;rw[h.i];by_cases b:eQ G s.i
 ·rw[Zac b,Zac b];exact fy h.e a.e2 (by decide)
 rw[Zaa b,Zaa b];generalize aJ G s.i=r at g ⊢;by_cases c1:r=40
 ·grind [LX]
 rw[Zaa c1,Zaa c1];by_cases c2:r=91
 ·grind [WT]
 rw[Zaa c2,Zaa c2];by_cases c3:r=46
 ·subst c3;exact .inl ⟨a,rfl⟩
 rw[Zaa c3,Zaa c3];by_cases c4:r=94
 ·subst c4;exact .inl ⟨a,rfl⟩
 rw[Zaa c4,Zaa c4];by_cases c5:r=36
 ·subst c5;exact .inl ⟨a,rfl⟩
 rw[Zaa c5,Zaa c5];by_cases c6:r=92
 ·rw[Zac c6,Zac c6];have⟨hs,_⟩:=Dj F h hl;rcases hs with⟨j,f⟩ | ⟨f,c,d⟩
  ·refine .inl ⟨j,?_⟩;grind
  ·exact .inr ⟨f,c,d⟩
 rw[Zaa c6,Zaa c6];by_cases c7:r=42\/r=43\/r=63\/r=41\/r=93\/r=123\/r=125\/r=124
 ·rw[Zac c7,Zac ω];exact fy h.e a.e2 (by decide)
 ·rw[Zaa c7,Zaa ω,g];exact .inl ⟨a,rfl⟩
theorem rJ {a b:Ps×Int×Int} (h:WU G deep a b) (x:List Nd):Rel G deep (nc G a.1 a.2.1 a.2.2 x) (jl G b.1 b.2.1 b.2.2 x):=by
 unfold nc jl;rcases h with⟨h,g⟩ | ⟨f,c,d⟩
 ·rw[Zaa (by rw[h.e];simp),g,fh h.i];exact .inl ⟨h.skip 63,rfl⟩
 ·rw[Zac f];refine .inr ⟨f,?_⟩;unfold bj;split<;>exact⟨c,d⟩
theorem WV (F:Fx G) (A:FY G (deep+1) aG l7) (h:At G deep s t) (p:s.ae<=4) (hl:s.i<G.length):Rel G deep (fb G aG s) (rI G l7 deep t):=by
 have l:=PW F A h p hl;unfold fb rI;generalize iJ G aG s=a at l ⊢;generalize fG G l7 deep t=b at l ⊢;have⟨d,a2⟩:=a;have⟨b1,j⟩:=b;rcases l with⟨c,f⟩ | ⟨f,m,n⟩
 ·simp only at c f ⊢;subst f;rw[Zaa (by rw[c.e];simp)];by_cases hle:G.length<=b1.i
  ·rw[Zac (show b1.aq≠0\/G.length<=b1.i from .inr hle)];have g:∀r,a8 G d r=false:=λr=>by
    cases q:a8 G d r
    ·rfl
    ·have:=gb q;have:=c.i;omega
   rw[g,g,g,g];exact .inl ⟨c,rfl⟩
  ·rw[Zaa (show ¬(b1.aq≠0\/G.length<=b1.i) by rw[c.e2];simp;omega)];have o:d.i<G.length:=by have:=c.i;omega
   have k:=c.next o;rw[fh c.i,fh c.i,fh c.i,fh c.i];by_cases c1:a8 G d 42
   ·rw[Zac c1,Zac c1];exact rJ (a:=(d.next,0,-1)) (b:=(b1.next,0,-1)) (.inl ⟨k,rfl⟩) j
   rw[Zaa c1,Zaa c1];by_cases c2:a8 G d 43
   ·rw[Zac c2,Zac c2];exact rJ (a:=(d.next,1,-1)) (b:=(b1.next,1,-1)) (.inl ⟨k,rfl⟩) j
   rw[Zaa c2,Zaa c2];by_cases c3:a8 G d 63
   ·rw[Zac c3,Zac c3];exact rJ (a:=(d.next,0,1)) (b:=(b1.next,0,1)) (.inl ⟨k,rfl⟩) j
   rw[Zaa c3,Zaa c3];by_cases c4:a8 G d 123
   ·grind [rJ,LW]
   rw[Zaa c4,Zaa c4];exact .inl ⟨c,rfl⟩
 ·rw[Zac f,Zac (.inl ω)];exact .inr ⟨f,m,n⟩
def FZ {α:Type} (G:List Gt) (deep:Nat) (a b:Ps×α):Prop:=Rel G deep a b\/(deep=0/\a.1.aq=4/\a.1.wh=aO G b.1.i/\b.1.aq=0/\a8 G b.1 41)
theorem zA (h:x.aq≠0):ej G aG Z x a=(x,a):=by
 cases Z with
 | zero=>rfl
 | succ Z=>rw[ej,Zaa (λk=>h k.1)]
theorem F0 (h:x.aq≠0):dV G l7 deep Z x a=(x,a):=by
 cases Z with
 | zero=>rfl
 | succ Z=>rw[dV,Zaa (λk=>h k.1)]
theorem py (h:x.aq≠0):fS G aG Z x a=(x,a):=by
 cases Z with
 | zero=>rfl
 | succ Z=>rw[fS,Zaa (λk=>h k.1)]
theorem la (h:x.aq≠0\/a8 G x 124=false):dB G l7 deep Z x a=(x,a):=by
 cases Z with
 | zero=>rfl
 | succ Z=>rw[dB,Zaa (by grind)]
theorem zB (F:Fx G) (A:FY G (deep+1) aG l7) (O:l5 G aG):∀(n:Nat) (s t:Ps) (f:List (List Nd)),At G deep s t->s.ae<=4->FZ G deep (ej G aG n s f) (dV G l7 deep n t f)
 | 0,s,t,f,h,m=>.inl (.inl ⟨h,rfl⟩)
 | n+1,s,t,f,h,m=>by
  unfold ej dV;rw[fh h.i,fh h.i,h.i];by_cases c1:s.i<G.length/\a8 G s 124=false
  ·by_cases c2:a8 G s 41
   ·rw[Zaa (λk:t.aq=0/\_=>by grind)];by_cases c3:0<s.an
    ·rw[Zaa (λk=>k.2.2.2 ⟨c2,c3⟩)];exact .inl (.inl ⟨h,rfl⟩)
    ·rw[Zac ⟨h.e,c1.1,c1.2,λk=>c3 k.2⟩];have u:aJ G s.i=41:=by grind [px]
     have r:iJ G aG s=(s.ax G s.i 4,[]):=by
      grind [iJ]
     have er:fb G aG s=(s.ax G s.i 4,[]):=by
      unfold fb;simp only[r];rw[Zac (by rw[bN h.e];simp)]
     rw[er];rw[zA (by rw[bN h.e];simp)];refine .inr ⟨by have:=h.o;omega,by rw[bN h.e],by rw[bN h.e];show _=aO G t.i;rw[h.i],h.e2,(fh h.i 41).trans c2⟩
   ·have g:a8 G s 41=false:=by grind
    rw[Zac ⟨h.e,c1.1,c1.2,λk=>c2 k.1⟩,Zac ⟨h.e2,c1.1,c1.2,g⟩];have p:=WV F A h m c1.1;have c:=(wD O c1.1 m).1.gm;generalize fb G aG s=a at p c ⊢;generalize rI G l7 deep t=b at p ⊢;have⟨q,a2⟩:=a;have⟨b1,w⟩:=b;rcases p with⟨v,d⟩ | ⟨d,j,l⟩
    ·subst d;exact zB F A O n q b1 _ v c
    ·rw[zA d,F0 ω];exact .inl (.inr ⟨d,j,l⟩)
  ·rw[Zaa (λk=>c1 ⟨k.2.1,k.2.2.1⟩),Zaa (λk=>c1 ⟨k.2.1,k.2.2.1⟩)];exact .inl (.inl ⟨h,rfl⟩)
theorem Dl {α β:Type} {a b:Ps×α} (f:α->β) (h:FZ G deep a b):FZ G deep (a.1,f a.2) (b.1,f b.2):=by
 rcases h with(⟨h,c⟩ | h) | h
 ·exact .inl (.inl ⟨h,by grind⟩)
 ·exact .inl (.inr h)
 ·exact .inr h
def Jr (F:Fx G) (A:FY G (deep+1) aG l7) (O:l5 G aG) (h:At G deep s t) (a:s.ae<=4):FZ G deep (l3 G aG s) (nR G l7 deep t):=by
 unfold nR;rw[h.i];exact Dl (bU 3) (zB F A O _ s t [] h a)
theorem zC (F:Fx G) (A:FY G (deep+1) aG l7) (O:l5 G aG):∀(n:Nat) (s t:Ps) (l:List (List Nd)),At G deep s t->s.ae<=4->FZ G deep (fS G aG n s l) (dB G l7 deep n t l)
 | 0,s,t,l,h,m=>.inl (.inl ⟨h,rfl⟩)
 | n+1,s,t,l,h,m=>by
  unfold fS dB;rw[fh h.i];by_cases c1:a8 G s 124
  ·rw[Zac ⟨h.e,c1⟩,Zac ⟨h.e2,c1⟩];have p:=h.next (gb c1);have o:=Jr F A O p m;have j:=(l6 O (s:=s.next) p.le m).1.gm;generalize l3 G aG s.next=a at o j ⊢;generalize nR G l7 deep t.next=b at o ⊢;have⟨q,a2⟩:=a;have⟨b1,u⟩:=b;rcases o with(⟨r,f⟩ | ⟨f,c,d⟩) | ⟨hd,f,c,d,he3⟩
   ·subst f;exact zC F A O n q b1 _ r j
   ·rw[py f,la (.inl ω)];exact .inl (.inr ⟨f,c,d⟩)
   ·have g:a8 G b1 124=false:=by
     grind [gb,px]
    rw[py ω,la (.inr g)];exact .inr ⟨hd,f,c,d,he3⟩
  ·rw[Zaa (λk=>c1 k.2),Zaa (λk=>c1 k.2)];exact .inl (.inl ⟨h,rfl⟩)
theorem PX (F:Fx G) (A:FY G (deep+1) aG l7) (O:l5 G aG) (h:At G deep s t) (l:s.ae<=4):FZ G deep (Dh G aG s) (tH G l7 deep t):=by
 have j:=Jr F A O h l;have g:=(l6 O (s:=s) h.le l).1.gm;unfold Dh tH;simp only;generalize l3 G aG s=a at j g ⊢;generalize nR G l7 deep t=b at j ⊢;have⟨m,a2⟩:=a;have⟨b1,n⟩:=b;rcases j with(⟨k,e⟩ | ⟨e,c,d⟩) | ⟨hd,e,c,d,he3⟩
 ·subst e;rw[k.i];exact Dl (bU 4) (zC F A O _ m b1 [n] k g)
 ·rw[py e,la (.inl ω)];exact .inl (.inr ⟨e,c,d⟩)
 ·have f:a8 G b1 124=false:=by
   grind [gb,px]
  rw[py ω,la (.inr f)];exact .inr ⟨hd,e,c,d,he3⟩
theorem Js (F:Fx G):∀(n deep:Nat) (s t:Ps),At G deep s t->s.ae<=4->FZ G deep (qq G n s) (Bk G n deep t)
 | 0,deep,s,t,h,a=>.inl (.inl ⟨h,rfl⟩)
 | n+1,deep,s,t,h,a=>by
  refine PX F (λs t h a=>?_) (uS n) h a;rcases Js F n (deep+1) s t h a with h1 | h1
  all_goals grind
def fin (G:List Gt) (a:Ps×List Nd):List Nd×Int×Int:=
 let s:=if a.1.aq=0/\a.1.i<G.length then a.1.ax G a.1.i 4 else a.1
 if s.aq≠0 then([],s.aq,s.wh) else(a.2,0,0)
theorem wH (a:x.aq=0) (hi:x.i<G.length):fin G (x,b)=([],4,aO G x.i):=by grind [fin,Ps.ax]
theorem PY (a:x.aq=0) (hi:¬x.i<G.length):fin G (x,b)=(b,0,0):=by grind [fin]
theorem Jt (a:x.aq≠0):fin G (x,b)=([],x.aq,x.wh):=by simp[fin,a]
theorem LY (F:Fx G):FV G=wA G:=by
 have h:=Js F 21 0 Oa Oa ⟨rfl,rfl,rfl,rfl,rfl,Zaj _⟩ (by decide);show fin G (Bk G 21 0 Oa)=fin G (qq G 21 Oa)
 generalize qq G 21 Oa=a at h ⊢;have⟨j,a2⟩:=a;rcases h with(⟨b,d⟩ | ⟨d,f,g⟩) | ⟨hd,d,f,g,he3⟩
 ·subst d;by_cases c:j.i<G.length
  ·rw[wH b.e2 (by rw[b.i];exact c),wH b.e c,b.i]
  ·rw[PY b.e2 (by rw[b.i];exact c),PY b.e c]
 ·grind [Jt]
 ·grind [wH,gb,Jt]
end
end syn
namespace sx
open Go Go.RowKit cls
open syn (Nd Gt)
noncomputable section
structure aK where
 pc:Int
 c0:Int
 c1:Int
 c2:Int
 c3:Int
 c4:Int
 c5:Int
 c6:Int
 c7:Int
 c8:Int
 c9:Int
structure dh where
 done:Bool
 c0:Int
 c1:Int
 c2:Int
 c3:Int
 c4:Int
 c5:Int
 c6:Int
 c7:Int
 c8:Int
 c9:Int
 aB:List aK
structure qd where
 name:List UInt8
 text:List UInt8
structure oD where
 kind:Int
 pos:Int
 Qlc:Int
 c0:Int
 c1:Int
 c2:Int
 c3:Int
 c4:Int
 c5:Int
 c6:Int
 c7:Int
 c8:Int
 c9:Int
structure aS where
 op:Int
 x:Int
 y:Int
 bg:List Rg
structure WW where
 c0:Int
 c1:Int
 c2:Int
 c3:Int
 c4:Int
 c5:Int
 c6:Int
 c7:Int
 c8:Int
 c9:Int
inductive ah where
 | mk (op:Int) (r:List Rg) (mn:Int) (mx:Int) (lz:Bool) (cap:Int) (nk:Int) (af:List ah)
def ah.op (x:ah):Int:=match x with
 | .mk a _ _ _ _ _ _ _=>a
def ah.r (x:ah):List Rg:=match x with
 | .mk _ a _ _ _ _ _ _=>a
def ah.mn (x:ah):Int:=match x with
 | .mk _ _ a _ _ _ _ _=>a
def ah.mx (x:ah):Int:=match x with
 | .mk _ _ _ a _ _ _ _=>a
def ah.lz (x:ah):Bool:=match x with
 | .mk _ _ _ _ a _ _ _=>a
def ah.cap (x:ah):Int:=match x with
 | .mk _ _ _ _ _ a _ _=>a
def ah.nk (x:ah):Int:=match x with
 | .mk _ _ _ _ _ _ a _=>a
def ah.af (x:ah):List ah:=match x with
 | .mk _ _ _ _ _ _ _ a=>a
structure Row where
 k:List UInt8
 v:Int
structure Item where
 i:Int
 x:Bool
structure l8 where
 piece:List UInt8
 times:Int
 ea:Bool
structure ScE where
 h:List UInt8
 m:Int
 L:List dh
def El (c:Nat):Type:=match c with
 | 0=>UInt8
 | 1=>aK
 | 2=>dh
 | 3=>qd
 | 4=>oD
 | 5=>Int
 | 6=>Rg
 | 7=>Nd
 | 8=>aS
 | 9=>List Nd
 | 10=>List UInt8
 | 11=>WW
 | 12=>List dh
 | 13=>Gt
 | 14=>Int
 | 15=>ah
 | 16=>Row
 | 17=>Bool
 | 18=>Item
 | 19=>l8
 | 20=>ScE
 | 21=>List UInt8
 | _=>Unit
def szD (c:Nat):Nat:=match c with
 | 0=>1
 | 1=>11
 | 2=>12
 | 3=>2
 | 4=>13
 | 5=>1
 | 6=>2
 | 7=>7
 | 8=>4
 | 9=>1
 | 10=>1
 | 11=>10
 | 12=>1
 | 13=>2
 | 14=>1
 | 15=>8
 | 16=>2
 | 17=>1
 | 18=>2
 | 19=>3
 | 20=>3
 | 21=>1
 | _=>1
def dy (c:Nat):El c->List (AV El):=match c with
 | 0=>λ(x:UInt8)=>[.int .u8 x.toNat]
 | 1=>λ(x:aK)=>[.int .i64 x.pc,.int .i64 x.c0,.int .i64 x.c1,.int .i64 x.c2,.int .i64 x.c3,.int .i64 x.c4,.int .i64 x.c5,.int .i64 x.c6,.int .i64 x.c7,.int .i64 x.c8,.int .i64 x.c9]
 | 2=>λ(x:dh)=>[.bool x.done,.int .i64 x.c0,.int .i64 x.c1,.int .i64 x.c2,.int .i64 x.c3,.int .i64 x.c4,.int .i64 x.c5,.int .i64 x.c6,.int .i64 x.c7,.int .i64 x.c8,.int .i64 x.c9,.list 1 x.aB]
 | 3=>λ(x:qd)=>[.str x.name,.str x.text]
 | 4=>λ(x:oD)=>[.int .i64 x.kind,.int .i64 x.pos,.int .i64 x.Qlc,.int .i64 x.c0,.int .i64 x.c1,.int .i64 x.c2,.int .i64 x.c3,.int .i64 x.c4,.int .i64 x.c5,.int .i64 x.c6,.int .i64 x.c7,.int .i64 x.c8,.int .i64 x.c9]
 | 5=>λ(x:Int)=>[.int .i64 x]
 | 6=>λ(x:Rg)=>[.int .i32 x.1,.int .i32 x.2]
 | 7=>λ(x:Nd)=>[.int .i64 x.op,.list 6 x.r,.int .i64 x.mn,.int .i64 x.mx,.bool x.lz,.int .i64 x.cap,.int .i64 x.af]
 | 8=>λ(x:aS)=>[.int .i64 x.op,.int .i64 x.x,.int .i64 x.y,.list 6 x.bg]
 | 9=>λ(x:List Nd)=>[.list 7 x]
 | 10=>λ(x:List UInt8)=>[.str x]
 | 11=>λ(x:WW)=>[.int .i64 x.c0,.int .i64 x.c1,.int .i64 x.c2,.int .i64 x.c3,.int .i64 x.c4,.int .i64 x.c5,.int .i64 x.c6,.int .i64 x.c7,.int .i64 x.c8,.int .i64 x.c9]
 | 12=>λ(x:List dh)=>[.list 2 x]
 | 13=>λ(x:Gt)=>[.int .i32 x.1,.int .i64 x.2]
 | 14=>λ(x:Int)=>[.int .i32 x]
 | 15=>λ(x:ah)=>[.int .i64 x.op,.list 6 x.r,.int .i64 x.mn,.int .i64 x.mx,.bool x.lz,.int .i64 x.cap,.int .i64 x.nk,.list 15 x.af]
 | 16=>λ(x:Row)=>[.str x.k,.int .i64 x.v]
 | 17=>λ(x:Bool)=>[.bool x]
 | 18=>λ(x:Item)=>[.int .i64 x.i,.bool x.x]
 | 19=>λ(x:l8)=>[.str x.piece,.int .i64 x.times,.bool x.ea]
 | 20=>λ(x:ScE)=>[.list 0 x.h,.int .i64 x.m,.list 2 x.L]
 | 21=>λ(x:List UInt8)=>[.list 0 x]
 | _=>λ_=>[.int .i64 0]
def cu (k:IntKind) (v:AV El):Option Int:=match v with
 | .int a n=>oI (AI k a) (some n)
 | .num a n=>oI (AI k a) (some n)
 | _=>none
def Dm (v:AV El):Option Bool:=match v with
 | .bool b=>some b
 | .lit b=>some b
 | _=>none
def F3 (v:AV El):Option (List UInt8):=match v with
 | .str s=>some s
 | _=>none
def Ju (c a:Nat) (xs:List (El a)):Option (List (El c)):=Decidable.rec (motive:=λ_=>Option (List (El c))) (λ_=>none) (λh=>some (Eq.rec (motive:=λc _=>List (El c)) xs h)) (Nat.decEq a c)
def ug (c:Nat) (v:AV El):Option (List (El c)):=match v with
 | .list a xs=>Ju c a xs
 | .grow a xs _=>Ju c a xs
 | .dd=>some []
 | _=>none
def b8 (n:Int):UInt8:=UInt8.ofNat n.toNat
def Qco (l:List (AV El)):Option (El 0):=match l with
 | [a0]=>oB (cu .u8 a0) λa0=>some (b8 a0)
 | _=>none
def LZ (l:List (AV El)):Option (El 1):=match l with
 | [a0,b,a2,a3,a4,a5,c,d,e,a9,a]=>oB (cu .i64 a0) λa0=>oB (cu .i64 b) λb=>oB (cu .i64 a2) λa2=>oB (cu .i64 a3) λa3=>oB (cu .i64 a4) λa4=>oB (cu .i64 a5) λa5=>oB (cu .i64 c) λc=>oB (cu .i64 d) λd=>oB (cu .i64 e) λe=>oB (cu .i64 a9) λa9=>oB (cu .i64 a) λa=>some (aK.mk a0 b a2 a3 a4 a5 c d e a9 a)
 | _=>none
def L0 (l:List (AV El)):Option (El 2):=match l with
 | [a0,c,a2,a3,a4,a5,d,e,f,a9,a,b]=>oB (Dm a0) λa0=>oB (cu .i64 c) λc=>oB (cu .i64 a2) λa2=>oB (cu .i64 a3) λa3=>oB (cu .i64 a4) λa4=>oB (cu .i64 a5) λa5=>oB (cu .i64 d) λd=>oB (cu .i64 e) λe=>oB (cu .i64 f) λf=>oB (cu .i64 a9) λa9=>oB (cu .i64 a) λa=>oB (ug 1 b) λb=>some (dh.mk a0 c a2 a3 a4 a5 d e f a9 a b)
 | _=>none
def PZ (l:List (AV El)):Option (El 3):=match l with
 | [a0,a]=>oB (F3 a0) λa0=>oB (F3 a) λa=>some (qd.mk a0 a)
 | _=>none
def Qcp (l:List (AV El)):Option (El 4):=match l with
 | [a0,c,a2,a3,a4,a5,d,e,f,a9,a,b,a12]=>oB (cu .i64 a0) λa0=>oB (cu .i64 c) λc=>oB (cu .i64 a2) λa2=>oB (cu .i64 a3) λa3=>oB (cu .i64 a4) λa4=>oB (cu .i64 a5) λa5=>oB (cu .i64 d) λd=>oB (cu .i64 e) λe=>oB (cu .i64 f) λf=>oB (cu .i64 a9) λa9=>oB (cu .i64 a) λa=>oB (cu .i64 b) λb=>oB (cu .i64 a12) λa12=>some (oD.mk a0 c a2 a3 a4 a5 d e f a9 a b a12)
 | _=>none
def Qcq (l:List (AV El)):Option (El 5):=match l with
 | [a0]=>oB (cu .i64 a0) λa0=>some a0
 | _=>none
def Qcr (l:List (AV El)):Option (El 6):=match l with
 | [a0,a]=>oB (cu .i32 a0) λa0=>oB (cu .i32 a) λa=>some (Prod.mk a0 a)
 | _=>none
def Qcs (l:List (AV El)):Option (El 7):=match l with
 | [a0,a,a2,a3,a4,a5,b]=>oB (cu .i64 a0) λa0=>oB (ug 6 a) λa=>oB (cu .i64 a2) λa2=>oB (cu .i64 a3) λa3=>oB (Dm a4) λa4=>oB (cu .i64 a5) λa5=>oB (cu .i64 b) λb=>some (Nd.mk a0 a a2 a3 a4 a5 b)
 | _=>none
def Qct (l:List (AV El)):Option (El 8):=match l with
 | [a0,a,a2,a3]=>oB (cu .i64 a0) λa0=>oB (cu .i64 a) λa=>oB (cu .i64 a2) λa2=>oB (ug 6 a3) λa3=>some (aS.mk a0 a a2 a3)
 | _=>none
def Qcu (l:List (AV El)):Option (El 9):=match l with
 | [a0]=>oB (ug 7 a0) λa0=>some a0
 | _=>none
def P0 (l:List (AV El)):Option (El 10):=match l with
 | [a0]=>oB (F3 a0) λa0=>some a0
 | _=>none
def P2 (l:List (AV El)):Option (El 11):=match l with
 | [a0,a,a2,a3,a4,a5,b,c,d,a9]=>oB (cu .i64 a0) λa0=>oB (cu .i64 a) λa=>oB (cu .i64 a2) λa2=>oB (cu .i64 a3) λa3=>oB (cu .i64 a4) λa4=>oB (cu .i64 a5) λa5=>oB (cu .i64 b) λb=>oB (cu .i64 c) λc=>oB (cu .i64 d) λd=>oB (cu .i64 a9) λa9=>some (WW.mk a0 a a2 a3 a4 a5 b c d a9)
 | _=>none
def P7 (l:List (AV El)):Option (El 12):=match l with
 | [a0]=>oB (ug 2 a0) λa0=>some a0
 | _=>none
def P8 (l:List (AV El)):Option (El 13):=match l with
 | [a0,a]=>oB (cu .i32 a0) λa0=>oB (cu .i64 a) λa=>some (Prod.mk a0 a)
 | _=>none
def P9 (l:List (AV El)):Option (El 14):=match l with
 | [a0]=>oB (cu .i32 a0) λa0=>some a0
 | _=>none
def P' (l:List (AV El)):Option (El 15):=match l with
 | [a0,a,a2,a3,a4,a5,b,c]=>oB (cu .i64 a0) λa0=>oB (ug 6 a) λa=>oB (cu .i64 a2) λa2=>oB (cu .i64 a3) λa3=>oB (Dm a4) λa4=>oB (cu .i64 a5) λa5=>oB (cu .i64 b) λb=>oB (ug 15 c) λc=>some (ah.mk a0 a a2 a3 a4 a5 b c)
 | _=>none
def P_ (l:List (AV El)):Option (El 16):=match l with
 | [a0,a]=>oB (F3 a0) λa0=>oB (cu .i64 a) λa=>some (Row.mk a0 a)
 | _=>none
def Qa (l:List (AV El)):Option (El 17):=match l with
 | [a0]=>oB (Dm a0) λa0=>some a0
 | _=>none
def Qb (l:List (AV El)):Option (El 18):=match l with
 | [a0,a]=>oB (cu .i64 a0) λa0=>oB (Dm a) λa=>some (Item.mk a0 a)
 | _=>none
def Qc (l:List (AV El)):Option (El 19):=match l with
 | [a0,a,a2]=>oB (F3 a0) λa0=>oB (cu .i64 a) λa=>oB (Dm a2) λa2=>some (l8.mk a0 a a2)
 | _=>none
def Qd (l:List (AV El)):Option (El 20):=match l with
 | [a0,a,a2]=>oB (ug 0 a0) λa0=>oB (cu .i64 a) λa=>oB (ug 2 a2) λa2=>some (ScE.mk a0 a a2)
 | _=>none
def Qe (l:List (AV El)):Option (El 21):=match l with
 | [a0]=>oB (ug 0 a0) λa0=>some a0
 | _=>none
def Qle (c:Nat) (l:List (AV El)):Option (El c):=match c with
 | 0=>Qco l
 | 1=>LZ l
 | 2=>L0 l
 | 3=>PZ l
 | 4=>Qcp l
 | 5=>Qcq l
 | 6=>Qcr l
 | 7=>Qcs l
 | 8=>Qct l
 | 9=>Qcu l
 | 10=>P0 l
 | 11=>P2 l
 | 12=>P7 l
 | 13=>P8 l
 | 14=>P9 l
 | 15=>P' l
 | 16=>P_ l
 | 17=>Qa l
 | 18=>Qb l
 | 19=>Qc l
 | 20=>Qd l
 | 21=>Qe l
 | _=>none
def Qlf (c:Nat):El c:=match c with
 | 0=>(0:UInt8)
 | 1=>aK.mk 0 0 0 0 0 0 0 0 0 0 0
 | 2=>dh.mk false 0 0 0 0 0 0 0 0 0 0 []
 | 3=>qd.mk [] []
 | 4=>oD.mk 0 0 0 0 0 0 0 0 0 0 0 0 0
 | 5=>(0:Int)
 | 6=>Prod.mk 0 0
 | 7=>Nd.mk 0 [] 0 0 false 0 0
 | 8=>aS.mk 0 0 0 []
 | 9=>([]:List Nd)
 | 10=>([]:List UInt8)
 | 11=>WW.mk 0 0 0 0 0 0 0 0 0 0
 | 12=>([]:List dh)
 | 13=>Prod.mk 0 0
 | 14=>(0:Int)
 | 15=>ah.mk 0 [] 0 0 false 0 0 []
 | 16=>Row.mk [] 0
 | 17=>(false:Bool)
 | 18=>Item.mk 0 false
 | 19=>l8.mk [] 0 false
 | 20=>ScE.mk [] 0 []
 | 21=>([]:List UInt8)
 | (_+22)=>()
def D:Data:=⟨El,szD,dy,Qle,Qlf,0,λxs=>xs,λxs=>xs,0,λ_=>True,λ_ _ _ h=>h⟩
end
section
variable {M:Pm D} {v:AV D.E} {val:Value}
def aR {k:IntKind} {n:Int} (h:cu k v=some n) (c:VR M v val):VR M (.int k n:AV D.E) val/\iY k n:=by
 cases c<;>simp only[cu] at h<;>(try (cases h;done))
 case int d e a=>
  obtain⟨h1,b⟩:=kV.1 h;cases b;rw[fE.1 h1];exact⟨.int a,a⟩
 case num d e a=>
  obtain⟨h1,b⟩:=kV.1 h;cases b;rw[fE.1 h1];exact⟨.int a,a⟩
def pz {b:Bool} (h:Dm v=some b) (a:VR M v val):VR M (.bool b:AV D.E) val:=by
 cases a<;>simp only[Dm] at h<;>(try (cases h;done))
 ·cases h;exact .bool _
 ·cases h;exact .bool _
def rK {s:List UInt8} (h:F3 v=some s) (a:VR M v val):VR M (.str s:AV D.E) val:=by
 cases a<;>simp only[F3] at h<;>(try (cases h;done));cases h;exact .str (by assumption)
theorem wI {c a:Nat} {xs:List (El a)} {d:List (El c)} (h:Ju c a xs=some d):∃e:a=c,e▸xs=d:=by
 unfold Ju at h;cases b:Nat.decEq a c with
 | isFalse g=>rw[b] at h;cases h
 | isTrue f=>rw[b] at h;subst f;exact⟨rfl,ZbN h⟩
def ja {c:Nat} {xs:List (El c)} (h:ug c v=some xs) (a:VR M v val):VR M (.list c xs:AV D.E) val:=by
 cases v<;>simp only[ug] at h<;>(try (cases h;done))
 ·cases h;cases a;exact .eD
 ·obtain⟨rfl,rfl⟩:=wI h;cases a with
  | grow h e hl hz hs d b ht=>exact .list hs d b
  | jF h e=>exact .eD
 ·obtain⟨rfl,rfl⟩:=wI h;exact a
def oF {n:Int} (h:iY .u8 n):((b8 n).toNat:Int)=n:=by
 rw[cE] at h;simp only[Ch,sw] at h;unfold b8;rw[UInt8.toNat_ofNat'];omega
def iC (row bd:List (AV D.E)):Prop:=row.length=bd.length/\∀(j:Nat) (a b:AV D.E),row[j]?=some a->bd[j]?=some b->∀(M:Pm D) (v:Value),VR M a v->VR (D:=D) M b v
theorem iC.nil:iC [] []:=⟨rfl,λj a b h=>by simp at h⟩
def iC.cons {a c:AV D.E} {r e:List (AV D.E)} (h:∀(M:Pm D) (v:Value),VR M a v->VR (D:=D) M c v) (d:iC r e):iC (a::r) (c::e):=
 ⟨by simp[d.1],λj x f b e2=>by
  cases j with
  | zero=>simp at b e2;subst b;subst e2;exact h
  | succ j=>exact d.2 j x f (by simpa using b) (by simpa using e2)⟩
end
variable {Z:List (AV El)}
def WX {x:El 0} (h:Qco Z=some x):iC Z (dy 0 x):=by
 unfold Qco at h;split at h
 ·rename_i a0
  obtain⟨d,a,h⟩:=aE.1 h;cases h;exact .cons (λM v c=>by
   obtain⟨h1,b⟩:=aR a c;show VR M (.int .u8 ((b8 d).toNat:Int)) v
   rw[oF b];exact h1) .nil
 ·cases h
def WZ {x:El 1} (h:LZ Z=some x):iC Z (dy 1 x):=by
 unfold LZ at h;split at h
 ·rename_i a0 n a2 a3 a4 a5 o p q a9 c
  obtain⟨r,d,h⟩:=aE.1 h;obtain⟨s,e,h⟩:=aE.1 h;obtain⟨t,e2,h⟩:=aE.1 h;obtain⟨u,f,h⟩:=aE.1 h;obtain⟨v,g,h⟩:=aE.1 h;obtain⟨w,i,h⟩:=aE.1 h;obtain⟨y,j,h⟩:=aE.1 h;obtain⟨z,k,h⟩:=aE.1 h;obtain⟨A,e8,h⟩:=aE.1 h;obtain⟨B,l,h⟩:=aE.1 h;obtain⟨m,b,h⟩:=aE.1 h;cases h;exact .cons (λ_ _ a=>(aR d a).1) (.cons (λ_ _ a=>(aR e a).1) (.cons (λ_ _ a=>(aR e2 a).1) (.cons (λ_ _ a=>(aR f a).1) (.cons (λ_ _ a=>(aR g a).1) (.cons (λ_ _ a=>(aR i a).1) (.cons (λ_ _ a=>(aR j a).1) (.cons (λ_ _ a=>(aR k a).1) (.cons (λ_ _ a=>(aR e8 a).1) (.cons (λ_ _ a=>(aR l a).1) (.cons (λ_ _ a=>(aR b a).1) .nil))))))))))
 ·cases h
def W0 {x:El 2} (h:L0 Z=some x):iC Z (dy 2 x):=by
 unfold L0 at h;split at h
 ·rename_i a0 q a2 a3 a4 a5 r s t a9 d e
  obtain⟨u,f,h⟩:=aE.1 h;obtain⟨v,g,h⟩:=aE.1 h;obtain⟨w,e2,h⟩:=aE.1 h;obtain⟨y,i,h⟩:=aE.1 h;obtain⟨z,j,h⟩:=aE.1 h;obtain⟨A,k,h⟩:=aE.1 h;obtain⟨B,l,h⟩:=aE.1 h;obtain⟨C,m,h⟩:=aE.1 h;obtain⟨D,e8,h⟩:=aE.1 h;obtain⟨E,n,h⟩:=aE.1 h;obtain⟨o,b,h⟩:=aE.1 h;obtain⟨p,c,h⟩:=aE.1 h;cases h;exact .cons (λ_ _ a=>pz f a) (.cons (λ_ _ a=>(aR g a).1) (.cons (λ_ _ a=>(aR e2 a).1) (.cons (λ_ _ a=>(aR i a).1) (.cons (λ_ _ a=>(aR j a).1) (.cons (λ_ _ a=>(aR k a).1) (.cons (λ_ _ a=>(aR l a).1) (.cons (λ_ _ a=>(aR m a).1) (.cons (λ_ _ a=>(aR e8 a).1) (.cons (λ_ _ a=>(aR n a).1) (.cons (λ_ _ a=>(aR b a).1) (.cons (λ_ _ a=>ja c a) .nil)))))))))))
 ·cases h
def W1 {x:El 3} (h:PZ Z=some x):iC Z (dy 3 x):=by
 unfold PZ at h;split at h
 ·rename_i a0 d
  obtain⟨e,b,h⟩:=aE.1 h;obtain⟨f,c,h⟩:=aE.1 h;cases h;exact .cons (λ_ _ a=>rK b a) (.cons (λ_ _ a=>rK c a) .nil)
 ·cases h
def W2 {x:El 4} (h:Qcp Z=some x):iC Z (dy 4 x):=by
 unfold Qcp at h;split at h
 ·rename_i a0 s a2 a3 a4 a5 t u v a9 e f a12
  obtain⟨w,g,h⟩:=aE.1 h;obtain⟨y,i,h⟩:=aE.1 h;obtain⟨z,e2,h⟩:=aE.1 h;obtain⟨A,j,h⟩:=aE.1 h;obtain⟨B,k,h⟩:=aE.1 h;obtain⟨C,l,h⟩:=aE.1 h;obtain⟨D,m,h⟩:=aE.1 h;obtain⟨E,n,h⟩:=aE.1 h;obtain⟨F,e8,h⟩:=aE.1 h;obtain⟨G,o,h⟩:=aE.1 h;obtain⟨p,b,h⟩:=aE.1 h;obtain⟨q,c,h⟩:=aE.1 h;obtain⟨r,d,h⟩:=aE.1 h;cases h;exact .cons (λ_ _ a=>(aR g a).1) (.cons (λ_ _ a=>(aR i a).1) (.cons (λ_ _ a=>(aR e2 a).1) (.cons (λ_ _ a=>(aR j a).1) (.cons (λ_ _ a=>(aR k a).1) (.cons (λ_ _ a=>(aR l a).1) (.cons (λ_ _ a=>(aR m a).1) (.cons (λ_ _ a=>(aR n a).1) (.cons (λ_ _ a=>(aR e8 a).1) (.cons (λ_ _ a=>(aR o a).1) (.cons (λ_ _ a=>(aR b a).1) (.cons (λ_ _ a=>(aR c a).1) (.cons (λ_ _ a=>(aR d a).1) .nil))))))))))))
 ·cases h
def W3 {x:El 5} (h:Qcq Z=some x):iC Z (dy 5 x):=by
 unfold Qcq at h;split at h
 ·rename_i a0
  obtain⟨c,a,h⟩:=aE.1 h;cases h;exact .cons (λ_ _ b=>(aR a b).1) .nil
 ·cases h
def W4 {x:El 6} (h:Qcr Z=some x):iC Z (dy 6 x):=by
 unfold Qcr at h;split at h
 ·rename_i a0 d
  obtain⟨e,b,h⟩:=aE.1 h;obtain⟨f,c,h⟩:=aE.1 h;cases h;exact .cons (λ_ _ a=>(aR b a).1) (.cons (λ_ _ a=>(aR c a).1) .nil)
 ·cases h
def W5 {x:El 7} (h:Qcs Z=some x):iC Z (dy 7 x):=by
 unfold Qcs at h;split at h
 ·rename_i a0 i a2 a3 a4 a5 j
  obtain⟨k,b,h⟩:=aE.1 h;obtain⟨l,c,h⟩:=aE.1 h;obtain⟨m,e2,h⟩:=aE.1 h;obtain⟨n,d,h⟩:=aE.1 h;obtain⟨o,e,h⟩:=aE.1 h;obtain⟨p,f,h⟩:=aE.1 h;obtain⟨q,g,h⟩:=aE.1 h;cases h;exact .cons (λ_ _ a=>(aR b a).1) (.cons (λ_ _ a=>ja c a) (.cons (λ_ _ a=>(aR e2 a).1) (.cons (λ_ _ a=>(aR d a).1) (.cons (λ_ _ a=>pz e a) (.cons (λ_ _ a=>(aR f a).1) (.cons (λ_ _ a=>(aR g a).1) .nil))))))
 ·cases h
def W6 {x:El 8} (h:Qct Z=some x):iC Z (dy 8 x):=by
 unfold Qct at h;split at h
 ·rename_i a0 e a2 a3
  obtain⟨f,b,h⟩:=aE.1 h;obtain⟨g,c,h⟩:=aE.1 h;obtain⟨i,e2,h⟩:=aE.1 h;obtain⟨j,d,h⟩:=aE.1 h;cases h;exact .cons (λ_ _ a=>(aR b a).1) (.cons (λ_ _ a=>(aR c a).1) (.cons (λ_ _ a=>(aR e2 a).1) (.cons (λ_ _ a=>ja d a) .nil)))
 ·cases h
def W7 {x:El 9} (h:Qcu Z=some x):iC Z (dy 9 x):=by
 unfold Qcu at h;split at h
 ·rename_i a0
  obtain⟨c,a,h⟩:=aE.1 h;cases h;exact .cons (λ_ _ b=>ja a b) .nil
 ·cases h
def Qf {x:El 10} (h:P0 Z=some x):iC Z (dy 10 x):=by
 unfold P0 at h;split at h
 ·rename_i a0
  obtain⟨c,a,h⟩:=aE.1 h;cases h;exact .cons (λ_ _ b=>rK a b) .nil
 ·cases h
def Qg {x:El 11} (h:P2 Z=some x):iC Z (dy 11 x):=by
 unfold P2 at h;split at h
 ·rename_i a0 k a2 a3 a4 a5 l m n a9
  obtain⟨o,b,h⟩:=aE.1 h;obtain⟨p,c,h⟩:=aE.1 h;obtain⟨q,e2,h⟩:=aE.1 h;obtain⟨r,d,h⟩:=aE.1 h;obtain⟨s,e,h⟩:=aE.1 h;obtain⟨t,f,h⟩:=aE.1 h;obtain⟨u,g,h⟩:=aE.1 h;obtain⟨v,i,h⟩:=aE.1 h;obtain⟨w,e8,h⟩:=aE.1 h;obtain⟨y,j,h⟩:=aE.1 h;cases h;exact .cons (λ_ _ a=>(aR b a).1) (.cons (λ_ _ a=>(aR c a).1) (.cons (λ_ _ a=>(aR e2 a).1) (.cons (λ_ _ a=>(aR d a).1) (.cons (λ_ _ a=>(aR e a).1) (.cons (λ_ _ a=>(aR f a).1) (.cons (λ_ _ a=>(aR g a).1) (.cons (λ_ _ a=>(aR i a).1) (.cons (λ_ _ a=>(aR e8 a).1) (.cons (λ_ _ a=>(aR j a).1) .nil)))))))))
 ·cases h
def Qh {x:El 12} (h:P7 Z=some x):iC Z (dy 12 x):=by
 unfold P7 at h;split at h
 ·rename_i a0
  obtain⟨c,a,h⟩:=aE.1 h;cases h;exact .cons (λ_ _ b=>ja a b) .nil
 ·cases h
def Qi {x:El 13} (h:P8 Z=some x):iC Z (dy 13 x):=by
 unfold P8 at h;split at h
 ·rename_i a0 d
  obtain⟨e,b,h⟩:=aE.1 h;obtain⟨f,c,h⟩:=aE.1 h;cases h;exact .cons (λ_ _ a=>(aR b a).1) (.cons (λ_ _ a=>(aR c a).1) .nil)
 ·cases h
def Qj {x:El 14} (h:P9 Z=some x):iC Z (dy 14 x):=by
 unfold P9 at h;split at h
 ·rename_i a0
  obtain⟨c,a,h⟩:=aE.1 h;cases h;exact .cons (λ_ _ b=>(aR a b).1) .nil
 ·cases h
def Qk {x:El 15} (h:P' Z=some x):iC Z (dy 15 x):=by
 unfold P' at h;split at h
 ·rename_i a0 j a2 a3 a4 a5 k l
  obtain⟨m,b,h⟩:=aE.1 h;obtain⟨n,c,h⟩:=aE.1 h;obtain⟨o,e2,h⟩:=aE.1 h;obtain⟨p,d,h⟩:=aE.1 h;obtain⟨q,e,h⟩:=aE.1 h;obtain⟨r,f,h⟩:=aE.1 h;obtain⟨s,g,h⟩:=aE.1 h;obtain⟨t,i,h⟩:=aE.1 h;cases h;exact .cons (λ_ _ a=>(aR b a).1) (.cons (λ_ _ a=>ja c a) (.cons (λ_ _ a=>(aR e2 a).1) (.cons (λ_ _ a=>(aR d a).1) (.cons (λ_ _ a=>pz e a) (.cons (λ_ _ a=>(aR f a).1) (.cons (λ_ _ a=>(aR g a).1) (.cons (λ_ _ a=>ja i a) .nil)))))))
 ·cases h
def Ql {x:El 16} (h:P_ Z=some x):iC Z (dy 16 x):=by
 unfold P_ at h;split at h
 ·rename_i a0 d
  obtain⟨e,b,h⟩:=aE.1 h;obtain⟨f,c,h⟩:=aE.1 h;cases h;exact .cons (λ_ _ a=>rK b a) (.cons (λ_ _ a=>(aR c a).1) .nil)
 ·cases h
def Qm {x:El 17} (h:Qa Z=some x):iC Z (dy 17 x):=by
 unfold Qa at h;split at h
 ·rename_i a0
  obtain⟨c,a,h⟩:=aE.1 h;cases h;exact .cons (λ_ _ b=>pz a b) .nil
 ·cases h
def Qn {x:El 18} (h:Qb Z=some x):iC Z (dy 18 x):=by
 unfold Qb at h;split at h
 ·rename_i a0 d
  obtain⟨e,b,h⟩:=aE.1 h;obtain⟨f,c,h⟩:=aE.1 h;cases h;exact .cons (λ_ _ a=>(aR b a).1) (.cons (λ_ _ a=>pz c a) .nil)
 ·cases h
def Qo {x:El 19} (h:Qc Z=some x):iC Z (dy 19 x):=by
 unfold Qc at h;split at h
 ·rename_i a0 d a2
  obtain⟨e,b,h⟩:=aE.1 h;obtain⟨f,c,h⟩:=aE.1 h;obtain⟨g,e2,h⟩:=aE.1 h;cases h;exact .cons (λ_ _ a=>rK b a) (.cons (λ_ _ a=>(aR c a).1) (.cons (λ_ _ a=>pz e2 a) .nil))
 ·cases h
def Qp {x:El 20} (h:Qd Z=some x):iC Z (dy 20 x):=by
 unfold Qd at h;split at h
 ·rename_i a0 d a2
  obtain⟨e,b,h⟩:=aE.1 h;obtain⟨f,c,h⟩:=aE.1 h;obtain⟨g,e2,h⟩:=aE.1 h;cases h;exact .cons (λ_ _ a=>ja b a) (.cons (λ_ _ a=>(aR c a).1) (.cons (λ_ _ a=>ja e2 a) .nil))
 ·cases h
def Qq {x:El 21} (h:Qe Z=some x):iC Z (dy 21 x):=by
 unfold Qe at h;split at h
 ·rename_i a0
  obtain⟨c,a,h⟩:=aE.1 h;cases h;exact .cons (λ_ _ b=>ja a b) .nil
 ·cases h
def kk {l:List (AV D.E)} (h:je (λv=>one v&&lS (D:=D) v) l):∀v∈l,one v/\lS v:=λv a=>by
 have:=dP.1 h v a;simpa using this
theorem gE:aY D where
 len:=λc x=>by
  show(dy c x).length=szD c
  match c,x with
  | 0,x=>rfl
  | 1,x=>rfl
  | 2,x=>rfl
  | 3,x=>rfl
  | 4,x=>rfl
  | 5,x=>rfl
  | 6,x=>rfl
  | 7,x=>rfl
  | 8,x=>rfl
  | 9,x=>rfl
  | 10,x=>rfl
  | 11,x=>rfl
  | 12,x=>rfl
  | 13,x=>rfl
  | 14,x=>rfl
  | 15,x=>rfl
  | 16,x=>rfl
  | 17,x=>rfl
  | 18,x=>rfl
  | 19,x=>rfl
  | 20,x=>rfl
  | 21,x=>rfl
  | _+22,x=>rfl
 one:=λc x=>by
  show ∀v∈dy c x,one v/\lS (D:=D) v
  match c,x with
  | 0,x=>intro v a;exact kk (l:=dy 0 x) (by rfl) v a
  | 1,x=>intro v a;exact kk (l:=dy 1 x) (by rfl) v a
  | 2,x=>intro v a;exact kk (l:=dy 2 x) (by rfl) v a
  | 3,x=>intro v a;exact kk (l:=dy 3 x) (by rfl) v a
  | 4,x=>intro v a;exact kk (l:=dy 4 x) (by rfl) v a
  | 5,x=>intro v a;exact kk (l:=dy 5 x) (by rfl) v a
  | 6,x=>intro v a;exact kk (l:=dy 6 x) (by rfl) v a
  | 7,x=>intro v a;exact kk (l:=dy 7 x) (by rfl) v a
  | 8,x=>intro v a;exact kk (l:=dy 8 x) (by rfl) v a
  | 9,x=>intro v a;exact kk (l:=dy 9 x) (by rfl) v a
  | 10,x=>intro v a;exact kk (l:=dy 10 x) (by rfl) v a
  | 11,x=>intro v a;exact kk (l:=dy 11 x) (by rfl) v a
  | 12,x=>intro v a;exact kk (l:=dy 12 x) (by rfl) v a
  | 13,x=>intro v a;exact kk (l:=dy 13 x) (by rfl) v a
  | 14,x=>intro v a;exact kk (l:=dy 14 x) (by rfl) v a
  | 15,x=>intro v a;exact kk (l:=dy 15 x) (by rfl) v a
  | 16,x=>intro v a;exact kk (l:=dy 16 x) (by rfl) v a
  | 17,x=>intro v a;exact kk (l:=dy 17 x) (by rfl) v a
  | 18,x=>intro v a;exact kk (l:=dy 18 x) (by rfl) v a
  | 19,x=>intro v a;exact kk (l:=dy 19 x) (by rfl) v a
  | 20,x=>intro v a;exact kk (l:=dy 20 x) (by rfl) v a
  | 21,x=>intro v a;exact kk (l:=dy 21 x) (by rfl) v a
  | _+22,x=>intro v a;exact kk (l:=[.int .i64 0]) (by rfl) v a
 dec:=λc row x h=>by
  have key:iC row (dy c x):=by
   match c,x,h with
   | 0,x,h=>exact WX h
   | 1,x,h=>exact WZ h
   | 2,x,h=>exact W0 h
   | 3,x,h=>exact W1 h
   | 4,x,h=>exact W2 h
   | 5,x,h=>exact W3 h
   | 6,x,h=>exact W4 h
   | 7,x,h=>exact W5 h
   | 8,x,h=>exact W6 h
   | 9,x,h=>exact W7 h
   | 10,x,h=>exact Qf h
   | 11,x,h=>exact Qg h
   | 12,x,h=>exact Qh h
   | 13,x,h=>exact Qi h
   | 14,x,h=>exact Qj h
   | 15,x,h=>exact Qk h
   | 16,x,h=>exact Ql h
   | 17,x,h=>exact Qm h
   | 18,x,h=>exact Qn h
   | 19,x,h=>exact Qo h
   | 20,x,h=>exact Qp h
   | 21,x,h=>exact Qq h
   | _+22,x,h=>cases(show none=some x from h)
  have hl:(dy c x).length=szD c:=by
   match c,x with
   | 0,x=>rfl
   | 1,x=>rfl
   | 2,x=>rfl
   | 3,x=>rfl
   | 4,x=>rfl
   | 5,x=>rfl
   | 6,x=>rfl
   | 7,x=>rfl
   | 8,x=>rfl
   | 9,x=>rfl
   | 10,x=>rfl
   | 11,x=>rfl
   | 12,x=>rfl
   | 13,x=>rfl
   | 14,x=>rfl
   | 15,x=>rfl
   | 16,x=>rfl
   | 17,x=>rfl
   | 18,x=>rfl
   | 19,x=>rfl
   | 20,x=>rfl
   | 21,x=>rfl
   | _+22,x=>rfl
  exact⟨key.1.trans hl,key.2⟩
 b1:=rfl
 bl:=λ_=>rfl
 be:=λ_ _ _=>rfl
 bo:=λ_=>rfl
end sx
namespace sx
open Go Go.RowKit
noncomputable section
def cdD (t:TypeId):Option Nat:=match t with
 | 5=>some 0
 | 187=>some 1
 | 128=>some 2
 | 56=>some 3
 | 67=>some 4
 | 3=>some 5
 | 242=>some 6
 | 152=>some 7
 | 149=>some 8
 | 99=>some 9
 | 9=>some 10
 | 33=>some 12
 | 125=>some 13
 | 21=>some 14
 | 155=>some 15
 | 167=>some 15
 | 205=>some 16
 | 4=>some 17
 | 327=>some 18
 | 54=>some 19
 | 37=>some 20
 | 30=>some 21
 | _=>none
def Qlg (l:List Func):Bool:=je (λfn=>Bool.not (fn.name== "runtime.NumGoroutine" &&fn.body.isSome)) l
theorem L1 {P:Program} (h:Qlg P.funcs.toList):sH P:=λf fn a=>by
 have:=dP.1 h fn (ZaJ (i:=f) (by rw[ZaL];exact a));grind
def uT:sH prog:=L1 (by kernel_rfl)
def mixed:Tryz.prog.follows .mixedOrders:=by kernel_rfl
def Bl (f:Func):Code:=match f.body with
 | some c=>c
 | none=>.skip
abbrev tI:=List (br D)
def Qfb (tab:tI) (fn:Func) (k:br D) (a:k.Y->cO D) (y:k.Y):Prop:=OY prog D cdD (Wv D tab) (a y) fn.ntmps k (Bl fn) fn.results.toList y
abbrev Ok (k:br D):Prop:=Jn prog D k
variable {Z:Func} {k:br D} {Y:tI}
variable {a:k.Y->cO D} {V:k.Y->Prop}
def vc (tab:tI) (fn:Func) (k:br D) (a:k.Y->cO D) (y:k.Y):Prop:=bif Nat.ble (jM (k.args y)) fn.ntmps then Qfb tab fn k a y else False
@[reducible] def Qr:tI->Prop
 | []=>True
 | [k]=>Ok k
 | k::l=>Ok k/\Qr l
theorem Qr.all:∀{l:tI},Qr l->∀k∈l,Ok k
 | [],_,k,hk=>nomatch hk
 | [a],h,k,hk=>by cases hk with
  | head=>exact h
  | tail _ hk=>cases hk
 | a::b::l,h,k,hk=>by cases hk with
  | head=>exact h.1
  | tail _ hk=>exact Qr.all h.2 k hk
theorem tJ {α:Type} (l:List α):jM l=l.length:=by
 induction l with
 | nil=>rfl
 | cons a l b=>show Nat.succ (jM l)=_;rw[b];rfl
theorem okB {y:k.Y} (h:vc Y Z k a y):(k.args y).length<=Z.ntmps/\Qfb Y Z k a y:=by
 unfold vc at h;rw[tJ] at h;simp_all
theorem cH (h:Z.body.isSome):Z.body=some (Bl Z):=by
 grind [Bl]
def cw (j:∀y,V y=vc Y Z k a y) (ht:Qr Y) (h:∀y,k.pre y->V y)
  (b:Tryz.prog.funcs[k.f]?=some Z:=by kernel_rfl) (c:Z.body.isSome:=by kernel_rfl):Ok k:=by
 refine⟨⟨Z,_,b,cH c⟩,λy l=>?_⟩;obtain⟨h1,d⟩:=okB (Eq.mp (j y) (h y l));exact λM A w hl g i R e=>m_ gE mixed uT b (cH c) (Bf gE ht.all) h1 d M A w hl g i R e
def okZ (tab:tI) (fn:Func) (b:k.Y->cO D) (ht:Qr tab) (h:∀y,k.pre y->V y) (c:∀y,V y=vc tab fn k b y:=by intro y;kernel_rfl)
  (a:Tryz.prog.funcs[k.f]?=some fn:=by kernel_rfl) (d:fn.body.isSome:=by kernel_rfl):Ok k:=cw c ht h a d
theorem wJ {g:Type} (l:List g) (k:g->br D) (me:∀i,(k i).Y->Nat) {fn:g->Func} {tab:g->tI} {iH:∀i,(k i).Y->cO D} (ht:∀i,Qr (tab i)) (a:∀i,Tryz.prog.funcs[(k i).f]?=some (fn i)) (c:∀i,(fn i).body.isSome)
  (r:∀i y,(k i).pre y->vc (l.map (λj=>(k j).under (me j) (me i y))++tab i) (fn i) (k i) (iH i) y):∀i,Ok (k i):=by
 have key:∀n i,Ok ((k i).under (me i) n):=λn=>by
  induction n with
  | zero=>exact λi=>⟨⟨fn i,_,a i,cH (c i)⟩,λy b=>absurd b.2 (Zbo _)⟩
  | succ n s=>
   refine λi=>⟨⟨fn i,_,a i,cH (c i)⟩,λy b M A w hl o p R m=>?_⟩
   have u:∀j,Ok ((k j).under (me j) (me i y)):=λj=>⟨⟨fn j,_,a j,cH (c j)⟩,λt d=>(s j).2 t ⟨d.1,by have:=b.2;have:=d.2;omega⟩⟩
   obtain⟨h1,h⟩:=okB (r i y b.1);exact m_ (k:=k i) gE mixed uT (a i) (cH (c i)) (Bf gE λq e=>by
    rcases Zax.1 e with e | e
    ·grind
    ·exact(ht i).all q e) h1 h M A w hl o p R m
 exact λi=>⟨⟨fn i,_,a i,cH (c i)⟩,λy b=>(key (me i y+1) i).2 y ⟨b,Zbr _⟩⟩
def Ob (me:k.Y->Nat) {fn:Func} {tab:tI} {iH:k.Y->cO D} (b:∀y,V y=vc (k.under me (me y)::tab) fn k iH y) (ht:Qr tab) (h:∀y,k.pre y->V y)
  (a:Tryz.prog.funcs[k.f]?=some fn:=by kernel_rfl) (c:fn.body.isSome:=by kernel_rfl):Ok k:=
 wJ [()] (λ_=>k) (λ_=>me) (fn:=λ_=>fn) (tab:=λ_=>tab) (iH:=λ_=>iH) (λ_=>ht) (λ_=>a) (λ_=>c) (λ_ y d=>Eq.mp (b y) (h y d)) ()
abbrev By:=List UInt8
abbrev QsE (n:Int):AV D.E:=.int .i64 n
def aa {α:Type} (l:List α) (p:Prop):Prop:=List.rec (motive:=λ_=>Prop) p (λa _ b=>a=a/\b) l
@[simp] theorem ie {α:Type} (l:List α) (p:Prop):aa l p=p:=by
 induction l with
 | nil=>rfl
 | cons a l b=>
  grind [aa]
def Tt (n:Nat) (p:Prop):Prop:=Nat.rec (motive:=λ_=>Prop) p (λ_ a=>true/\a) n
@[simp] theorem Qaf (n:Nat) (p:Prop):Tt n p=p:=by
 induction n with
 | zero=>rfl
 | succ n a=>
  show(true/\Tt n p)=p
  rw[a];simp
def ak (b:Bool) (p q:Prop):Prop:=(b->p)/\(b=false->q)
@[simp] theorem lF (b:Bool) (p q:Prop):ak b p q=((b->p)/\(b=false->q)):=rfl
def fA:dh:=⟨false,0,0,0,0,0,0,0,0,0,0,[]⟩
def gN {α:Type} (d:α) (l:List α) (x:Nat):α:=gt d l (Int.toNat (x:Int))
@[simp] theorem QrT {α:Type} (d:α) (l:List α) (x:Nat):gN d l x=gt d l x:=rfl
def ew {α:Type} (_:α):cO D:=⟨[],[],[],[],1,[]⟩
end
end sx
namespace sx
open Go Go.RowKit Go.ChangeShapes Go.WideShapes Go.ChangeAt
inductive Lf where
 | int (k:IntKind)
 | bool
 | str
 | sl (e:TypeId)
def Jv (l:List Lf):Nat->List Lf
 | 0=>[]
 | n+1=>l++Jv l n
def L2 (P:Program) (g:TypeId->Option (List Lf)):List Field->Nat->Option (List Lf)
 | [],_=>some []
 | f::fs,o=>match g f.type with
  | some l=>if f.offset=o/\l.length=P.cellsOf f.type then(L2 P g fs (o+l.length)).map λr=>l++r else none
  | none=>none
def lvs (P:Program):Nat->TypeId->Option (List Lf)
 | 0,_=>none
 | n+1,t=>match P.underlying t with
  | some (.int k)=>some [.int k]
  | some .bool=>some [.bool]
  | some .string=>some [.str]
  | some (.slice e)=>some [.sl e]
  | some (.array m e)=>match lvs P n e with
   | some l=>if l.length=P.cellsOf e/\P.cellsOf t=m*l.length then some (Jv l m) else none
   | none=>none
  | some (.struct a)=>match L2 P (lvs P n) a.toList 0 with
   | some l=>if l.length=P.cellsOf t then some l else none
   | none=>none
  | _=>none
theorem tK {H:Type} (l:List (DataW H)):Rows.uptoBulkAll l=(l.map Rows.uptoBulk).sum:=by
 induction l with
 | nil=>simp[Rows.uptoBulkAll]
 | cons x r a=>simp only[Rows.uptoBulkAll,Zbl,Zco,a]
section
variable {H:Type} {bd:TypeId×Value->H} {P:Program} {W:World} {held:Bool}
abbrev Trd (bd:TypeId×Value->H) (P:Program) (W:World) (held:Bool):=DataW.trod bd P W 0 (λ_=>true) held
def L3 (bd:TypeId×Value->H) (P:Program) (W:World) (held:Bool) (l:Lf) (v:Value) (w:Nat):Prop:=match l with
 | .int k=>∃n,v=.int k n/\(Lit.int k n).wf/\1<=w
 | .bool=>∃b,v=.bool b
 | .str=>∃s:ByteArray,v=.string s/\s.size<=maxLen/\s.data.toList.length<=w
 | .sl e=>v=.slice none 0 0\/∃a len cap n,v=.slice (some a) len cap/\len<=cap/\cap<=maxLen/\∃D:Nat->DataW H,((List.range len).map λi=>Rows.uptoBulk (D i)).sum<=w/\
   ∀i,i<len->∃cs p,W.cells? 0 (a.add (i*P.cellsOf e)) (P.cellsOf e)=some cs/\Trd bd P W held n e cs=some (D i,p)
inductive eY (bd:TypeId×Value->H) (P:Program) (W:World) (held:Bool):List Lf->List Value->Nat->Prop
 | nil (T:Nat):eY bd P W held [] [] T
 | cons {l:Lf} {ls:List Lf} {v:Value} {r:List Value} {w T T':Nat} (h:L3 bd P W held l v w) (k:eY bd P W held ls r T) (e:w+T<=T'):eY bd P W held (l::ls) (v::r) T'
variable {c:List Value} {w:Nat} {a:List Lf}
theorem eY.mono {T:Nat} (h:eY bd P W held a c w) (b:w<=T):eY bd P W held a c T:=by
 cases h with
 | nil=>exact .nil T
 | cons h k e=>exact .cons h k ω
theorem eY.app {b:List Lf} {d:List Value} {T:Nat} (h:eY bd P W held a c w) (k:eY bd P W held b d T):eY bd P W held (a++b) (c++d) (w+T):=by
 induction h with
 | nil w=>exact k.mono ω
 | cons h _ e f=>exact .cons h f ω
theorem eY.len (h:eY bd P W held a c w):a.length=c.length:=by
 induction h with
 | nil=>rfl
 | cons _ _ _ b=>simp[b]
theorem eY.bD {l:Lf} (h:eY bd P W held (l::a) c w):∃v r S T,c=v::r/\L3 bd P W held l v S/\eY bd P W held a r T/\S+T<=w:=by
 cases h with
 | cons h k e=>exact⟨_,_,_,_,rfl,h,k,e⟩
def eY.kW (h:eY bd P W held [] c w):c=[]:=by cases h;rfl
def eY.one {l:Lf} {v:Value} (h:L3 bd P W held l v w):eY bd P W held [l] [v] w:=.cons h (.nil 0) ω
theorem Jw {g:TypeId->Option (List Lf)} {cs:List Value} (c:∀t l b m x,g t=some l->Trd bd P W held m t b=some x->eY bd P W held l b (Rows.uptoBulk x.1)):
  ∀(a:List Field) (xs:List (DataW H×List MemPlace)) (o:Nat) (l:List Lf),L2 P g a o=some l->xs.length=a.length->
   (∀(i:Nat) f x,a[i]?=some f->xs[i]?=some x->∃m,Trd bd P W held m f.type ((cs.drop f.offset).take (P.cellsOf f.type))=some x)->
   eY bd P W held l ((cs.drop o).take l.length) (xs.map λx=>Rows.uptoBulk x.1).sum
 | [],xs,o,l,h,_,_=>by cases h;simpa using eY.nil _
 | f::a,[],o,l,h,hl,_=>by simp at hl
 | f::a,x::xs,o,l,h,hlx,hx=>by
  unfold L2 at h;cases e:g f.type with
  | none=>rw[e] at h;cases h
  | some n=>
   rw[e] at h;simp only at h;split at h
   ·rename_i j
    obtain⟨k,hl⟩:=j;cases e2:L2 P g a (o+n.length) with
    | none=>rw[e2] at h;cases h
    | some s=>
     rw[e2] at h;cases h;obtain⟨m,h1⟩:=hx 0 f x rfl rfl;rw[k,<-hl] at h1;have k1:=c _ _ _ _ _ e h1;have k2:=Jw c a xs _ _ e2 (by simpa using hlx) λi d r q p=>hx (i+1) d r (by simpa using q) (by simpa using p)
     rw[Zab,ZdW,ZbZ,Zbl,Zco];exact k1.app k2
   ·cases h
theorem Dp {l:List Lf} {cs:List Value}:∀(xs:List (DataW H×List MemPlace)) (o:Nat),(∀i x,xs[i]?=some x->eY bd P W held l ((cs.drop (o+i*l.length)).take l.length) (Rows.uptoBulk x.1))->
  eY bd P W held (Jv l xs.length) ((cs.drop o).take (xs.length*l.length)) (xs.map λx=>Rows.uptoBulk x.1).sum
 | [],o,_=>by simpa [Jv] using eY.nil _
 | x::xs,o,h=>by
  have h0:=h 0 x rfl;rw[ZbS,Zbn] at h0;have h1:=Dp xs (o+l.length) λi a hi=>by
   have:=h (i+1) a (by simpa using hi);rw[show o+(i+1)*l.length=o+l.length+i*l.length by rw[ZbL];omega] at this;exact this
  rw[Zae,ZbL,Nat.one_mul,Zc1 (xs.length*l.length),ZdW,ZbZ,Zbl,Zco];exact h0.app h1
def wK {xs:List (DataW H×List MemPlace)}:(xs.map λx=>Rows.uptoBulk x.1).sum<=Rows.uptoBulk (DataW.agg (xs.map (·.1))):=by
 simp only[Rows.uptoBulk,tK,Zdq];exact ZcR _
theorem qt:∀(n:Nat) (t:TypeId) (u:List Lf) (cs:List Value) (m:Nat) (x:DataW H×List MemPlace),lvs P n t=some u->Trd bd P W held m t cs=some x->eY bd P W held u cs (Rows.uptoBulk x.1)
 | 0,t,u,cs,m,x,h,_=>by cases h
 | n+1,t,u,cs,m,x,h,c=>by
  unfold lvs at h;cases hu:P.underlying t with
  | none=>rw[hu] at h;cases h
  | some d=>
   rw[hu] at h;cases d<;>simp only at h<;>(try (cases h;done))
   case bool=>
    cases h;obtain⟨b,rfl,_⟩:=DataW.trod_bool hu c;have:eY bd P W held [.bool] [.bool b] 0:=.one ⟨b,rfl⟩;exact this.mono (Zaj _)
   case int k=>
    cases h;obtain⟨v,rfl,rfl,hw⟩:=DataW.trod_int hu c;exact .one ⟨v,rfl,hw,by simp[Rows.uptoBulk]⟩
   case string=>
    cases h;obtain⟨s,rfl,rfl,hs⟩:=DataW.trod_string hu c;refine .one ⟨s,rfl,hs,?_⟩;simp only[Rows.uptoBulk];exact ZcR _
   case slice e=>
    cases h;rcases Go.Deep.open_slice hu c with⟨rfl,_⟩ | ⟨a,len,cap,q,G,D,I,rfl,_,hl,F,r,rfl,C⟩
    ·exact .one (.inl rfl)
    ·simp only[Zbv] at r;subst r;refine .one (.inr ⟨a,len,q,G,rfl,hl,F,D,?_,λi hi=>?_⟩)
     ·simp only[Rows.uptoBulk,tK,Zdq];show((List.range len).map (Rows.uptoBulk∘D)).sum<=_
      omega
     ·obtain⟨j,h1,o⟩:=C i ω;exact⟨j,_,h1,o⟩
   case array q e=>
    cases hl:lvs P n e with
    | none=>rw[hl] at h;cases h
    | some l=>
     rw[hl] at h;simp only at h;split at h
     ·rename_i A
      cases h;obtain⟨xs,B,_,rfl,h1,o,w⟩:=DataW.trod_array hu c;subst o;have:=Dp (bd:=bd) (P:=P) (W:=W) (held:=held) (l:=l) (cs:=cs) xs 0 λi x hi=>by
       have y:i<xs.length:=(Zam.1 hi).1;have p:=w i y;rw[hi] at p;rw[Za6,A.1];exact qt n e l _ _ _ hl p
      rw[ZbQ,ZaA ω] at this;exact this.mono wK
     ·cases h
   case struct z=>
    cases hl:L2 P (lvs P n) z.toList 0 with
    | none=>rw[hl] at h;cases h
    | some l=>
     rw[hl] at h;simp only at h;split at h
     ·rename_i A
      cases h;obtain⟨xs,B,_,rfl,h1,o,w⟩:=DataW.trod_struct hu c;have:=Jw (bd:=bd) (P:=P) (W:=W) (held:=held) (g:=lvs P n) (cs:=cs) (λt l j m x=>qt n t l j m x) z.toList xs 0 u hl (by simpa using o) λi f x E c=>by
       have p:=w i f (by simpa using E);rw[c] at p;exact⟨B,p⟩
      rw[ZbQ,ZaA ω] at this;exact this.mono wK
     ·cases h
end
end sx
namespace sx
open Go Go.RowKit
variable {x b:Int} {k:IntKind} {m:Nat}
def km {a b:Int}:aH a b↔a<=b:=by simp[aH]
def Qfc {a b:Int}:aH a b=false↔b<a:=by simp[aH]
def gk {a b:Int}:ay a b↔a<b:=by simp[ay]
def oG {a b:Int}:ay a b=false↔b<=a:=by simp[ay]
def nJ {a b:Int}:aC a b↔a=b:=by simp[aC]
def l9 {a b:Int}:aC a b=false↔a≠b:=by simp[aC]
def wL {a b:By}:seq a b↔a=b:=by simp[seq]
def bm:bx x m↔x*m<=140737488355328:=by simp[bx]
theorem zD:iY .i64 x↔-9223372036854775808<=x/\x<=9223372036854775807:=by rw[cE];simp only[Ch,sw]
def Qcw:iY .u64 x↔0<=x/\x<=18446744073709551615:=by rw[cE];simp only[Ch,sw]
theorem ba {a:Int} (h1: -9223372036854775808<=a+b) (c:a+b<=9223372036854775807):aw .i64 a b=a+b:=dw (zD.2 ⟨h1,c⟩)
theorem sQ {a:Int} (h1: -9223372036854775808<=a-b) (c:a-b<=9223372036854775807):cF .i64 a b=a-b:=dw (zD.2 ⟨h1,c⟩)
theorem Qfd (h1:0<=x) (b:x<=18446744073709551615):vz .u64 x=x:=dw (Qcw.2 ⟨h1,b⟩)
theorem av {α:Type} (l:List α):ag l=(l.length:Int):=rfl
theorem a7 {α:Type} (a b:List α):bC a b=a++b:=rfl
theorem Bm (h1: -9223372036854775808<=x*b) (c:x*b<=9223372036854775807):iB .i64 x b=x*b:=dw (zD.2 ⟨h1,c⟩)
theorem lb (s:By):dL s=(s.length:Int):=rfl
def W8 (k:IntKind):sw k<(t_ k:Int):=by cases k<;>decide
theorem Qt (k:IntKind):Ch k<=0:=by cases k<;>decide
def uU (h:(m:Int)<=sw k):Co k (m:Int)=m:=by
 have:=W8 k;show Nat.mod m (t_ k)=m
 exact Zdr ω
theorem Dq (h:(m:Int)<=sw k):k.wrap (m:Int)=m:=dw (cE.2 ⟨by grind [Qt],h⟩)
def Jx {n:Nat} (a:(m:Int)<=sw k) (b:((2 ^ n-1:Nat):Int)<=sw k):pN k (m:Int) ((2 ^ n-1:Nat):Int)=((m % 2 ^ n:Nat):Int):=by
 unfold pN;rw[uU a,uU b];have e:Nat.land m (2 ^ n-1)=m % 2 ^ n:=Nat.and_two_pow_sub_one_eq_mod m n;rw[e];exact Dq (m:=m % 2 ^ n) ω
def Qu (h0:0<=x) (h1:x<=sw k):pN k x 63=x % 64:=by
 obtain⟨m,rfl⟩:=Zau h0;exact(Jx (n:=6) h1 (by cases k<;>decide)).trans (by simp)
def Qv (h0:0<=x) (h1:x<=sw k):pN k x 31=x % 32:=by
 obtain⟨m,rfl⟩:=Zau h0;exact(Jx (n:=5) h1 (by cases k<;>decide)).trans (by simp)
def Qw (h0:0<=x) (h1:x<=sw k):pN k x 15=x % 16:=by
 obtain⟨m,rfl⟩:=Zau h0;exact(Jx (n:=4) h1 (by cases k<;>decide)).trans (by simp)
def Qah (h0:0<=x) (h1:x<=sw k):pN k x 7=x % 8:=by
 obtain⟨m,rfl⟩:=Zau h0;exact(Jx (n:=3) h1 (by cases k<;>decide)).trans (by simp)
def Qfe {a b n:Nat} (c:b<2 ^ n) (h:((2 ^ n*a+b:Nat):Int)<=sw k):N5 k ((2 ^ n*a:Nat):Int) (b:Int)=((2 ^ n*a+b:Nat):Int):=by
 unfold N5;rw[uU ω,uU ω];have e:Nat.lor (2 ^ n*a) b=2 ^ n*a+b:=(Nat.two_pow_add_eq_or_of_lt c a).symm;rw[e];exact Dq h
def Qai (a:m<=k.bits) (h0:0<=x) (h1:x*2 ^ m<=sw k):su k x (m:Int)=x*2 ^ m:=by
 unfold su;rw[Zad,Zbj a];exact dw (cE.2 ⟨by have:=Qt k;have:=Int.mul_nonneg h0 (show(0:Int)<=2 ^ m from ZdZ (Int.pow_pos (by decide)));omega,h1⟩)
theorem six (h0:0<=x) (h1:x<33554432) (d:0<=b) (b1:b<64):N5 .i32 (su .i32 x 6) b=x*64+b:=by
 have e:su .i32 x ((6:Nat):Int)=x*2 ^ 6:=Qai (by decide) h0 (by show x*2 ^ 6<=2147483647;omega);rw[show(6:Int)=((6:Nat):Int) from rfl,e];obtain⟨m,rfl⟩:=Zau h0;obtain⟨c,rfl⟩:=Zau d;have:=Qfe (k:=.i32) (a:=m) (b:=c) (n:=6) ω (by show _<=(2147483647:Int);omega);grind
def uV (h0:Ch k<=x) (h1:x<=sw k):vz k x=x:=dw (cE.2 ⟨h0,h1⟩)
attribute [grind=] ba sQ Bm av a7 lb ie Qaf lF
@[grind=] theorem QrV (a b:Int):ay a b=decide (a<b):=rfl
@[grind=] theorem Qff (a b:Int):aH a b=decide (a<=b):=rfl
@[grind=] theorem tL (a b:Int):aC a b=decide (a=b):=rfl
@[grind=] theorem Qlh (a:Int) (n:Nat):bx a n=decide (a*n<=140737488355328):=rfl
@[grind=] theorem cS {α:Type} (d:α) (l:List α) (n:Nat):gt d l n=l.getD n d:=rfl
@[grind=] theorem QrW (a b:By):seq a b=decide (a=b):=rfl
@[grind=] theorem lf (p:Prop):Iv p=p:=propext ⟨λh=>h.out,λh=>⟨h⟩⟩
def fU:=And.intro @ie (And.intro @Qaf (And.intro @lF Zai))
def bH:=And.intro fU (And.intro @lf Zal)
def bI:=And.intro @nJ (And.intro @l9 (And.intro @km (And.intro @Qfc (And.intro @gk @oG))))
end sx
namespace syn
open Go Go.RowKit cls
variable {l:List UInt8} {i:Nat}
def Dr {G:List Gt} (h:i<G.length):G[i]?=some (G.getD i (0,0)):=getD_eq h _
theorem kn {m:List Rg} (h:cls.Good m):aV m=m:=Dg h λr=>by
 cases a:bf m r
 ·simp
 ·obtain⟨p,b,h1,c⟩:=(rE m r).1 a;have:=h.1 p b;grind [f_,tF]
theorem pA {r:Int} (h:fj r):dZ r=[(r,r)]:=by
 have b:=(f_ r).1 h;refine kn ⟨λp a=>?_,by simp⟩;grind [tF]
def bY (c:Nat):Int×Nat×Nat:=
 if c<128 then(0,0,0) else if c<194 then(-1,0,0) else if c<224 then(1,128,191) else if c=224 then(2,160,191) else if c=237 then(2,128,159)
 else if c<240 then(2,128,191) else if c=240 then(3,144,191) else if c<244 then(3,128,191) else if c=244 then(3,128,143) else(-1,0,0)
def di:Nat->Int->Nat->Nat->List UInt8->Option Int
 | 0,r,_,_,_=>some r
 | _+1,_,_,_,[]=>none
 | k+1,r,lo,hi,b::t=>if b.toNat<lo\/hi<b.toNat then none else di k (r*64+b.toNat % 64) 128 191 t
def start (k:Int) (c:Nat):Int:=if k=0 then c else if k=1 then(c % 32:Nat) else if k=2 then(c % 16:Nat) else(c % 8:Nat)
def cr:List UInt8->Int×Int
 | []=>(0,0)
 | c::t=>if (bY c.toNat).1<0 then(0,0) else match di (bY c.toNat).1.toNat (start (bY c.toNat).1 c.toNat) (bY c.toNat).2.1 (bY c.toNat).2.2 t with
  | some r=>(r,(bY c.toNat).1+1)
  | none=>(0,0)
def iR (c:Nat):((bY c).1= -1\/(bY c).1=0\/(bY c).1=1\/(bY c).1=2\/(bY c).1=3)/\(bY c).2.1<256/\(bY c).2.2<256:=by
 unfold bY
 repeat' split
 all_goals simp
theorem tM (x:UInt8) (t:List UInt8) {n:Nat} {k:Int} {lo hi:Nat} (b:x.toNat=n) (a:bY n=(k,lo,hi)):cr (x::t)=if k<0 then(0,0) else match di k.toNat (start k n) lo hi t with
  | some r=>(r,k+1)
  | none=>(0,0):=by
 grind [cr]
def ig:Nat->List UInt8->List Gt
 | 0,_=>[]
 | n+1,l=>if l=[] then[] else if (cr l).2=0 then(65533,1)::ig n (l.drop 1) else cr l::ig n (l.drop (cr l).2.toNat)
def bb (l:List UInt8):List Gt:=ig l.length l
theorem qu:∀(k:Nat) (r:Int) (lo hi:Nat) (t:List UInt8) (x:Int),di k r lo hi t=some x->k<=t.length
 | 0,_,_,_,_,_,_=>Zaj _
 | k+1,r,lo,hi,[],x,h=>by cases h
 | k+1,r,lo,hi,b::t,x,h=>by
  rw[di] at h;split at h
  ·cases h
  ·have:=qu k _ _ _ t x h;simp;omega
theorem ko (l:List UInt8):(cr l).2=0\/∃n:Nat,(cr l).2=n/\1<=n/\n<=l.length/\n<=4:=by
 rcases l with _ | ⟨c,t⟩
 ·exact .inl rfl
 ·have d:=(iR c.toNat).1;obtain⟨m,b⟩:∃m,bY c.toNat=m:=⟨_,rfl⟩;obtain⟨k,lo,hi⟩:=m;rw[tM c t rfl b];rw[b] at d;split
  ·omega
  ·cases a:di k.toNat (start k c.toNat) lo hi t with
   | none=>exact .inl rfl
   | some r=>
    have:=qu _ _ _ _ _ _ a;refine .inr ⟨k.toNat+1,?_,?_,?_,?_⟩
    ·grind
    ·omega
    ·grind
    ·omega
theorem l_ (n:Nat):ig n []=[]:=by cases n<;>rfl
theorem ma (h:l≠[]) (h0:(cr l).2=0):ig (i+1) l=(65533,1)::ig i (l.drop 1):=by grind [ig]
theorem oH (h:l≠[]) {m:Nat} (h0:(cr l).2=m) (a:1<=m):ig (i+1) l=cr l::ig i (l.drop m):=by
 grind [ig]
theorem qw:∀(n k:Nat) (l:List UInt8),l.length<=n->l.length<=k->ig n l=ig k l
 | 0,k,l,h,_=>by
  grind [l_]
 | n+1,0,l,_,h=>by
  grind [l_]
 | n+1,k+1,l,h,b=>by
  by_cases hl:l=[]
  ·grind [l_]
  ·rcases ko l with h0 | ⟨m,a,h1,c,_⟩
   ·rw[ma hl h0,ma hl h0,qw n k _ (by grind) (by grind)]
   ·rw[oH hl a h1,oH hl a h1,qw n k _ (by grind) (by grind)]
theorem LZ {r lo hi x} (h:di 1 r lo hi l=some x):∃b:Nat,lo<=b/\b<=hi/\x=r*64+(b % 64:Nat):=by
 cases l with
 | nil=>cases h
 | cons b l=>
  grind [di]
theorem L0 {r lo hi x} (h:di 2 r lo hi l=some x):∃b d:Nat,lo<=b/\b<=hi/\128<=d/\d<=191/\x=(r*64+(b % 64:Nat))*64+(d % 64:Nat):=by
 cases l with
 | nil=>cases h
 | cons b l=>
  rw[di] at h;split at h
  ·cases h
  ·obtain⟨d,h1,a,c⟩:=LZ h;exact⟨b.toNat,d,ω,ω,h1,a,by assumption⟩
theorem PZ {r lo hi x} (h:di 3 r lo hi l=some x):∃b d f:Nat,lo<=b/\b<=hi/\128<=d/\d<=191/\128<=f/\f<=191/\x=((r*64+(b % 64:Nat))*64+(d % 64:Nat))*64+(f % 64:Nat):=by
 cases l with
 | nil=>cases h
 | cons b l=>
  rw[di] at h;split at h
  ·cases h
  ·obtain⟨d,f,h1,a,c,e,g⟩:=L0 h;exact⟨b.toNat,d,f,ω,ω,h1,a,c,e,by assumption⟩
def F4 (n:Nat):(n<128/\bY n=(0,0,0))\/bY n=(-1,0,0)\/(194<=n/\n<224/\bY n=(1,128,191))\/(n=224/\bY n=(2,160,191))\/(n=237/\bY n=(2,128,159))\/
  (225<=n/\n<240/\n≠237/\bY n=(2,128,191))\/(n=240/\bY n=(3,144,191))\/(241<=n/\n<244/\bY n=(3,128,191))\/(n=244/\bY n=(3,128,143)):=by
 unfold bY
 repeat' split
 all_goals simp
 all_goals omega
theorem Dt:∀l:List UInt8,(cr l).2≠0->fj (cr l).1
 | [],h=>absurd rfl h
 | c::t,h=>by
  have d:=λ{k:Int} {lo hi:Nat}=>tM c t (n:=c.toNat) (k:=k) (lo:=lo) (hi:=hi) rfl
  rw[f_];rcases F4 c.toNat with⟨h1,a⟩ | a | ⟨h1,b,a⟩ | ⟨h1,a⟩ | ⟨h1,a⟩ | ⟨h1,b,e,a⟩ | ⟨h1,a⟩ | ⟨h1,b,a⟩ | ⟨h1,a⟩
  all_goals grind [di,start,LZ,L0,PZ]
theorem oJ:∀(n:Nat) (l:List UInt8),∀g∈ig n l,fj g.1
 | 0,l,g,h=>by cases h
 | n+1,l,g,h=>by
  by_cases hl:l=[]
  ·grind [l_]
  ·rcases ko l with h0 | ⟨m,a,h1,b,c⟩
   ·rw[ma hl h0] at h;rcases Zbf.1 h with rfl | h
    ·decide
    ·exact oJ n _ g h
   ·rw[oH hl a h1] at h;rcases Zbf.1 h with rfl | h
    ·grind [Dt]
    ·exact oJ n _ g h
theorem wM (h:i<(bb l).length):fj (aJ (bb l) i):=
 oJ _ _ _ (ZaJ (Dr h))
theorem Jy (l:List UInt8) (i:Nat):0<=aJ (bb l) i:=by
 grind [f_,wM,aJ]
def s3:aV [(9,10),(13,13),(32,32)]=[(9,10),(13,13),(32,32)]:=kn ⟨by simp[tF],by simp⟩
def w4:aV [(48,57),(65,90),(95,95),(97,122)]=[(48,57),(65,90),(95,95),(97,122)]:=kn ⟨by simp[tF],by simp⟩
theorem F5 (l:List UInt8):Fx (bb l) where
 one i h:=pA (wM h)
 n:=pA (by decide)
 t:=pA (by decide)
 r:=pA (by decide)
 d:=kn ⟨by simp[tF],by simp⟩
 s:=by rw[s3];rfl
 w:=by rw[w4];rfl
 s0:=by rw[s3];simp
 w0:=by rw[w4];simp
 not l:=by
  show aV (gW 0 (aV (aV l)))=aV (gW 0 (aV l))
  rw[kn (dI l).1]
theorem F6 (l:List UInt8):FV (bb l)=wA (bb l):=LY (F5 l)
end syn
set_option maxRecDepth 100000
set_option maxHeartbeats 4000000
namespace sx
noncomputable section
open Go Go.RowKit cls syn
def jm:Nat->Nat->Nat->By->Bool
 | 0,_,_,_=>false
 | _+1,_,_,[]=>true
 | k+1,lo,hi,b::t=>if b.toNat<lo\/hi<b.toNat then false else jm k 128 191 t
def mo (y:By):Int×Nat×Nat:=bY (y.getD 0 0).toNat
def gF (y:By):Bool:=decide (y≠[])&&decide (0<=(mo y).1)&&jm (mo y).1.toNat (mo y).2.1 (mo y).2.2 (y.drop 1)
def in1 (args:List (AV D.E)):C Int:=match args with
 | [a]=>aL (cA a) λ_ n=>.ret n
 | _=>.fail
def L4 (args:List (AV D.E)) (s:St D.E):C By:=match args with
 | [a]=>az (aU D s 0 a) λl=>.ret (l:By)
 | _=>.fail
def F7 (y:Int):Prop:=0<=y/\y<256
abbrev bL (f:FuncId) (Y:Type) (ya:List (AV D.E)->St D.E->C Y) (pre:Y->Prop) (args:Y->List (AV D.E)) (res:Y->AV D.E):br D:=⟨f,Y,ya,pre,args,λ_=>[],res,λ_=>[],0,0⟩
def zE:br D:=bL 139 Int (λa _=>in1 a) F7 (λy=>[.int .u8 y]) λy=>.tuple [QsE (bY y.toNat).1,.int .u8 ((bY y.toNat).2.1:Nat),.int .u8 ((bY y.toNat).2.2:Nat)]
def Qfh (_:zE.Y):cO D:=ew ()
def oK:br D:=bL 99 By L4 (λ_=>True) (λy=>[.list 0 y]) λy=>.tuple [.int .i32 (cr y).1,QsE (cr y).2,.bool (gF y)]
def uh (y:By) (i:Nat):Int:=if i=1 then((mo y).2.1:Nat) else 128
def sR (y:By) (i:Nat):Int:=if i=1 then((mo y).2.2:Nat) else 191
def ui (y:By):Int:=syn.start (mo y).1 (y.getD 0 0).toNat
def wN (y:By) (i:Nat) (r:Int):Prop:=1<=i/\(i:Int)<=(mo y).1+1/\0<=r/\r<128*64 ^ (i-1)/\di (mo y).1.toNat (ui y) (mo y).2.1 (mo y).2.2 (y.drop 1)=di ((mo y).1.toNat+1-i) r (uh y i).toNat (sR y i).toNat (y.drop i)/\
 jm (mo y).1.toNat (mo y).2.1 (mo y).2.2 (y.drop 1)=jm ((mo y).1.toNat+1-i) (uh y i).toNat (sR y i).toNat (y.drop i)
def Qcx (y:oK.Y):cO D:=⟨[],[],[(1018,⟨Nat×Int,[0,5],λx=>[(2,.int .i32 x.2),(6,.int .u8 (uh y x.1)),(7,.int .u8 (sR y x.1)),(8,QsE x.1)],[],λ_=>[],0,λx=>wN y x.1 x.2,λx=>5-x.1⟩)],
 [(63,⟨Unit,[0,5,6,7],λ_=>[(2,.int .i32 (ui y))],[],λ_=>[],0,λ_=>True,λ_=>0⟩)],1,[]⟩
def F8:br D:=bL 58 By L4 (λy=>y.length<=1000000) (λy=>[.list 0 y]) λy=>.list 13 (bb y)
def Qli (y:F8.Y):cO D:=⟨[],[],[(28,⟨By×List Gt,[],λx=>[(0,.list 0 x.1),(3,.grow 13 x.2 0)],[],λ_=>[(0,.tok 13 125)],1,λx=>x.2++bb x.1=bb y/\x.1.length+x.2.length<=y.length,λx=>x.1.length⟩)],[],1,[]⟩
structure qy where
 pl:List Int
 us:List Item
def spO (b n m:Nat) (y:qy):List (Nat×AO D.E):=[(b,.cells [.own n 1 (ag y.pl),.own m 2 (ag y.us)] 309 false),(n,.arr 5 y.pl 3 false),(m,.arr 18 y.us 327 false)]
def Qlk (v:AV D.E) (s:St D.E):C qy:=match v with
 | .ptr b _=>az (cN (s.h.get b)) λo=>match o with
  | .cells cs _ _=>match cs with
   | [p,l]=>az (aU D s 5 p) λp=>az (aU D s 18 l) λl=>.ret ⟨p,l⟩
   | _=>.fail
  | _=>.fail
 | _=>.fail
def it0:Item:=⟨0,false⟩
def Oc:List Item:=[]
def zrs (n:Int):List Int:=List.replicate n.toNat 0
def F9 (y:qy) (i:Int):Bool:=decide (0<=i)&&decide (i<y.pl.length)&&decide (y.pl.getD i.toNat 0<y.us.length)&&decide ((y.us.getD (y.pl.getD i.toNat 0).toNat it0).i=i)
def mb (y:qy) (i:Int):Bool:=decide (0<=i)&&decide (i<y.pl.length)&&!F9 y i
def nf (y:qy) (i:Int) (x:Bool):qy:=if mb y i=true then⟨y.pl.set i.toNat y.us.length,y.us++[⟨i,x⟩]⟩ else y
structure LnY where
 n:Int
 l:Bool
def L5:br D:=⟨131,Unit,λ_ _=>.ret (),λ_=>True,λ_=>[],λ_=>[],λ_=>.agg [QsE (-1),QsE (-1),QsE (-1),QsE (-1),QsE (-1),QsE (-1),QsE (-1),QsE (-1),QsE (-1),QsE (-1)],λ_=>[],0,0⟩
structure eu where
 ab:List aS
 aj:List Int
def lN (y:eu):Prop:=y.ab.length<=1000/\y.aj.length<=1000/\∀x∈y.ab,x.bg.length<=1000000
def yc (y:eu):AV D.E:=.agg [.list 8 y.ab,.list 5 y.aj]
def sS (v:AV D.E) (s:St D.E):C eu:=az (asAgg v) λcs=>match cs with
 | [c,l]=>az (aU D s 8 c) λc=>az (aU D s 5 l) λl=>.ret ⟨c,l⟩
 | _=>.fail
def Qfj:br D:=⟨191,eu,λa s=>match a with
 | [p]=>sS p s
 | _=>.fail,lN,λy=>[yc y],λ_=>[],yc,λ_=>[],0,0⟩
def Qln (y:Qfj.Y):cO D:=⟨[],[],[(58,⟨Nat,[2,11,12],λk=>[(3,.ptr 3 0),(13,QsE k)],[1],λk=>[(3,.cells [.grow 8 (y.ab.take k) 4,.list 5 y.aj] 72 false),(4,.tok 8 149)],5,λk=>k<=y.ab.length,λk=>y.ab.length-k⟩)],[],1,[]⟩
structure nZ where
 p:eu
 aO:Int
 L:List dh
 s:qy
variable {y:By}
def vmR (b m n:Nat) (y:nZ):List (Nat×AO D.E):=(b,.cells [.list 8 y.p.ab,.list 5 y.p.aj,.int .i64 y.aO,.own n 12 (ag y.L),.ptr (b+1) 0] 270 false)::(spO (b+1) (b+2) m y.s++[(n,.arr 2 y.L 128 false)])
def vmO (b:Nat) (y:nZ):List (Nat×AO D.E):=vmR b (b+3) (b+4) y
def Qlp (v:AV D.E) (s:St D.E):C nZ:=match v with
 | .ptr b _=>az (cN (s.h.get b)) λo=>match o with
  | .cells cs _ _=>match cs with
   | [c,l,n,x,q]=>az (aU D s 8 c) λc=>az (aU D s 5 l) λl=>aL (cA n) λ_ n=>az (aU D s 2 x) λx=>az (Qlk q s) λq=>.ret ⟨⟨c,l⟩,n,x,q⟩
   | _=>.fail
  | _=>.fail
 | _=>.fail
def Qlq (a:List (AV D.E)) (s:St D.E):C nZ:=match a with
 | [p]=>Qlp p s
 | _=>.fail
def nh (s:Int):dh:=⟨false,-1,-1,-1,-1,-1,-1,-1,-1,-1,-1,[⟨s,-1,-1,-1,-1,-1,-1,-1,-1,-1,-1⟩]⟩
def Qfk (y:nZ) (k:Nat):nZ:={ y with L:=y.L++(y.p.aj.take k).map nh }
def Du:br D:=⟨160,nZ,Qlq,λy=>y.p.aj.length+y.L.length<=1000000,λ_=>[.ptr 0 0],vmO 0,λ_=>.tuple [],λy=>vmR 0 3 5 (Qfk y y.p.aj.length),5,6⟩
def Qlr (y:Du.Y):cO D:=⟨[],[],[(6,⟨Nat,[0,8,9],λk=>[(10,QsE k)],[],λk=>vmR 0 3 5 (Qfk y k),6,λk=>k<=y.p.aj.length,λk=>y.p.aj.length-k⟩)],[],1,[]⟩
def Jz (y:Unit):Prop:=aa ([-1,-1,-1,-1,-1,-1,-1,-1,-1,-1]:List Int) (True)
abbrev RAL {T0:Type} (a:T0) (p:Prop):Prop:=aa [a] p
abbrev RAM {T0 T1:Type} (a:T0) (b:T1) (p:Prop):Prop:=aa [a] (aa [b] p)
def Qx (y:eu):Prop:=let a:=y.ab.length;let q1:=ag y.ab;bx (ag y.aj) 8=true/\(∃z:Nat,RAM y.ab q1 (0=(z:Int)/\[]=List.take z y.ab/\aa [y.aj] ((Iv (z<=a)))))/\(∀x:Nat,let b:=List.take x y.ab;let c:=gt (aS.mk 0 0 0 []) y.ab (x:Int).toNat;(Iv (x<=a))->ak (ay (x:Int) q1) (aH 0 (x:Int)=true/\ay (x:Int) q1=true/\bx (ag c.bg) 8=true/\bx (ag (bC b [c])) 48=true/\∃z:Nat,RAM y.ab q1 (aw .i64 (x:Int) 1=(z:Int)/\bC b [c]=List.take z y.ab/\aa [y.aj] ((Iv (z<=a/\(a-z)<(a-x)))))) (b=y.ab/\RAL y.aj (True)))
abbrev RAO {T0 T1 T2:Type} (a:T0) (b:T1) (c:T2) (p:Prop):Prop:=aa [a] (aa [b] (aa [c] p))
abbrev RAP {T0 T1 T2 T3:Type} (a:T0) (b:T1) (c:T2) (d:T3) (p:Prop):Prop:=aa [a] (aa [b] (aa [c] (aa [d] p)))
abbrev RA2 (v:eu) (p:Prop):Prop:=aa [v.ab] (aa [v.aj] p)
def Qak (y:nZ):Prop:=let a:=ag y.p.aj;let q1:=y.p.aj.length;let d:=λp:Prop=>RA2 y.p (RAL y.aO p);let e:=λp:Prop=>RAP (ag y.s.pl) (ag y.s.us) y.s.pl y.s.us p;let u:=λz:Nat=>y.L++List.map nh (List.take z y.p.aj);let A:=λx:Nat=>y.L++List.map nh (List.take x y.p.aj);let B:=y.L++List.map nh (List.take q1 y.p.aj);(∃z:Nat,RAM y.p.aj a (0=(z:Int)/\d (ag y.L=ag (u z)/\y.L=(u z)/\e ((Iv (z<=q1))))))/\(∀x:Nat,let b:=ag (A x);let c:=bC (A x) [dh.mk false (-1) (-1) (-1) (-1) (-1) (-1) (-1) (-1) (-1) (-1) [aK.mk (gt 0 y.p.aj (x:Int).toNat) (-1) (-1) (-1) (-1) (-1) (-1) (-1) (-1) (-1) (-1)]];(Iv (x<=q1))->ak (ay (x:Int) a) (aH 0 (x:Int)=true/\ay (x:Int) a=true/\Iv True/\Iv True/\bx (ag c) 112=true/\RAO b b b (∃z:Nat,aa [y.p.aj] (aa [a] (aw .i64 (x:Int) 1=(z:Int)/\d (ag c=ag (u z)/\c=(u z)/\e ((Iv (z<=q1/\(q1-z)<(q1-x))))))))) (d (b=ag B/\(A x)=B/\e (True))))
theorem Qal:Ok L5:=okZ (V:=Jz) [] f131 (λ_=>⟨[],[],[],[],11,[]⟩) trivial λy a=>by
 grind [Jz]
theorem Qlt (y:eu) (a:lN y):Qx y:=by
 unfold Qx;simp only[bI,bH,av,bm,a7,cS,Zad];obtain⟨h1,b,c⟩:y.ab.length<=1000/\y.aj.length<=1000/\∀x∈y.ab,x.bg.length<=1000000:=a;grind [List.take_append_getElem]
theorem Qy (L:List dh) {l:List Int} {x:Nat} (h:x<l.length):L++(l.take x).map nh++[nh (l.getD x 0)]=L++(l.take (x+1)).map nh:=by
 grind [List.take_append_getElem]
theorem Qfl:Ok Du:=okZ (V:=Qak) [L5] f160 Qlr Qal λy a=>by
 unfold Qak;simp only[bI,bH,av,bm,a7,cS,Zad];have h:y.p.aj.length+y.L.length<=1000000:=a;refine⟨⟨0,rfl,by simp,by simp,Zaj _⟩,λx b=>⟨λk=>?_,λk=>?_⟩⟩
 ·have hk:x<y.p.aj.length:=ω;have e:=Qy y.L hk;have hl:(y.L++(y.p.aj.take (x+1)).map nh).length<=1000001:=by
   grind
  refine⟨ω,k,?_,x+1,ba ω ω,ZaR (λl:List dh=>(l.length:Int)) e,e,ω,ω⟩;grind
 ·grind
def F_ (y:Int):Prop:=let c:=(bY y.toNat).2;let q1:=(bY y.toNat).1;let a:=(c.2:Int);let b:=(c.1:Int);let d:Prop:=((-1)=q1/\0=b/\0=a/\True);ak (ay y 128) (0=q1/\0=b/\0=a/\True) (ak (ay y 194) (d) (ak (ay y 224) (1=q1/\128=b/\191=a/\True) (ak (aC y 224) (2=q1/\160=b/\191=a/\True) (ak (aC y 237) (2=q1/\128=b/\159=a/\True) (ak (ay y 240) (2=q1/\128=b/\191=a/\True) (ak (aC y 240) (3=q1/\144=b/\191=a/\True) (ak (ay y 244) (3=q1/\128=b/\191=a/\True) (ak (aC y 244) (3=q1/\128=b/\143=a/\True) (d)))))))))
def Bn (y:List UInt8):Prop:=let c:=ag y;let q1:=((gt 0 y 0).toNat:Int);let a:=(bY q1.toNat).1;let j:=(bY q1.toNat).2;let g:=(j.2:Int);let h:=(j.1:Int);let e:Prop:=(0=(cr y).1/\0=(cr y).2/\false=gF y/\True);ak (aC c 0) (e) (Tt 1 (ay 0 c/\Iv (F7 q1)/\RAL q1 (ak (ay a 0) (e) (Tt 1 (ay 0 c/\(ak (ay 0 a) (Tt 1 (ay 0 c/\aH 0 (vz .u64 a)/\Tt 1 (∃z:Unit,aa [y] (aa [a,h,g] (pN .i32 (vz .i32 q1) (Qet .i32 63 (vz .u64 a))=ui y/\(Iv True)))))) (∃z:Unit,aa [y] (aa [a,h,g] (vz .i32 q1=ui y/\(Iv True)))))/\(∀x:Unit,(Iv True)->(∃z:Nat×Int,aa [y] (aa [a] (ui y=z.2/\h=uh y z.1/\g=sR y z.1/\1=(z.1:Int)/\(Iv (wN y z.1 z.2)))))/\(∀d:Nat×Int,let b:=(d.1:Int);let i:=((gt 0 y b.toNat).toNat:Int);let k:=ay (sR y d.1) i;let f:=ay i (uh y d.1);(Iv (wN y d.1 d.2))->ak (aH b a) (ak (aH c b) (0=(cr y).1/\0=(cr y).2/\true=gF y/\True) (aH 0 b/\ay b c/\ak f (e) (aH 0 b/\ay b c/\ak k (e) (Tt 1 (aH 0 b/\ay b c/\∃z:Nat×Int,aa [y] (aa [a] (N5 .i32 (su .i32 d.2 6) (vz .i32 (pN .u8 i 63))=z.2/\128=uh y z.1/\191=sR y z.1/\aw .i64 b 1=(z.1:Int)/\(Iv (wN y z.1 z.2/\(5-z.1)<(5-d.1)))))))))) (d.2=(cr y).1/\aw .i64 a 1=(cr y).2/\false=gF y/\True))))))))
def QA (y:List UInt8):Prop:=let u:=λz:(List UInt8)×(List (Int×Int))=>(z.2++bb z.1)=bb y/\(z.1.length+z.2.length)<=y.length;(∃z:(List UInt8)×(List (Int×Int)),y=z.1/\[]=z.2/\(Iv (u z)))/\(∀x:(List UInt8)×(List (Int×Int)),let a:=(cr x.1).2;let q1:=bC x.2 [(65533,1)];let b:=bC x.2 [((cr x.1).1,a)];(Iv ((x.2++bb x.1)=bb y/\(x.1.length+x.2.length)<=y.length))->ak (ay 0 (ag x.1)) (Iv True/\RAL x.1 (ak (aC a 0) (bx (ag q1) 16/\Tt 1 (aH 1 (ag x.1)/\∃z:(List UInt8)×(List (Int×Int)),qW x.1 1=z.1/\q1=z.2/\(Iv ((u z)/\z.1.length<x.1.length)))) (bx (ag b) 16/\aH 0 a/\aH a (ag x.1)/\∃z:(List UInt8)×(List (Int×Int)),qW x.1 a=z.1/\b=z.2/\(Iv ((u z)/\z.1.length<x.1.length))))) (x.2=bb y/\True))
theorem Qfm (y:Int) (a:zE.pre y):F_ y:=by
 obtain⟨h1,b⟩:F7 y:=a;obtain⟨n,rfl⟩:=Zau h1;unfold F_;simp only[bI,fU,Zad];refine⟨λh=>?_,λh=>⟨λh=>?_,λh=>⟨λh=>?_,λh=>⟨λh=>?_,λh=>⟨λh=>?_,λh=>⟨λh=>?_,λh=>⟨λh=>?_,λh=>⟨λh=>?_,λh=>⟨λh=>?_,λh=>?_⟩⟩⟩⟩⟩⟩⟩⟩⟩
 all_goals
  grind [bY]
def Qcz:Ok zE:=okZ [] f139 Qfh trivial Qfm
def mc (y:By) (i:Nat):((y.getD i 0).toNat:Int)<256:=by have:=(y.getD i 0).toNat_lt;omega
theorem pB (h:y≠[]):cr y=if (mo y).1<0 then(0,0) else match di (mo y).1.toNat (ui y) (mo y).2.1 (mo y).2.2 (y.drop 1) with
  | some r=>(r,(mo y).1+1)
  | none=>(0,0):=by
 cases y with
 | nil=>exact absurd rfl h
 | cons c t=>rfl
theorem QcA {y:By}:0<=ui y/\ui y<256:=by
 have:=mc y 0;grind [ui,syn.start]
theorem QcB (h:0<=(mo y).1):ui y<128:=by
 have:=mc y 0;unfold ui syn.start mo at*
 repeat' split
 all_goals grind [bY]
theorem QcC (y:By) (n:oK.pre y):Bn y:=by
 have m:=(iR (y.getD 0 0).toNat).1;have g:=(iR (y.getD 0 0).toNat).2;have l:bY (y.getD 0 0).toNat=mo y:=rfl;rw[l] at m g;have B:=mc y 0;unfold Bn;simp only[bI,fU,av,gt,Zad,l];have hl:(y.length:Int)≠0->y≠[]:=λh e=>h (by grind)
 refine⟨λh=>?_,λh=>⟨ω,⟨by grind [F7]⟩,λj=>?_,λj=>⟨ω,⟨λp=>⟨ω,?_,?_⟩,λp=>⟨(),?_,⟨trivial⟩⟩⟩,λ_ _=>⟨⟨(1,ui y),rfl,by rfl,by rfl,rfl,⟨?_⟩⟩,λx A=>?_⟩⟩⟩⟩
 ·obtain rfl:y=[]:=Zap ω;exact⟨rfl,rfl,rfl⟩
 ·grind [pB,gF]
 ·grind [Qfd]
 ·refine⟨(),?_,⟨trivial⟩⟩;rw[uV (k:=.i32) (by show(-2147483648:Int)<=_;omega) (by show _<=(2147483647:Int);omega),Qfd ω ω];unfold ui syn.start;rcases m with e | e | e | e | e
  ·omega
  ·omega
  ·rw[e];exact Qv (k:=.i32) ω (by show _<=(2147483647:Int);omega)
  ·rw[e];exact Qw (k:=.i32) ω (by show _<=(2147483647:Int);omega)
  ·rw[e];exact Qah (k:=.i32) ω (by show _<=(2147483647:Int);omega)
 ·rw[uV (k:=.i32) (by show(-2147483648:Int)<=_;omega) (by show _<=(2147483647:Int);omega)];grind [ui,syn.start]
 ·have:=@QcA y;refine⟨Zah _,ω,this.1,by have:=QcB j;simpa using this,?_,?_⟩
  ·rfl
  ·rfl
 ·obtain⟨i,r⟩:=x;obtain⟨i1,i2,i3,i4,i5,i6⟩:wN y i r:=A.out;have f:=hl h;have b:=pB f;rw[Zaa ω] at b;have hk:i<=4:=ω;have bi:=mc y i;have a:gF y=jm (mo y).1.toNat (mo y).2.1 (mo y).2.2 (y.drop 1):=by grind [gF]
  simp only at*
  rw[i5] at b;rw[i6] at a;refine⟨λq=>?_,λq=>?_⟩
  ·obtain⟨d,c⟩:∃d,(mo y).1.toNat+1-i=d+1:=⟨(mo y).1.toNat-i,ω⟩;rw[c] at b a;refine⟨λs=>?_,λs=>⟨ω,ω,?_⟩⟩
   ·have e:y.drop i=[]:=Zbu ω;rw[e] at b a;rw[b,a];exact⟨rfl,rfl,rfl⟩
   ·have e:y.drop i=y.getD i 0::y.drop (i+1):=by
     simp_all
    rw[e] at b a;simp only[di,jm] at b a;have z:0<=uh y i:=by grind [uh]
    have w:0<=sR y i:=by unfold sR;split<;>omega
    have bad:((y.getD i 0).toNat:Int)<uh y i\/sR y i<((y.getD i 0).toNat:Int)->cr y=(0,0)/\gF y=false:=λv=>by
     grind
    refine⟨λt=>?_,λt=>⟨ω,ω,λu=>?_,λu=>⟨ω,ω,?_⟩⟩⟩
    ·grind
    ·grind
    ·rw[Qu (k:=.u8) ω (by show _<=(255:Int);omega),uV (k:=.i32) (by show(-2147483648:Int)<=_;omega) (by show _<=(2147483647:Int);omega)];have v:r<524288:=by
      have hi:i=1\/i=2\/i=3:=ω;grind
     rw[six i3 ω ω ω];refine⟨(i+1,r*64+((y.getD i 0).toNat:Int) % 64),rfl,by simp[uh];omega,by simp[sR];omega,ba ω ω,⟨⟨ω,ω,ω,?_,?_,?_⟩,ω⟩⟩
     ·have hi:i=1\/i=2\/i=3:=ω;grind
     ·rw[i5,c,e];simp only[di];rw[Zaa ω];have o:uh y (i+1)=128:=by grind [uh]
      have e2:sR y (i+1)=191:=by unfold sR;rw[Zaa ω]
      grind
     ·rw[i6,c,e];simp only[jm];rw[Zaa ω];have o:uh y (i+1)=128:=by grind [uh]
      have e2:sR y (i+1)=191:=by unfold sR;rw[Zaa ω]
      grind
  ·rw[show(mo y).1.toNat+1-i=0 by omega] at b a;grind [di,jm]
def Bo:Ok oK:=okZ [zE] f99 Qcx Qcz QcC
theorem Dv (h:y≠[]) (h0:(cr y).2=0):bb y=(65533,1)::bb (y.drop 1):=by
 have b:=Zbe.2 h;unfold bb;obtain⟨n,a⟩:∃n,y.length=n+1:=⟨y.length-1,ω⟩;grind [ma]
theorem JA {m:Nat} (h:y≠[]) (h0:(cr y).2=m) (a:1<=m):bb y=cr y::bb (y.drop m):=by
 have c:=Zbe.2 h;unfold bb;obtain⟨n,b⟩:∃n,y.length=n+1:=⟨y.length-1,ω⟩;grind [oH,qw]
theorem Qlu (y:By) (b:F8.pre y):QA y:=by
 have b:y.length<=1000000:=b;unfold QA;simp only[bI,fU,av,a7,bm];refine⟨⟨(y,[]),rfl,rfl,⟨rfl,by simp⟩⟩,λx f=>?_⟩;obtain⟨l,out⟩:=x;obtain⟨h1,g⟩:=f.out;simp only at*
 refine⟨λh=>⟨⟨trivial⟩,λc=>?_,λc=>?_⟩,λh=>?_⟩
 ·have a:l≠[]:=λe=>by grind
  refine⟨by grind,ω,(l.drop 1,out++[(65533,1)]),rfl,rfl,⟨⟨?_,by grind⟩,by grind⟩⟩;grind [Dv]
 ·have a:l≠[]:=λe=>by grind
  rcases ko l with h0 | ⟨m,d,m1,m2,_⟩
  ·omega
  ·refine⟨by grind,ω,ω,(l.drop m,out++[cr l]),?_,rfl,⟨⟨?_,by grind⟩,by grind⟩⟩
   ·rw[d];rfl
   ·grind [JA]
 ·obtain rfl:l=[]:=Zap ω;grind [bb,ig]
def Qfn:Ok F8:=okZ [oK] f58 Qli Bo Qlu
def in2 (args:List (AV D.E)):C (Int×Int):=match args with
 | [a,b]=>aL (cA a) λ_ m=>aL (cA b) λ_ n=>.ret (m,n)
 | _=>.fail
def zF:br D:=bL 168 Int (λa _=>in1 a) F7 (λy=>[.int .u8 y]) λy=>QsE ((bY y.toNat).1+1)
def Qfo (_:zF.Y):cO D:=ew ()
def L7 (c d:Int):Bool:=if c=224 then decide (160<=d)&&decide (d<=191) else if c=237 then decide (128<=d)&&decide (d<=159) else if c=240 then decide (144<=d)&&decide (d<=191)
 else if c=244 then decide (128<=d)&&decide (d<=143) else decide (128<=d)&&decide (d<=191)
def L8:br D:=bL 169 (Int×Int) (λa _=>in2 a) (λ_=>True) (λy=>[.int .u8 y.1,.int .u8 y.2]) λy=>.bool (L7 y.1 y.2)
def Qlv (_:L8.Y):cO D:=ew ()
def qe (y:By):Option Int:=di (mo y).1.toNat (ui y) (mo y).2.1 (mo y).2.2 (y.drop 1)
def wO (y:By):Bool:=jm (mo y).1.toNat (mo y).2.1 (mo y).2.2 (y.drop 1)
def eE (y:By):Int×Int:=if y=[]\/(mo y).1<0 then(0,0) else if (qe y).isSome then((mo y).1+1,(mo y).1+1) else if wO y then(y.length,(mo y).1+1) else(0,0)
def wP:br D:=bL 128 By L4 (λ_=>True) (λy=>[.list 0 y]) λy=>.tuple [QsE (eE y).1,QsE (eE y).2]
def tN (y:By) (i:Nat):Prop:=1<=i/\(i:Int)<=(mo y).1+1/\i<=y.length/\(∃r,qe y=di ((mo y).1.toNat+1-i) r (uh y i).toNat (sR y i).toNat (y.drop i))/\wO y=jm ((mo y).1.toNat+1-i) (uh y i).toNat (sR y i).toNat (y.drop i)
def Qfq (y:wP.Y):cO D:=⟨[],[],[(122,⟨Nat,[0,4],λx=>[(5,QsE x)],[],λ_=>[],0,λx=>tN y x,λx=>5-x⟩)],[],1,[]⟩
def jx (y:By):Gt:=if (cr y).2=0 then(65533,1) else cr y
def wQ:br D:=bL 89 By L4 (λ_=>True) (λy=>[.list 0 y]) λy=>.agg (dy 13 (jx y))
def Qfs (y:wQ.Y):cO D:=⟨[],[],[],[(31,⟨Unit,[0,2,4],λ_=>[(5,.int .i32 (jx y).1)],[0],λ_=>[],1,λ_=>True,λ_=>0⟩)],1,[]⟩
def wR:br D:={ F8 with f:=69 }
def Qfu (y:wR.Y):cO D:=⟨[],[],[(28,⟨By×List Gt,[],λx=>[(0,.list 0 x.1),(3,.grow 13 x.2 0)],[],λ_=>[(0,.tok 13 125)],1,λx=>x.2++bb x.1=bb y/\x.1.length+x.2.length<=y.length,λx=>x.1.length⟩)],[],1,[]⟩
def Ga:br D:=bL 88 By L4 (λ_=>True) (λy=>[.list 0 y]) λy=>.bool (gF y)
def Qlx (_:Ga.Y):cO D:=ew ()
def Gb (y:Int):Prop:=let a:Prop:=(0=((bY y.toNat).1+1)/\True);let q1:Prop:=(ak (aH 240 y) (ak (aH y 244) (4=((bY y.toNat).1+1)/\True) (a)) (a));let b:Prop:=(ak (aH 224 y) (ak (aH y 239) (3=((bY y.toNat).1+1)/\True) (q1)) (q1));ak (ay y 128) (1=((bY y.toNat).1+1)/\True) (ak (aH 194 y) (ak (aH y 223) (2=((bY y.toNat).1+1)/\True) (b)) (b))
def QC (y:Int×Int):Prop:=let a:=L7 y.1 y.2;ak (aC y.1 224) (ak (aH 160 y.2) (aH y.2 191=a/\True) (false=a/\True)) (ak (aC y.1 237) (ak (aH 128 y.2) (aH y.2 159=a/\True) (false=a/\True)) (ak (aC y.1 240) (ak (aH 144 y.2) (aH y.2 191=a/\True) (false=a/\True)) (ak (aC y.1 244) (ak (aH 128 y.2) (aH y.2 143=a/\True) (false=a/\True)) (ak (aH 128 y.2) (aH y.2 191=a/\True) (false=a/\True)))))
def Gc (y:List UInt8):Prop:=let c:=ag y;let q1:=(eE y).1;let f:=((gt 0 y 1).toNat:Int);let b:=((gt 0 y 0).toNat:Int);let l:=ay c ((bY b.toNat).1+1);let m:=aC ((bY b.toNat).1+1) 0;let k:=λp:Prop=>RAM y ((bY b.toNat).1+1) p;let e:Prop:=(0=q1/\0=(eE y).2/\True);let i:Prop:=(((bY b.toNat).1+1)=(eE y).2/\True);let j:Prop:=(ak l (c=q1/\i) (((bY b.toNat).1+1)=q1/\i));ak (aC c 0) (e) (Tt 1 (ay 0 c/\Iv (F7 b)/\RAL b (ak m (e) (Tt 1 (ay 0 c/\Iv (F7 b)/\aa [b] ((∃z:Nat,k (1=(z:Int)/\(Iv (tN y z))))/\(∀x:Nat,let a:=((gt 0 y (x:Int).toNat).toNat:Int);let g:=ay (x:Int) ((bY b.toNat).1+1);let d:Prop:=(∃z:Nat,k (aw .i64 (x:Int) 1=(z:Int)/\(Iv (tN y z/\(5-z)<(5-x)))));let h:Prop:=(aa [a,a] (ak (ay 191 a) (e) (d)));(Iv (tN y x))->ak g (ak (ay (x:Int) c) (ak (aC (x:Int) 1) (Tt 1 (ay 0 c/\Tt 1 (ay 1 c/\Iv True/\aa [b,f] (ak (!(L7 b f)) (aa [b,f] (e)) (ak (ay 1 (x:Int)) (aH 0 (x:Int)/\ay (x:Int) c/\ak (ay a 128) (aa [b,f,a] (e)) (aH 0 (x:Int)/\ay (x:Int) c/\aa [b,f,a,a] (ak (ay 191 a) (e) (d)))) (aa [b,f] (d))))))) (ak (ay 1 (x:Int)) (aH 0 (x:Int)/\ay (x:Int) c/\ak (ay a 128) (aa [a] (e)) (aH 0 (x:Int)/\ay (x:Int) c/\h)) (d))) (j)) (j))))))))
def Ge (y:List UInt8):Prop:=let c:=(eE y).2;let q1:=(jx y).1;let j:=aC (eE y).1 0;let k:=ay (eE y).1 c;let h:=((gt 0 y 3).toNat:Int);let f:=((gt 0 y 2).toNat:Int);let b:=((gt 0 y 0).toNat:Int);let e:=((gt 0 y 1).toNat:Int);let i:=vz .i32 (pN .u8 f 63);let g:=vz .i32 (pN .u8 e 63);let a:=λp:Prop=>RAM y c p;let d:Prop:=(65533=q1/\1=(jx y).2/\True);Iv True/\RAL y (ak j (d) (ak k (d) (Tt 1 (ay 0 (ag y)/\(ak (aC c 2) (Tt 1 (ay 0 (ag y)/\Tt 2 (ay 1 (ag y)/\aa [b,e] (∃z:Unit,a (N5 .i32 (su .i32 (vz .i32 (pN .u8 b 31)) 6) g=q1/\(Iv True)))))) (ak (aC c 3) (Tt 1 (ay 0 (ag y)/\Tt 2 (ay 1 (ag y)/\Tt 2 (ay 2 (ag y)/\aa [b,e,f] (∃z:Unit,a (N5 .i32 (N5 .i32 (su .i32 (vz .i32 (pN .u8 b 15)) 12) (su .i32 g 6)) i=q1/\(Iv True))))))) (ak (aC c 4) (Tt 1 (ay 0 (ag y)/\Tt 2 (ay 1 (ag y)/\Tt 2 (ay 2 (ag y)/\Tt 2 (ay 3 (ag y)/\aa [b,e,f,h] (∃z:Unit,a (N5 .i32 (N5 .i32 (N5 .i32 (su .i32 (vz .i32 (pN .u8 b 7)) 18) (su .i32 g 12)) (su .i32 i 6)) (vz .i32 (pN .u8 h 63))=q1/\(Iv True)))))))) (∃z:Unit,a (vz .i32 b=q1/\(Iv True))))))/\(∀x:Unit,(Iv True)->aa [q1] (c=(jx y).2/\True))))))
def Gf (y:List UInt8):Prop:=(∃z:(List UInt8)×(List (Int×Int)),y=z.1/\[]=z.2/\(Iv ((z.2++bb z.1)=bb y/\(z.1.length+z.2.length)<=y.length)))/\(∀x:(List UInt8)×(List (Int×Int)),let a:=(jx x.1).2;let q1:=bC x.2 [((jx x.1).1,a)];(Iv ((x.2++bb x.1)=bb y/\(x.1.length+x.2.length)<=y.length))->ak (ay 0 (ag x.1)) (Iv True/\RAL x.1 (bx (ag q1) 16/\aH 0 a/\aH a (ag x.1)/\∃z:(List UInt8)×(List (Int×Int)),qW x.1 a=z.1/\q1=z.2/\(Iv (((z.2++bb z.1)=bb y/\(z.1.length+z.2.length)<=y.length)/\z.1.length<x.1.length)))) (x.2=bb y/\True))
def QJ (y:List UInt8):Prop:=let a:=(eE y).1;let q1:=ay a (eE y).2;Iv True/\RAL y (ak (ay 0 a) (ak q1 (aC a (ag y)=gF y/\True) (false=gF y/\True)) (false=gF y/\True))
end
end sx
end Go.Proofs.YtklaonhcplaofaaGreat
