/- StreamWell: a part of the proof. -/
import Derived.Test.YtiiiphndmbabcaaGreatC2
import Derived.Test.YtiiiphndmbabcaaGreatProg
import Derived.KernelRfl
import Derived.OpenShut
import Derived.ProofKit
import Derived.Deep.Slices
set_option linter.all false
namespace Go.Proofs.YtiiiphndmbabcaaGreat
open Go.Proofs.Tryz
namespace syn
open Go Go.RowKit cls
def wS {α:Type} {l:List α} {i:Nat} {x:α} (h:l[i]?=some x):i<l.length:=(Zam.1 h).1
structure Nd where
 op:Int
 r:List Rg
 mn:Int
 mx:Int
 lz:Bool
 cap:Int
 af:Int
def Nd.tup (x:Nd):Int×List Rg×Int×Int×Bool×Int×Int:=(x.op,x.r,x.mn,x.mx,x.lz,x.cap,x.af)
theorem Nd.WQ {x y:Nd} (h:x.tup=y.tup):x=y:=by
 cases x;cases y;grind [Nd.tup]
instance:DecidableEq Nd:=λa b=>decidable_of_iff (a.tup=b.tup) ⟨Nd.WQ,λh=>by rw[h]⟩
def nd (op:Int):Nd:=⟨op,[],0,0,false,0,0⟩
def wT (l:List Rg):Nd:={ nd 2 with r:=l }
abbrev Gt:=Int×Int
structure Ps where
 i:Nat
 aq:Nat
 ab:Nat
 au:Int
 wh:Int
section
variable (G:List Gt)
def aF (i:Nat):Int:=((G.take i).map (·.2)).sum
def Ps.ax (s:Ps) (i:Nat) (e:Int):Ps:=if s.au=0 then { s with au:=e,wh:=aF G i } else s
def a_ (s:Ps) (r:Int):Bool:=match G[s.i]? with
 | some g=>g.1==r
 | none=>false
def Ps.next (s:Ps):Ps:={ s with i:=s.i+1 }
def bp (s:Ps) (r:Int):Ps:=if a_ G s r then s.next else s
def fi (i:Nat):Bool:=match G[i]? with
 | some g=>g.1==65533&&g.2==1
 | none=>false
def aK (i:Nat):Int:=(G.getD i (0,0)).1
def bX (op:Int):List (List Nd)->List Nd
 | []=>[nd 1]
 | [x]=>x
 | a=>{ nd op with af:=a.length }::a.flatten
def WR:List Rg:=lE [(10,10)]
def eg (r:Int):List Rg:=aX [(r,r)]
def iq (r:Int):Bool:=decide (33<=r)&&decide (r<=47)||decide (58<=r)&&decide (r<=64)||decide (91<=r)&&decide (r<=96)||decide (123<=r)&&decide (r<=126)
def mA (s:Ps) (a:Nat) (r:Int):Ps×List Rg×Bool:=
 if r=110 then(s,eg 10,true)
 else if r=116 then(s,eg 9,true)
 else if r=114 then(s,eg 13,true)
 else if r=100 then(s,aX [(48,57)],false)
 else if r=115 then(s,aX [(9,10),(13,13),(32,32)],false)
 else if r=119 then(s,aX [(48,57),(65,90),(95,95),(97,122)],false)
 else if iq r then(s,eg r,true)
 else(s.ax G a 4,[],false)
def d_ (s:Ps):Ps×List Rg×Bool:=
 let t:=s.next
 if G.length<=t.i then(t.ax G s.i 4,[],false)
 else if fi G t.i then(t.ax G t.i 4,[],false)
 else mA G t.next s.i (aK G t.i)
def b7 (s:Ps):Ps×List Rg×Bool:=
 if fi G s.i then(s.ax G s.i 4,[],false)
 else
  let r:=aK G s.i
  if r=92 then d_ G s
  else if r=91\/r=93\/r=45 then(s,[],false)
  else(s.next,[(r,r)],true)
def oT (l:List Rg):Int:=(l.getD 0 (0,0)).1
def j7 (a:List Rg) (one:Bool) (c:Nat) (s:Ps):Ps×List Rg:=
 let b:=if s.i<G.length then b7 G s else(s,[],false)
 let t:=if b.1.au=0/\(one=false\/b.2.2=false\/oT b.2.1<oT a) then b.1.ax G c 4 else b.1
 if t.au=0 then(t,[(oT a,oT b.2.1)]) else(t,[])
def ea (s:Ps):Ps×List Rg:=
 let a:=b7 G s
 if a.1.au≠0 then(a.1,[])
 else if a.2.1=[] then(a.1.ax G s.i 4,[])
 else if a_ G a.1 45 then j7 G a.2.1 a.2.2 s.i a.1.next
 else(a.1,a.2.1)
def dQ (a:Nat):Nat->Ps->List Rg->Bool->Ps×List Rg×Bool×Bool
 | 0,s,l,none_=>(s,l,none_,false)
 | n+1,s,l,none_=>
  if s.au=0/\a_ G s 93=false then
   if G.length<=s.i then(s.ax G a 4,l,none_,true)
   else dQ a n (ea G s).1 (l++(ea G s).2) false
  else(s,l,none_,false)
def rQ (s:Ps):Ps×List Nd:=
 let neg:=a_ G s.next 94
 let t:=bp G s.next 94
 let c:=dQ G s.i (G.length+2-t.i) t [] true
 if c.2.2.2 then(c.1,[])
 else if c.1.au≠0 then(c.1,[])
 else if c.2.2.1 then(c.1.ax G s.i 4,[])
 else(c.1.next,[wT (if neg then lE (aX c.2.1) else aX c.2.1)])
def cr:Nat->Nat->List UInt8->Nat×List UInt8
 | 0,i,b=>(i,b)
 | n+1,i,b=>if i<G.length/\48<=aK G i/\aK G i<=57 then
   cr n (i+1) (if 48<aK G i\/b≠[] then b++[UInt8.ofNat (aK G i).toNat] else b) else(i,b)
def dm (s:Ps):Ps:={ s with i:=(cr G (G.length-s.i) s.i []).1 }
def gO (s:Ps):List UInt8:=(cr G (G.length-s.i) s.i []).2
def gF (s:Ps):Bool:=decide (s.i<(cr G (G.length-s.i) s.i []).1)
end
def ir (a b:List UInt8):Bool:=decide (a.length<b.length)||(a.length==b.length&&Op.bytesLess a b)
def gV (l:List UInt8):Int:=l.foldl (λn c=>10*n+((c.toNat:Int) -48)) 0
def ew (l:List UInt8):Int×Bool:=if 2<l.length then(0,false) else(gV l,decide (gV l<=30))
section
variable (G:List Gt)
def nG (a:Nat) (s:Ps) (m n:List UInt8) (ok en:Bool):Ps×Int×Int:=
 if ok=false then(s.ax G a 4,0,0)
 else if a_ G s 125=false then(s.ax G a 4,0,0)
 else if en=false/\ir n m=true then(s.next.ax G a 4,0,0)
 else
  let lo:=ew m
  let hi:=ew (if en then[] else n)
  if lo.2=false\/hi.2=false then(s.next.ax G a 2,0,0)
  else(s.next,lo.1,if en then-1 else hi.1)
def gp (s:Ps):Ps×Int×Int:=
 let t:=dm G s.next
 let m:=gO G s.next
 let ok:=gF G s.next
 if ok/\a_ G t 44 then nG G s.i (dm G t.next) m (gO G t.next) ok (!gF G t.next)
 else nG G s.i t m m ok false
def hZ (ay:Ps->Ps×List Nd) (s:Ps):Ps×List Nd:=
 let free:=a_ G s.next 63
 let c:=if free then s.next.next else s.next
 if free/\a_ G c 58=false then(c.ax G s.i 4,[])
 else
  let s3:=if free then c.next else c
  if 20<=s3.aq then(s3.ax G s.i 10,[])
  else if free=false/\4<=s3.ab then(s3.ax G s.i 13,[])
  else
   let d:Ps:=if free then s3 else { s3 with ab:=s3.ab+1 }
   let a:=ay { d with aq:=d.aq+1 }
   let b:Ps:={ a.1 with aq:=a.1.aq-1 }
   if b.au=0/\a_ G b 41=false then(b.ax G s.i 4,[])
   else
    let e:Ps:=if b.au=0 then b.next else b
    if free then(e,a.2) else(e,{ nd 6 with cap:=d.ab,af:=1 }::a.2)
def jd (ay:Ps->Ps×List Nd) (s:Ps):Ps×List Nd:=
 if fi G s.i then(s.ax G s.i 4,[])
 else
  let r:=aK G s.i
  if r=40 then hZ G ay s
  else if r=91 then rQ G s
  else if r=92 then((d_ G s).1,[wT (d_ G s).2.1])
  else if r=46 then(s.next,[wT WR])
  else if r=94 then(s.next,[nd 7])
  else if r=36 then(s.next,[nd 8])
  else if r=42\/r=43\/r=63\/r=41\/r=93\/r=123\/r=125\/r=124 then(s.ax G s.i 4,[])
  else(s.next,[wT (eg r)])
def nH (s:Ps) (mn mx:Int) (x:List Nd):Ps×List Nd:=
 if s.au≠0 then(s,[])
 else(bp G s 63,{ nd 5 with mn:=mn,mx:=mx,lz:=a_ G s 63,af:=1 }::x)
def fu (ay:Ps->Ps×List Nd) (s:Ps):Ps×List Nd:=
 let a:=jd G ay s
 if a.1.au≠0 then(a.1,[])
 else if a_ G a.1 42 then nH G a.1.next 0 (-1) a.2
 else if a_ G a.1 43 then nH G a.1.next 1 (-1) a.2
 else if a_ G a.1 63 then nH G a.1.next 0 1 a.2
 else if a_ G a.1 123 then nH G (gp G a.1).1 (gp G a.1).2.1 (gp G a.1).2.2 a.2
 else a
def eE (ay:Ps->Ps×List Nd):Nat->Ps->List (List Nd)->Ps×List (List Nd)
 | 0,s,a=>(s,a)
 | n+1,s,a=>
  if s.au=0/\s.i<G.length/\a_ G s 124=false/\¬(a_ G s 41/\0<s.aq) then eE ay n (fu G ay s).1 (a++[(fu G ay s).2])
  else(s,a)
def mB (ay:Ps->Ps×List Nd) (s:Ps):Ps×List Nd:=
 let c:=eE G ay (G.length+2-s.i) s []
 (c.1,bX 3 c.2)
def gu (ay:Ps->Ps×List Nd):Nat->Ps->List (List Nd)->Ps×List (List Nd)
 | 0,s,a=>(s,a)
 | n+1,s,a=>
  if s.au=0/\a_ G s 124=true then gu ay n (mB G ay s.next).1 (a++[(mB G ay s.next).2])
  else(s,a)
def Dq (ay:Ps->Ps×List Nd) (s:Ps):Ps×List Nd:=
 let c:=mB G ay s
 let d:=gu G ay (G.length+2-c.1.i) c.1 [c.2]
 (d.1,bX 4 d.2)
def qI:Nat->Ps->Ps×List Nd
 | 0,s=>(s,[])
 | n+1,s=>Dq G (qI n) s
def N_:Ps:=⟨0,0,0,0,0⟩
def wU:List Nd×Int×Int:=
 let a:=qI G 21 N_
 let s:=if a.1.au=0/\a.1.i<G.length then a.1.ax G a.1.i 4 else a.1
 if s.au≠0 then([],s.au,s.wh) else(a.2,0,0)
end
section
variable {G:List Gt}
@[simp] theorem WS (s:Ps) (k:Nat) (e:Int):(s.ax G k e).i=s.i:=by grind [Ps.ax]
@[simp] theorem Qao (s:Ps) (k:Nat) (e:Int):(s.ax G k e).aq=s.aq:=by grind [Ps.ax]
@[simp] theorem Bw (s:Ps) (k:Nat) (e:Int):(s.ax G k e).ab=s.ab:=by grind [Ps.ax]
theorem fj (s:Ps) (k:Nat) {e:Int} (a:e≠0):(s.ax G k e).au≠0:=by
 grind [Ps.ax]
@[simp] theorem jj (s:Ps):s.next.i=s.i+1:=rfl
@[simp] theorem Qcz (s:Ps):s.next.aq=s.aq:=rfl
@[simp] theorem Qap (s:Ps):s.next.ab=s.ab:=rfl
@[simp] theorem Qfs (s:Ps):s.next.au=s.au:=rfl
theorem c_ {s:Ps} {r:Int} (h:a_ G s r):s.i<G.length:=by
 grind [a_]
structure gf (G:List Gt) (s t:Ps):Prop where
 le:s.i<=t.i
 len:t.i<=G.length
 op:t.aq=s.aq
 gr:s.ab<=t.ab
 gm:t.ab<=4
variable {s Z:Ps}
def gf.trans {u:Ps} (h:gf G s Z) (a:gf G Z u):gf G s u:=
 ⟨Zav h.le a.le,a.len,a.op.trans h.op,Zav h.gr a.gr,a.gm⟩
theorem gf.refl (h:s.i<=G.length) (a:s.ab<=4):gf G s s:=⟨Zah _,h,rfl,Zah _,a⟩
theorem gf.ax (h:gf G s Z) (k:Nat) (e:Int):gf G s (Z.ax G k e):=⟨by simpa using h.le,by simpa using h.len,by simpa using h.op,by simpa using h.gr,by simpa using h.gm⟩
theorem gf.next (h:gf G s Z) (hl:Z.i<G.length):gf G s Z.next:=⟨by have:=h.le;simp;omega,by simp;omega,h.op,h.gr,h.gm⟩
def gf.skip (h:gf G s Z) (r:Int):gf G s (bp G Z r):=by
 unfold bp;split
 ·rename_i a
  exact h.next (c_ a)
 ·exact h
theorem PL (s:Ps) (a:Nat) (r:Int):(mA G s a r).1=s\/(mA G s a r).1=s.ax G a 4:=by
 grind [mA]
def pM (l:List Rg):(aX l).length<=2*l.length:=(dP l).2.2
theorem zA (s:Ps) (a:Nat) (r:Int):(mA G s a r).2.1.length<=8:=by
 unfold mA
 repeat' split
 all_goals first | exact Zav (pM _) (by simp) | simp
theorem zB (h:gf G s Z) (hl:Z.i<G.length):gf G s (d_ G Z).1/\Z.i<(d_ G Z).1.i/\(d_ G Z).2.1.length<=8:=by
 unfold d_;simp only;split
 ·exact⟨(h.next hl).ax _ _,by simp,by simp⟩
 ·split
  ·exact⟨(h.next hl).ax _ _,by simp,by simp⟩
  ·have a:=(h.next hl).next ω;refine⟨?_,?_,zA _ _ _⟩
   ·rcases PL (G:=G) Z.next.next Z.i (aK G Z.next.i) with e | e<;>rw[e]
    ·exact a
    ·exact a.ax _ _
   ·rcases PL (G:=G) Z.next.next Z.i (aK G Z.next.i) with e | e<;>rw[e]<;>simp<;>omega
theorem mC (h:gf G s Z) (hl:Z.i<G.length):gf G s (b7 G Z).1/\((b7 G Z).2.1≠[]->Z.i<(b7 G Z).1.i)/\(b7 G Z).2.1.length<=8:=by
 unfold b7;split
 ·exact⟨h.ax _ _,by simp,by simp⟩
 ·simp only;split
  ·grind [zB]
  ·split
   ·grind
   ·exact⟨h.next hl,λ_=>by simp,by simp⟩
theorem L6 (h:gf G s Z) (a:List Rg) (one:Bool) (c:Nat):gf G s (j7 G a one c Z).1/\Z.i<=(j7 G a one c Z).1.i/\(j7 G a one c Z).2.length<=8:=by
 have key:gf G s (if Z.i<G.length then b7 G Z else(Z,[],false)).1/\Z.i<=(if Z.i<G.length then b7 G Z else(Z,[],false)).1.i:=by
  split
  ·rename_i hl
   refine⟨(mC h hl).1,?_⟩;exact((mC (gf.refl (s:=Z) h.len h.gm) hl).1).le
  ·grind
 unfold j7;simp only;generalize (if Z.i<G.length then b7 G Z else(Z,[],false))=b at key;have⟨k1,k2⟩:=key
 repeat' split
 all_goals first | exact⟨k1.ax _ _,by simp_all,by simp⟩ | exact⟨k1,k2,by simp⟩
theorem ky (h:gf G s Z) (hl:Z.i<G.length):gf G s (ea G Z).1/\((ea G Z).1.au=0->Z.i<(ea G Z).1.i)/\(ea G Z).2.length<=8:=by
 have⟨k1,k2,k3⟩:=mC h hl;unfold ea;simp only;split
 ·grind
 ·split
  ·exact⟨k1.ax _ _,λe=>absurd e (fj _ _ (by decide)),by simp⟩
  ·rename_i _ a
   have k4:=k2 a;split
   ·rename_i c
    have⟨b,a2,a3⟩:=L6 (k1.next (c_ c)) (b7 G Z).2.1 (b7 G Z).2.2 Z.i;exact⟨b,λ_=>by simp at a2;omega,a3⟩
   ·grind
theorem zC (a:Nat):∀(n:Nat) (t:Ps) (l:List Rg) (b:Bool),gf G s t->gf G s (dQ G a n t l b).1/\t.i<=(dQ G a n t l b).1.i
 | 0,t,l,b,h=>⟨h,Zah _⟩
 | n+1,t,l,b,h=>by
  unfold dQ;split
  ·split
   ·exact⟨h.ax _ _,by simp⟩
   ·have hl:t.i<G.length:=ω;have c:=(ky (gf.refl (s:=t) h.len h.gm) hl).1.le;have b:=zC a n (ea G t).1 (l++(ea G t).2) false (ky h hl).1;grind
  ·grind
theorem s5 (a:Nat):∀(n:Nat) (t:Ps) (l:List Rg) (b:Bool),t.i<=G.length->t.ab<=4->(G.length+1<n+t.i\/t.au≠0/\0<n)->(dQ G a n t l b).1.au≠0\/a_ G (dQ G a n t l b).1 93
 | 0,t,l,b,h,d,e=>by omega
 | n+1,t,l,b,h,d,e=>by
  unfold dQ;split
  ·split
   ·grind [fj]
   ·have hl:t.i<G.length:=ω;have⟨c,a2,a3⟩:=ky (gf.refl (s:=t) h d) hl;refine s5 a n _ _ _ c.len c.gm ?_;omega
  ·grind
theorem jH:∀(n i:Nat) (b:List UInt8),i<=(cr G n i b).1/\((cr G n i b).1<=G.length\/(cr G n i b).1=i)/\(cr G n i b).2.length+i<=b.length+(cr G n i b).1
 | 0,i,b=>⟨Zah _,.inr rfl,Zah _⟩
 | n+1,i,b=>by
  unfold cr;split
  ·have⟨h1,a,c⟩:=jH n (i+1) (if 48<aK G i\/b≠[] then b++[UInt8.ofNat (aK G i).toNat] else b);grind
  ·grind
def rR (h:gf G s Z):gf G s (dm G Z)/\Z.i<=(dm G Z).i:=by
 have a:=jH (G:=G) (G.length-Z.i) Z.i [];have h1:=a.1;have b:(dm G Z).i<=G.length:=by
  rcases a.2.1 with e | e
  ·exact e
  ·show(cr G _ _ _).1<=_
   rw[e];exact h.len
 exact⟨⟨Zav h.le h1,b,h.op,h.gr,h.gm⟩,h1⟩
theorem wV (h:gf G s Z) (b:Nat) (m n:List UInt8) (ok en:Bool):gf G s (nG G b Z m n ok en).1/\Z.i<=(nG G b Z m n ok en).1.i:=by
 unfold nG;split
 ·exact⟨h.ax _ _,by simp⟩
 ·split
  ·exact⟨h.ax _ _,by simp⟩
  ·rename_i c
   have a:=h.next (c_ (by simpa using c));split
   ·exact⟨a.ax _ _,by simp⟩
   ·by_cases d:(ew m).2=false\/(ew (if en=true then[] else n)).2=false
    ·rw[Zac d];exact⟨a.ax _ _,by simp⟩
    ·simp_all
theorem wW (h:gf G s Z) (hl:Z.i<G.length):gf G s (gp G Z).1/\Z.i<(gp G Z).1.i:=by
 have⟨a,a2⟩:=rR (h.next hl);simp only[jj] at a2;unfold gp;simp only;split
 ·rename_i b
  have⟨b1,c⟩:=rR (a.next (c_ b.2));grind [jj,wV]
 ·grind [wV]
theorem PM (h:gf G s Z) (hl:Z.i<G.length):gf G s (rQ G Z).1/\Z.i<(rQ G Z).1.i/\(rQ G Z).2.length<=1:=by
 have h1:=(h.next hl).skip 94;have d:Z.i<(bp G Z.next 94).i:=by unfold bp;split<;>simp<;>omega
 have⟨a,a2⟩:=zC Z.i (G.length+2-(bp G Z.next 94).i) _ ([]:List Rg) true h1;have a3:=s5 (G:=G) Z.i (G.length+2-(bp G Z.next 94).i) (bp G Z.next 94) [] true h1.len h1.gm ω;unfold rQ;simp only;generalize dQ G Z.i (G.length+2-(bp G Z.next 94).i) (bp G Z.next 94) [] true=c at a a2 a3;split
 ·grind
 ·split
  ·grind
  ·split
   ·exact⟨a.ax _ _,by simp;omega,by simp⟩
   ·have b:a_ G c.1 93:=by grind
    exact⟨a.next (c_ b),by simp;omega,by simp⟩
def mD (G:List Gt) (ay:Ps->Ps×List Nd):Prop:=∀s,s.i<=G.length->s.ab<=4->gf G s (ay s).1/\(ay s).2.length<=3*((ay s).1.i-s.i)+1
variable {ay:Ps->Ps×List Nd}
variable {s:Ps}
theorem FV (A:mD G ay) (hl:s.i<G.length) (u:s.ab<=4):gf G s (hZ G ay s).1/\((hZ G ay s).1.au=0->s.i<(hZ G ay s).1.i)/\(hZ G ay s).2.length<=3*((hZ G ay s).1.i-s.i):=by
 have h1:=(gf.refl ω u).next hl;unfold hZ;simp only;generalize c:a_ G s.next 63=free;generalize o:(if free=true then s.next.next else s.next)=f;have h:gf G s f/\s.i<f.i:=by
  subst o;split
  ·rename_i t
   subst t;exact⟨h1.next (c_ c),by simp;omega⟩
  ·simp_all
 split
 ·exact⟨h.1.ax _ _,λe=>absurd e (fj _ _ (by decide)),by simp⟩
 ·generalize p:(if free=true then f.next else f)=s3;have b:gf G s s3/\s.i<s3.i:=by
   subst p;split
   ·have:a_ G f 58:=by
     grind
    exact⟨h.1.next (c_ this),by simp;omega⟩
   ·exact h
  split
  ·exact⟨b.1.ax _ _,λe=>absurd e (fj _ _ (by decide)),by simp⟩
  ·split
   ·exact⟨b.1.ax _ _,λe=>absurd e (fj _ _ (by decide)),by simp⟩
   ·generalize v:(if free=true then s3 else({ s3 with ab:=s3.ab+1 }:Ps))=s4;have j:s4.i=s3.i/\s4.aq=s3.aq/\s3.ab<=s4.ab/\s4.ab<=4:=by
     have:=b.1.gm;grind
    have r:=b.1.len;have⟨b1,q⟩:=A { s4 with aq:=s4.aq+1 } (by grind) j.2.2.2;generalize ay { s4 with aq:=s4.aq+1 }=a at b1 q;simp only[j.1] at q;have g:=b1.le;simp only[j.1] at g;have k:gf G s ({ a.1 with aq:=a.1.aq-1 }:Ps):=by
     refine⟨?_,b1.len,?_,?_,b1.gm⟩
     ·have:=b.2;simp;omega
     ·have:=b1.op;have:=b.1.op;simp at*;omega
     ·have:=b1.gr;have:=b.1.gr;simp at*;omega
    split
    ·exact⟨k.ax _ _,λe=>absurd e (fj _ _ (by decide)),by simp⟩
    ·rename_i d
     have l:gf G s (if a.1.au=0 then({ a.1 with aq:=a.1.aq-1 }:Ps).next else({ a.1 with aq:=a.1.aq-1 }:Ps))/\a.1.i<=(if a.1.au=0 then({ a.1 with aq:=a.1.aq-1 }:Ps).next else({ a.1 with aq:=a.1.aq-1 }:Ps)).i/\(a.1.au=0->(if a.1.au=0 then({ a.1 with aq:=a.1.aq-1 }:Ps).next else({ a.1 with aq:=a.1.aq-1 }:Ps)).i=a.1.i+1):=by
      split
      ·rename_i n
       have m:a_ G ({ a.1 with aq:=a.1.aq-1 }:Ps) 41:=by
        cases m:a_ G ({ a.1 with aq:=a.1.aq-1 }:Ps) 41
        ·exact absurd ⟨n,m⟩ d
        ·rfl
       exact⟨k.next (c_ m),by simp,λ_=>rfl⟩
      ·rename_i n
       exact⟨k,by simp,λe=>absurd e n⟩
     have hlen:a.2.length+1<=3*((if a.1.au=0 then({ a.1 with aq:=a.1.aq-1 }:Ps).next else({ a.1 with aq:=a.1.aq-1 }:Ps)).i-s.i):=by
      have:=l.2.1;have:=b.2;omega
     split
     ·exact⟨l.1,λ_=>by grind,by grind⟩
     ·exact⟨l.1,λ_=>by grind,by simp;omega⟩
theorem zD (A:mD G ay) (hl:s.i<G.length) (a:s.ab<=4):gf G s (jd G ay s).1/\((jd G ay s).1.au=0->s.i<(jd G ay s).1.i)/\(jd G ay s).2.length<=3*((jd G ay s).1.i-s.i):=by
 have h0:=gf.refl (Zcx hl) a;have h1:=h0.next hl;have hw:gf G s (s.ax G s.i 4)/\((s.ax G s.i 4).au=0->s.i<(s.ax G s.i 4).i)/\([]:List Nd).length<=3*((s.ax G s.i 4).i-s.i):=⟨h0.ax _ _,λe=>absurd e (fj _ _ (by decide)),by simp⟩;have b:∀x:Nd,gf G s s.next/\(s.next.au=0->s.i<s.next.i)/\[x].length<=3*(s.next.i-s.i):=λx=>⟨h1,λ_=>by simp,by simp⟩
 unfold jd;grind [FV,PM,zB]
theorem Dr {t:Ps} (h:gf G s t) (mn mx:Int) (x:List Nd):gf G s (nH G t mn mx x).1/\t.i<=(nH G t mn mx x).1.i/\(nH G t mn mx x).2.length<=x.length+1:=by
 unfold nH;split
 ·grind
 ·refine⟨h.skip 63,?_,by simp⟩;unfold bp;split<;>simp
theorem wX (A:mD G ay) (hl:s.i<G.length) (d:s.ab<=4):gf G s (fu G ay s).1/\((fu G ay s).1.au=0->s.i<(fu G ay s).1.i)/\(fu G ay s).2.length<=3*((fu G ay s).1.i-s.i):=by
 have⟨b,a2,a3⟩:=zD A hl d;unfold fu;simp only;generalize jd G ay s=a at b a2 a3;split
 ·grind
 ·rename_i g
  have key:∀(r mn mx:Int),a_ G a.1 r->gf G s (nH G a.1.next mn mx a.2).1/\((nH G a.1.next mn mx a.2).1.au=0->s.i<(nH G a.1.next mn mx a.2).1.i)/\(nH G a.1.next mn mx a.2).2.length<=3*((nH G a.1.next mn mx a.2).1.i-s.i):=λr mn mx c=>by
   have⟨b1,e,f⟩:=Dr (b.next (c_ c)) mn mx a.2;grind [jj]
  grind [wW,c_,Dr]
def total (a:List (List Nd)):Nat:=a.flatten.length
theorem gv (a:List (List Nd)) (x:List Nd):total (a++[x])=total a+x.length:=by simp[total]
theorem wY (op:Int):∀a:List (List Nd),(bX op a).length<=total a+1
 | []=>by grind [bX]
 | [x]=>by simp[bX,total]
 | x::y::a=>by simp[bX,total]
theorem zE (A:mD G ay):∀(n:Nat) (t:Ps) (a:List (List Nd)),gf G s t->total a<=3*(t.i-s.i)->gf G s (eE G ay n t a).1/\total (eE G ay n t a).2<=3*((eE G ay n t a).1.i-s.i)
 | 0,t,a,h,c=>⟨h,c⟩
 | n+1,t,a,h,c=>by
  unfold eE;split
  ·rename_i d
   have⟨b,a2,a3⟩:=wX A d.2.1 h.gm;have e:=b.le;have f:=h.le;refine zE A n _ _ (h.trans b) ?_;rw[gv];omega
  ·grind
def mE (A:mD G ay) (hl:s.i<=G.length) (b:s.ab<=4):gf G s (mB G ay s).1/\(mB G ay s).2.length<=3*((mB G ay s).1.i-s.i)+1:=by
 have⟨a,a2⟩:=zE A (G.length+2-s.i) s [] (gf.refl hl b) (by simp[total]);exact⟨a,Zav (wY _ _) (by show total (eE G ay (G.length+2-s.i) s []).2+1<=_;exact ZcU a2)⟩
theorem zF (A:mD G ay):∀(n:Nat) (t:Ps) (a:List (List Nd)),gf G s t->0<a.length->total a+2*a.length<=3*(t.i-s.i)+3->gf G s (gu G ay n t a).1/\0<(gu G ay n t a).2.length/\total (gu G ay n t a).2+2*(gu G ay n t a).2.length<=3*((gu G ay n t a).1.i-s.i)+3
 | 0,t,a,h,h0,d=>⟨h,h0,d⟩
 | n+1,t,a,h,h0,d=>by
  unfold gu;split
  ·rename_i e
   have b:=h.next (c_ e.2);have⟨c,a2⟩:=mE A (s:=t.next) b.len b.gm;have f:=c.le;have g:=h.le;simp only[jj] at f a2;refine zF A n _ _ (b.trans c) (by simp) ?_;grind [gv]
  ·grind
theorem tW (op:Int) (a:List (List Nd)) (h:0<a.length):(bX op a).length+2<=total a+2*a.length:=by
 match a,h with
 | [x],_=>simp[bX,total]
 | x::y::a,_=>simp[bX,total];omega
theorem PN (A:mD G ay) (hl:s.i<=G.length) (d:s.ab<=4):gf G s (Dq G ay s).1/\(Dq G ay s).2.length<=3*((Dq G ay s).1.i-s.i)+1:=by
 have⟨a,a2⟩:=mE A (s:=s) hl d;unfold Dq;generalize mB G ay s=c at a a2;have⟨b1,b,e⟩:=zF A (G.length+2-c.1.i) c.1 [c.2] a (by simp) (by grind [total]);have:=tW 4 _ b;grind
theorem vp:∀n,mD G (qI G n)
 | 0=>λs h a=>⟨gf.refl h a,by simp[qI]⟩
 | n+1=>λs h a=>PN (vp n) h a
end
section
variable (G:List Gt)
def rS (s:Ps) (a:Nat):Ps×List Rg:=
 if G.length<=s.i then(s.ax G a 4,[])
 else if fi G s.i then(s.ax G s.i 4,[])
 else
  let r:=aK G s.i
  if r=110 then(s.next,[(10,10)])
  else if r=116 then(s.next,[(9,9)])
  else if r=114 then(s.next,[(13,13)])
  else if r=100 then(s.next,[(48,57)])
  else if r=115 then(s.next,aX [(9,10),(13,13),(32,32)])
  else if r=119 then(s.next,aX [(48,57),(65,90),(95,95),(97,122)])
  else if iq r then(s.next,[(r,r)])
  else(s.next.ax G a 4,[])
def fk (s:Ps):Ps×List Rg:=
 if fi G s.i then(s.next.ax G s.i 4,[])
 else
  let r:=aK G s.i
  if r=92 then rS G s.next s.i
  else if r=91\/r=45 then(s.next.ax G s.i 4,[])
  else(s.next,[(r,r)])
def df (l:List Rg):Bool:=decide (l.length=1)&&decide ((l.getD 0 (0,0)).1=(l.getD 0 (0,0)).2)
def kP (s:Ps) (c:Nat) (a l:List Rg):Ps×List Rg×Bool:=
 if s.au≠0\/a_ G s 45=false then(s,l++a,false)
 else
  let t:=s.next
  if G.length<=t.i\/a_ G t 93\/a_ G t 91\/a_ G t 45=true then(t.ax G c 4,l,true)
  else
   let b:=fk G t
   if b.1.au=0/\(df a=false\/df b.2=false\/oT b.2<oT a) then(b.1.ax G c 4,l,true)
   else if b.1.au=0 then(b.1,l++[(oT a,oT b.2)],false)
   else(b.1,l,false)
def dy:Nat->Ps->List Rg->Bool->Ps×List Rg×Bool
 | 0,s,l,any=>(s,l,any)
 | n+1,s,l,any=>
  if s.au=0/\s.i<G.length/\a_ G s 93=false then
   let m:=kP G (fk G s).1 s.i (fk G s).2 l
   if m.2.2 then(m.1,m.2.1,true) else dy n m.1 m.2.1 true
  else(s,l,any)
def yD (s:Ps) (a:Nat):Ps×List Rg:=
 let neg:=a_ G s 94
 let t:=bp G s 94
 let c:=dy G (G.length+2-t.i) t [] false
 let u:=if c.1.au=0/\(c.2.2=false\/a_ G c.1 93=false) then c.1.ax G a 4 else c.1
 (u.next,if neg then lE c.2.1 else aX c.2.1)
def jI (a:Nat) (s:Ps) (m n:List UInt8) (ok op:Bool):Ps×Int×Int:=
 let t:=if ok=false\/a_ G s 125=false\/(op=false/\ir n m) then s.ax G a 4 else s
 let lo:=ew m
 let hi:=if op then(-1,true) else ew n
 let u:=if lo.2=false\/hi.2=false then t.next.ax G a 2 else t.next
 (u,lo.1,hi.1)
def eh (s:Ps):Ps×Int×Int:=
 let t:=dm G s.next
 let m:=gO G s.next
 let ok:=gF G s.next
 if ok/\a_ G t 44 then jI G s.i (dm G t.next) m (gO G t.next) ok (!gF G t.next)
 else jI G s.i t m m ok false
def fc (s:Ps) (a:Nat):Ps:=
 (if s.au=0/\a_ G s 41=false then s.ax G a 4 else s).next
def jk (ay:Ps->Ps×List Nd) (deep:Nat) (s:Ps) (a:Nat):Ps×List Nd:=
 let quiet:=a_ G s 63
 if quiet/\a_ G s.next 58=false then(s.ax G a 4,[])
 else if 20<=deep then(s.ax G a 10,[])
 else if quiet then(fc G (ay s.next.next).1 a,(ay s.next.next).2)
 else if 4<=s.ab then(s.ax G a 13,[])
 else
  let t:Ps:={ s with ab:=s.ab+1 }
  (fc G (ay t).1 a,{ nd 6 with cap:=t.ab,af:=1 }::(ay t).2)
def fX (ay:Ps->Ps×List Nd) (deep:Nat) (s:Ps):Ps×List Nd:=
 if fi G s.i then(s.next.ax G s.i 4,[])
 else
  let r:=aK G s.i
  if r=40 then jk G ay deep s.next s.i
  else if r=91 then((yD G s.next s.i).1,[wT (yD G s.next s.i).2])
  else if r=46 then(s.next,[wT (lE [(10,10)])])
  else if r=94 then(s.next,[nd 7])
  else if r=36 then(s.next,[nd 8])
  else if r=92 then((rS G s.next s.i).1,[wT (rS G s.next s.i).2])
  else if r=42\/r=43\/r=63\/r=123\/r=125\/r=93\/r=41\/r=124 then(s.next.ax G s.i 4,[])
  else(s.next,[wT [(r,r)]])
def jJ (s:Ps) (mn mx:Int) (x:List Nd):Ps×List Nd:=
 (bp G s 63,{ nd 5 with mn:=mn,mx:=mx,lz:=a_ G s 63,af:=1 }::x)
def rU (ay:Ps->Ps×List Nd) (deep:Nat) (s:Ps):Ps×List Nd:=
 let a:=fX G ay deep s
 if a.1.au≠0\/G.length<=a.1.i then a
 else if a_ G a.1 42 then jJ G a.1.next 0 (-1) a.2
 else if a_ G a.1 43 then jJ G a.1.next 1 (-1) a.2
 else if a_ G a.1 63 then jJ G a.1.next 0 1 a.2
 else if a_ G a.1 123 then jJ G (eh G a.1).1 (eh G a.1).2.1 (eh G a.1).2.2 a.2
 else a
def ec (ay:Ps->Ps×List Nd) (deep:Nat):Nat->Ps->List (List Nd)->Ps×List (List Nd)
 | 0,s,a=>(s,a)
 | n+1,s,a=>
  if s.au=0/\s.i<G.length/\a_ G s 124=false/\a_ G s 41=false then ec ay deep n (rU G ay deep s).1 (a++[(rU G ay deep s).2])
  else(s,a)
def ov (ay:Ps->Ps×List Nd) (deep:Nat) (s:Ps):Ps×List Nd:=
 let c:=ec G ay deep (G.length+2-s.i) s []
 (c.1,bX 3 c.2)
def dH (ay:Ps->Ps×List Nd) (deep:Nat):Nat->Ps->List (List Nd)->Ps×List (List Nd)
 | 0,s,a=>(s,a)
 | n+1,s,a=>
  if s.au=0/\a_ G s 124=true then dH ay deep n (ov G ay deep s.next).1 (a++[(ov G ay deep s.next).2])
  else(s,a)
def tX (ay:Ps->Ps×List Nd) (deep:Nat) (s:Ps):Ps×List Nd:=
 let c:=ov G ay deep s
 let d:=dH G ay deep (G.length+2-c.1.i) c.1 [c.2]
 (d.1,bX 4 d.2)
def Bx:Nat->Nat->Ps->Ps×List Nd
 | 0,_,s=>(s,[])
 | n+1,deep,s=>tX G (Bx n (deep+1)) deep s
def FW:List Nd×Int×Int:=
 let a:=Bx G 21 0 N_
 let s:=if a.1.au=0/\a.1.i<G.length then a.1.ax G a.1.i 4 else a.1
 if s.au≠0 then([],s.au,s.wh) else(a.2,0,0)
end
section
variable {G:List Gt}
structure Fx (G:List Gt):Prop where
 one:∀i,i<G.length->eg (aK G i)=[(aK G i,aK G i)]
 n:eg 10=[(10,10)]
 t:eg 9=[(9,9)]
 r:eg 13=[(13,13)]
 d:aX [(48,57)]=[(48,57)]
 s:df (aX [(9,10),(13,13),(32,32)])=false
 w:df (aX [(48,57),(65,90),(95,95),(97,122)])=false
 s0:aX [(9,10),(13,13),(32,32)]≠[]
 w0:aX [(48,57),(65,90),(95,95),(97,122)]≠[]
 not:∀l,lE (aX l)=lE l
structure At (G:List Gt) (deep:Nat) (s t:Ps):Prop where
 e:s.au=0
 e2:t.au=0
 i:t.i=s.i
 g:t.ab=s.ab
 o:s.aq=deep
 le:s.i<=G.length
variable {s:Ps} {e:Int}
def Rel {α:Type} (G:List Gt) (deep:Nat) (a b:Ps×α):Prop:=(At G deep a.1 b.1/\b.2=a.2)\/(a.1.au≠0/\b.1.au=a.1.au/\b.1.wh=a.1.wh)
theorem bR (h:s.au=0) (k:Nat) (e:Int):s.ax G k e={ s with au:=e,wh:=aF G k }:=by grind [Ps.ax]
theorem fR {α:Type} {deep k:Nat} {t:Ps} {x y:α} (hs:s.au=0) (ht:t.au=0) (a:e≠0):Rel G deep (s.ax G k e,x) (t.ax G k e,y):=by
 right;grind [bR]
theorem fA {t:Ps} (h:t.i=s.i) (r:Int):a_ G t r=a_ G s r:=by grind [a_]
theorem gG (h:a_ G s e):s.i<G.length:=by
 grind [a_]
theorem pN (h:s.i<G.length):a_ G s e=(aK G s.i==e):=by
 grind [a_,aK]
variable {deep:Nat} {s t:Ps}
variable {x:Ps}
theorem At.next (h:At G deep s t) (hl:s.i<G.length):At G deep s.next t.next:=⟨h.e,h.e2,by show t.i+1=s.i+1;rw[h.i],h.g,h.o,hl⟩
def At.skip (h:At G deep s t) (r:Int):At G deep (bp G s r) (bp G t r):=by
 unfold bp;rw[fA h.i];split
 ·rename_i a;exact h.next (gG a)
 ·exact h
def kQ (r:Int):df [(r,r)]:=by simp[df]
theorem Dt (F:Fx G) (h:At G deep s t) (hl:s.i<G.length):Rel G deep ((d_ G s).1,(d_ G s).2.1) (rS G t.next s.i)/\((d_ G s).1.au=0->(d_ G s).2.2=df (d_ G s).2.1/\(d_ G s).2.1≠[]):=by
 have c:=h.next hl;unfold d_ rS;rw[c.i];by_cases h1:G.length<=s.next.i
 ·rw[Zac h1,Zac h1];exact⟨fR c.e c.e2 (by decide),λb=>by rw[bR c.e] at b;cases b⟩
 ·rw[Zaa h1,Zaa h1];by_cases f:fi G s.next.i
  ·rw[Zac f,Zac f];exact⟨fR c.e c.e2 (by decide),λb=>by rw[bR c.e] at b;cases b⟩
  ·rw[Zaa f,Zaa f];have g:=F.one s.next.i ω;have a:=c.next ω;generalize aK G s.next.i=r at g;unfold mA;by_cases c1:r=110
   ·rw[Zac c1,Zac c1,F.n];exact⟨.inl ⟨a,rfl⟩,λ_=>⟨(kQ _).symm,by simp⟩⟩
   rw[Zaa c1,Zaa c1];by_cases c2:r=116
   ·rw[Zac c2,Zac c2,F.t];exact⟨.inl ⟨a,rfl⟩,λ_=>⟨(kQ _).symm,by simp⟩⟩
   rw[Zaa c2,Zaa c2];by_cases c3:r=114
   ·rw[Zac c3,Zac c3,F.r];exact⟨.inl ⟨a,rfl⟩,λ_=>⟨(kQ _).symm,by simp⟩⟩
   rw[Zaa c3,Zaa c3];by_cases c4:r=100
   ·rw[Zac c4,Zac c4,F.d];exact⟨.inl ⟨a,rfl⟩,λ_=>⟨by rfl,by simp⟩⟩
   rw[Zaa c4,Zaa c4];by_cases c5:r=115
   ·rw[Zac c5,Zac c5];exact⟨.inl ⟨a,rfl⟩,λ_=>⟨F.s.symm,F.s0⟩⟩
   rw[Zaa c5,Zaa c5];by_cases c6:r=119
   ·rw[Zac c6,Zac c6];exact⟨.inl ⟨a,rfl⟩,λ_=>⟨F.w.symm,F.w0⟩⟩
   rw[Zaa c6,Zaa c6];by_cases c7:iq r
   ·rw[Zac c7,Zac c7,g];exact⟨.inl ⟨a,rfl⟩,λ_=>⟨(kQ _).symm,by simp⟩⟩
   ·rw[Zaa c7,Zaa c7];exact⟨fR a.e a.e2 (by decide),λb=>by rw[bR a.e] at b;cases b⟩
theorem Du (F:Fx G) (h:At G deep s t) (hl:s.i<G.length) (a:a_ G s 93=false):
  (Rel G deep ((b7 G s).1,(b7 G s).2.1) (fk G t)/\((b7 G s).1.au=0->(b7 G s).2.2=df (b7 G s).2.1/\(b7 G s).2.1≠[]))\/
   (b7 G s=(s,[],false)/\fi G s.i=false/\(aK G s.i=91\/aK G s.i=45)/\fk G t=(t.next.ax G s.i 4,[])):=by
 have d:=h.next hl;rw[pN hl] at a;unfold b7 fk;rw[h.i];by_cases b:fi G s.i
 ·rw[Zac b,Zac b];exact .inl ⟨fR h.e d.e2 (by decide),λc=>by rw[bR h.e] at c;cases c⟩
 ·rw[Zaa b,Zaa b];generalize aK G s.i=r at a;by_cases c1:r=92
  ·grind [Dt]
  ·rw[Zaa c1,Zaa c1];by_cases c2:r=91\/r=45
   ·grind
   ·have c3:¬r=93:=by grind
    rw[Zaa ω,Zaa c2];exact .inl ⟨.inl ⟨d,rfl⟩,λ_=>⟨(kQ _).symm,by simp⟩⟩
theorem QcA {i:Nat} (hl:i<G.length) (h:aK G i≠65533):fi G i=false:=by
 grind [fi,aK]
theorem gH (hl:x.i<G.length) (h:aK G x.i=91\/aK G x.i=93\/aK G x.i=45):b7 G x=(x,[],false):=by
 grind [b7,QcA]
theorem zG (a:List Rg) (one:Bool) (b:Nat) (c:x.au=0) (h:G.length<=x.i\/(x.i<G.length/\(aK G x.i=91\/aK G x.i=93\/aK G x.i=45))):j7 G a one b x=(x.ax G b 4,[]):=by
 grind [gH,j7,bR]
def Qmb (G:List Gt) (deep:Nat) (l:List Rg) (a:Ps×List Rg) (m:Ps×List Rg×Bool):Prop:=(At G deep a.1 m.1/\m.2=(l++a.2,false))\/(a.1.au≠0/\m.1.au=a.1.au/\m.1.wh=a.1.wh)
theorem PO {b:Nat} {a l:List Rg} (h:x.au≠0):kP G x b a l=(x,l++a,false):=by
 grind [kP]
theorem PQ (F:Fx G) (h:At G deep s t) (hl:s.i<G.length) (C:a_ G s 93=false) (l:List Rg):Qmb G deep l (ea G s) (kP G (fk G t).1 t.i (fk G t).2 l):=by
 rcases Du F h hl C with⟨w,H⟩ | ⟨w,R,S,hi⟩
 ·unfold ea;generalize b7 G s=a at w H ⊢;have⟨j,a2,a3⟩:=a;generalize fk G t=b at w ⊢;have⟨b1,y⟩:=b;simp only at w H ⊢;rcases w with⟨p,v⟩ | ⟨v,x,d⟩
  ·simp only at p v;subst v;have⟨hs,E⟩:=H p.e;rw[Zaa (by rw[p.e];simp),Zaa E];by_cases m:a_ G j 45
   ·rw[Zac m];have q:=p.next (gG m);unfold kP;rw[Zaa (by rw[fA p.i,m,p.e2];simp)];simp only;have o:=q.i;rw[fA o,fA o,fA o,o,h.i];by_cases c1:G.length<=j.next.i
    ·rw[Zac (.inl c1),zG y a3 s.i q.e (.inl c1),bR q.e,bR q.e2];exact .inr ⟨by simp,rfl,rfl⟩
    ·by_cases c2:a_ G j.next 93\/a_ G j.next 91\/a_ G j.next 45
     ·rw[Zac (.inr c2)];have I:aK G j.next.i=91\/aK G j.next.i=93\/aK G j.next.i=45:=by
       grind [pN]
      rw[zG y a3 s.i q.e (.inr ⟨ω,I⟩),bR q.e,bR q.e2];exact .inr ⟨by simp,rfl,rfl⟩
     ·rw[Zaa (by grind)];have z:a_ G j.next 93=false:=by
       grind
      rcases Du F q ω z with⟨n,u⟩ | ⟨n,L,O,M⟩
      ·unfold j7;rw[Zac (show j.next.i<G.length by omega)];generalize b7 G j.next=c at n u ⊢;have⟨A,P,Q⟩:=c;generalize fk G b1.next=f at n ⊢;have⟨B,K⟩:=f;simp only at n u ⊢;rcases n with⟨g,d⟩ | ⟨d,r,D⟩
       ·subst d;have⟨J,_⟩:=u g.e;subst hs J;by_cases c3:df y=false\/df K=false\/oT K<oT y
        ·rw[Zac (⟨g.e,c3⟩:A.au=0/\_),Zac (⟨g.e2,c3⟩:B.au=0/\_),bR g.e,bR g.e2];exact .inr ⟨by simp,rfl,rfl⟩
        ·rw[Zaa (λk=>c3 k.2:¬(A.au=0/\_)),Zaa (λk=>c3 k.2:¬(B.au=0/\_)),Zac g.e,Zac g.e2];exact .inl ⟨g,rfl⟩
       ·rw[Zaa (λk=>d k.1:¬(A.au=0/\_)),Zaa d,Zaa (λk=>d (r▸k.1):¬(B.au=0/\_)),Zaa (λk=>d (r▸k))];exact .inr ⟨d,r,D⟩
      ·grind [pN]
   ·rw[Zaa m];unfold kP;rw[Zac (.inr (by rw[fA p.i];simpa using m))];exact .inl ⟨p,rfl⟩
  ·simp only at v x d;rw[Zac v,PO ω];exact .inr ⟨v,x,d⟩
 ·unfold ea;rw[w,hi];have N:=h.next hl;rw[Zaa (by rw[h.e];simp),bR h.e,bR N.e2];exact .inr ⟨by simp,rfl,rfl⟩
def Qft (G:List Gt) (deep c:Nat) (a:Ps×List Rg×Bool×Bool) (b:Ps×List Rg×Bool):Prop:=
 (At G deep a.1 b.1/\b.2.1=a.2.1/\b.2.2=!a.2.2.1/\a.2.2.2=false/\a_ G a.1 93)\/
  (a.1.au≠0/\b.1.au=a.1.au/\b.1.wh=a.1.wh)\/(a.1.au=4/\a.1.wh=aF G c/\b.1.au=0/\a_ G b.1 93=false)
theorem zH (F:Fx G) (c:Nat):∀(n:Nat) (s t:Ps) (l:List Rg) (none_:Bool),At G deep s t->s.ab<=4->G.length+2<=n+s.i->Qft G deep c (dQ G c n s l none_) (dy G n t l (!none_))
 | 0,s,t,l,none_,h,r,w=>by have:=h.le;omega
 | n+1,s,t,l,none_,h,r,w=>by
  unfold dQ dy;by_cases b:a_ G s 93=false
  ·rw[Zac ⟨h.e,b⟩];by_cases hl:G.length<=s.i
   ·rw[Zac hl,Zaa (by rw[h.i];omega),bR h.e];exact .inr (.inr ⟨rfl,rfl,h.e2,(fA h.i 93).trans b⟩)
   ·rw[Zaa hl,Zac ⟨h.e2,by rw[h.i];omega,by rw[fA h.i];exact b⟩];have hi:=PQ F h ω b l;have f:=(ky (gf.refl (G:=G) h.le r) ω).2.1;have p:=(ky (gf.refl (G:=G) h.le r) ω).1.gm;generalize ea G s=a at hi f p ⊢;generalize kP G (fk G t).1 t.i (fk G t).2 l=m at hi ⊢;have⟨m1,m2,m3⟩:=m;have⟨q,a2⟩:=a;rcases hi with⟨u,g⟩ | ⟨g,d,j⟩
    ·obtain⟨rfl,rfl⟩:=g;exact zH F c n q m1 _ false u p (by have:=f u.e;simp only at this;omega)
    ·simp only at g d j ⊢;have v:dQ G c n q (l++a2) false=(q,l++a2,false,false):=by
      cases n with
      | zero=>rfl
      | succ n=>rw[dQ,Zaa (λk=>g k.1)]
     rw[v];cases m3
     ·have e2:dy G n m1 m2 true=(m1,m2,true):=by
       cases n with
       | zero=>rfl
       | succ n=>rw[dy,Zaa (λk=>g (d▸k.1))]
      rw[e2];exact .inr (.inl ⟨g,d,j⟩)
     ·exact .inr (.inl ⟨g,d,j⟩)
  ·have o:a_ G s 93:=by grind
   rw[Zaa (λk=>b k.2),Zaa (λk=>b ((fA h.i 93)▸k.2.2))];exact .inl ⟨h,rfl,rfl,rfl,o⟩
theorem WT (F:Fx G) (h:At G deep s t) (w:s.ab<=4) (hl:s.i<G.length):Rel G deep (rQ G s) ((yD G t.next s.i).1,[wT (yD G t.next s.i).2]):=by
 have r:=h.next hl;have hk:=r.skip 94;have l:(bp G s.next 94).ab<=4:=by unfold bp;split<;>exact w
 have n:Qft G deep s.i (dQ G s.i (G.length+2-(bp G s.next 94).i) (bp G s.next 94) [] true) (dy G (G.length+2-(bp G s.next 94).i) (bp G t.next 94) [] false):=zH F s.i (G.length+2-(bp G s.next 94).i) _ _ [] true hk l ω;have j:=s5 (G:=G) s.i (G.length+2-(bp G s.next 94).i) (bp G s.next 94) [] true hk.le l (.inl ω);unfold rQ yD;simp only;rw[fA r.i,hk.i];generalize dQ G s.i (G.length+2-(bp G s.next 94).i) (bp G s.next 94) [] true=a at n j ⊢;generalize dy G (G.length+2-(bp G s.next 94).i) (bp G t.next 94) [] false=b at n ⊢;have⟨c,a2,a3,a4⟩:=a;have⟨b1,x,q⟩:=b;rcases n with⟨g,q1,u,v,f⟩ | ⟨m,d,o⟩ | ⟨m,hw,d,f⟩
 ·simp only at q1 u v;subst q1 u v;simp only[ZaE,Za0];rw[Zaa (by rw[g.e];simp)];cases a3
  ·have hu:(if b1.au=0/\((!false)=false\/a_ G b1 93=false) then b1.ax G s.i 4 else b1)=b1:=Zaa (by rw[fA g.i,f];simp);rw[hu];refine .inl ⟨g.next (gG f),?_⟩;simp only[F.not];rfl
  ·have hu:(if b1.au=0/\((!true)=false\/a_ G b1 93=false) then b1.ax G s.i 4 else b1)=b1.ax G s.i 4:=Zac ⟨g.e2,.inl rfl⟩;rw[hu,bR g.e,bR g.e2];exact .inr ⟨by simp,rfl,rfl⟩
 ·have hu:(if b1.au=0/\(q=false\/a_ G b1 93=false) then b1.ax G s.i 4 else b1)=b1:=Zaa (λk=>m (d▸k.1));rw[hu];have p:(if a4=true then(c,([]:List Nd)) else if c.au≠0 then(c,[]) else if a3=true then(c.ax G s.i 4,[]) else(c.next,[wT (if a_ G s.next 94=true then lE (aX a2) else aX a2)]))=(c,[]):=by
   grind
  rw[p];exact .inr ⟨m,d,o⟩
 ·have hu:(if b1.au=0/\(q=false\/a_ G b1 93=false) then b1.ax G s.i 4 else b1)=b1.ax G s.i 4:=Zac ⟨d,.inr f⟩;have p:(if a4=true then(c,([]:List Nd)) else if c.au≠0 then(c,[]) else if a3=true then(c.ax G s.i 4,[]) else(c.next,[wT (if a_ G s.next 94=true then lE (aX a2) else aX a2)]))=(c,[]):=by
   grind
  rw[hu,bR d,p];exact .inr ⟨by grind,m.symm,hw.symm⟩
def WU (G:List Gt) (deep:Nat) (a b:Ps×Int×Int):Prop:=(At G deep a.1 b.1/\b.2=a.2)\/(a.1.au≠0/\b.1.au=a.1.au/\b.1.wh=a.1.wh)
theorem wZ (h:At G deep s t) (b:Nat) (m n:List UInt8) (ok en:Bool) (k:en->n=[]):WU G deep (nG G b s m n ok en) (jI G b t m n ok en):=by
 have key:∀(u:Ps) (c:Prop) [Decidable c] (z:Int×Int) (a:Ps×Int×Int),a.1.au≠0->u.au=a.1.au->u.wh=a.1.wh->WU G deep a ((if c then u.next.ax G b 2 else u.next),z):=by
  intro u c _ z a h1 g j;refine .inr ⟨h1,?_⟩;split
  ·have e:u.next.ax G b 2=u.next:=by unfold Ps.ax;rw[Zaa (by simp_all)]
   rw[e];exact⟨g,j⟩
  ·exact⟨g,j⟩
 have f:∀(x:Ps),x.au=0->(x.ax G b 4).au≠0:=λx l=>by grind [bR]
 have e2:∀(x y:Ps),x.au=0->y.au=0->(y.ax G b 4).au=(x.ax G b 4).au/\(y.ax G b 4).wh=(x.ax G b 4).wh:=λx y l p=>by grind [bR]
 unfold nG jI;rw[fA h.i];by_cases c1:ok=false
 ·rw[Zac c1];have ht:(if ok=false\/a_ G s 125=false\/en=false/\ir n m=true then t.ax G b 4 else t)=t.ax G b 4:=Zac (.inl c1);rw[ht];exact key _ _ _ _ (f s h.e) (e2 s t h.e h.e2).1 (e2 s t h.e h.e2).2
 rw[Zaa c1];by_cases c2:a_ G s 125=false
 ·rw[Zac c2];have ht:(if ok=false\/a_ G s 125=false\/en=false/\ir n m=true then t.ax G b 4 else t)=t.ax G b 4:=Zac (.inr (.inl c2));rw[ht];exact key _ _ _ _ (f s h.e) (e2 s t h.e h.e2).1 (e2 s t h.e h.e2).2
 rw[Zaa c2];have d:=h.next (gG (by simpa using c2));by_cases c3:en=false/\ir n m
 ·rw[Zac c3];have ht:(if ok=false\/a_ G s 125=false\/en=false/\ir n m=true then t.ax G b 4 else t)=t.ax G b 4:=Zac (.inr (.inr c3));rw[ht];exact key _ _ _ _ (f s.next d.e) (e2 s.next t d.e h.e2).1 (e2 s.next t d.e h.e2).2
 have ht:(if ok=false\/a_ G s 125=false\/en=false/\ir n m=true then t.ax G b 4 else t)=t:=Zaa (by grind);rw[Zaa c3,ht];have o:ew []=(0,true):=by decide
 cases en
 ·simp only[ZaE,Za0];by_cases c4:(ew m).2=false\/(ew n).2=false
  ·rw[Zac c4,Zac c4,bR d.e,bR d.e2];exact .inr ⟨by simp,rfl,rfl⟩
  ·rw[Zaa c4,Zaa c4];exact .inl ⟨d,rfl⟩
 ·simp only[Zbv];by_cases c4:(ew m).2=false
  ·rw[Zac (.inl c4),Zac (.inl c4),bR d.e,bR d.e2];exact .inr ⟨by simp,rfl,rfl⟩
  ·rw[Zaa (by grind),Zaa (by grind)];exact .inl ⟨d,rfl⟩
theorem FX (h:t.i=s.i):gO G t=gO G s/\gF G t=gF G s/\(dm G t).i=(dm G s).i:=by
 grind [gO,gF,dm]
def At.Qfu (h:At G deep s t):At G deep (dm G s) (dm G t):=by
 have hle:=jH (G:=G) (G.length-s.i) s.i [];have:=h.le;refine⟨h.e,h.e2,(FX h.i).2.2,h.g,h.o,?_⟩;show(cr G (G.length-s.i) s.i []).1<=_
 omega
theorem FY:∀(n i:Nat) (b:List UInt8),(cr G n i b).1=i->(cr G n i b).2=b
 | 0,i,b,h=>rfl
 | n+1,i,b,h=>by
  grind [cr,jH]
theorem L7 (h:gF G x=false):gO G x=[]:=by
 grind [gF,gO,FY,jH]
theorem L8 (h:At G deep s t) (hl:s.i<G.length):WU G deep (gp G s) (eh G t):=by
 have d:=h.next hl;have⟨e,f,l⟩:=FX (G:=G) d.i;have b:=d.Qfu;unfold gp eh;simp only;rw[e,f,fA b.i,h.i];by_cases a:gF G s.next/\a_ G (dm G s.next) 44
 ·rw[Zac a,Zac a];have c:=b.next (gG a.2);have⟨g,j,m⟩:=FX (G:=G) c.i;rw[g,j];exact wZ c.Qfu _ _ _ _ _ λk=>L7 (by grind)
 ·grind [wZ]
variable {ay mF:Ps->Ps×List Nd}
variable {x:Ps} {Z:Nat} {a:List (List Nd)} {b:List Nd}
def FZ (G:List Gt) (deep:Nat) (ay a:Ps->Ps×List Nd):Prop:=∀s t,At G deep s t->s.ab<=4->Rel G deep (ay s) (a t)
def w6 (d:Nat) {a b:Ps×List Nd} (c:Nat) (h:Rel G (d+1) a b):
  let f:Ps:={ a.1 with aq:=a.1.aq-1 }
  (f.au=0/\a_ G f 41=false->(f.ax G c 4).au≠0/\(fc G b.1 c).au=(f.ax G c 4).au/\(fc G b.1 c).wh=(f.ax G c 4).wh)/\
   (¬(f.au=0/\a_ G f 41=false)->(At G d f.next (fc G b.1 c)/\f.au=0/\b.2=a.2)\/(f.au≠0/\(fc G b.1 c).au=f.au/\(fc G b.1 c).wh=f.wh)):=by
 unfold fc;rcases h with⟨h,s⟩ | ⟨p,n,q⟩
 ·have j:At G d { a.1 with aq:=a.1.aq-1 } b.1:=⟨h.e,h.e2,h.i,h.g,by show a.1.aq-1=d;rw[h.o];omega,h.le⟩;refine⟨λm=>?_,λm=>?_⟩
  ·rw[Zac ⟨h.e2,(fA j.i 41).trans m.2⟩,bR j.e,bR h.e2];exact⟨by simp,rfl,rfl⟩
  ·have l:a_ G { a.1 with aq:=a.1.aq-1 } 41:=by
    cases r:a_ G { a.1 with aq:=a.1.aq-1 } 41
    ·exact absurd ⟨j.e,r⟩ m
    ·rfl
   rw[Zaa (by rw[(fA j.i 41).trans l];simp)];exact .inl ⟨j.next (gG l),j.e,s⟩
 ·refine⟨λm=>absurd m.1 p,λ_=>?_⟩;rw[Zaa (λk=>p (n▸k.1))];exact .inr ⟨p,n,q⟩
theorem L9 (A:FZ G (deep+1) ay mF) (h:At G deep s t) (n:s.ab<=4) (hl:s.i<G.length):Rel G deep (hZ G ay s) (jk G mF deep t.next s.i):=by
 have a:=h.next hl;unfold hZ jk;rw[fA a.i];cases l:a_ G s.next 63
 ·simp only[ZaE,Za0,false_and];by_cases c1:20<=s.next.aq
  ·rw[Zac c1,Zac (by have:=a.o;omega)];exact fR a.e a.e2 (by decide)
  rw[Zaa c1,Zaa (show ¬20<=deep by have:=a.o;omega)];by_cases c2:4<=s.next.ab
  ·rw[Zac (⟨trivial,c2⟩),Zac (by rw[a.g];exact c2)];exact fR a.e a.e2 (by decide)
  rw[Zaa (λk=>c2 k.2),Zaa (show ¬4<=t.next.ab by rw[a.g];exact c2)];have p:((t.next.ab+1:Nat):Int)=((s.next.ab+1:Nat):Int):=by rw[a.g]
  have⟨k1,k2⟩:=w6 deep s.i (A { { s.next with ab:=s.next.ab+1 } with aq:=s.next.aq+1 } { t.next with ab:=t.next.ab+1 } ⟨a.e,a.e2,a.i,by show t.next.ab+1=s.next.ab+1;rw[a.g],by show s.next.aq+1=deep+1;rw[a.o],a.le⟩ (by grind));split
  ·rename_i f
   have⟨q1,b,c⟩:=k1 f;exact .inr ⟨q1,b,c⟩
  ·rename_i f
   rcases k2 f with⟨q1,b,c⟩ | ⟨q1,b,c⟩
   ·rw[Zac b];refine .inl ⟨q1,?_⟩;grind
   ·rw[Zaa q1];exact .inr ⟨q1,b,c⟩
 ·simp only[Zbv,Zal];have m:=a.next (gG l);rw[fA m.i];by_cases c0:a_ G s.next.next 58=false
  ·rw[Zac c0,Zac c0];exact fR m.e a.e2 (by decide)
  rw[Zaa c0,Zaa c0];have j:a_ G s.next.next 58:=by grind
  have d:=m.next (gG j);by_cases c1:20<=s.next.next.next.aq
  ·rw[Zac c1,Zac (by have:=d.o;omega)];exact fR d.e a.e2 (by decide)
  rw[Zaa c1,Zaa (show ¬20<=deep by have:=d.o;omega),Zaa (by simp)];have⟨k1,k2⟩:=w6 deep s.i (A { s.next.next.next with aq:=s.next.next.next.aq+1 } t.next.next.next ⟨d.e,d.e2,d.i,d.g,by show s.next.next.next.aq+1=deep+1;rw[d.o],d.le⟩ n);split
  ·rename_i f
   have⟨q1,b,c⟩:=k1 f;exact .inr ⟨q1,b,c⟩
  ·rename_i f
   rcases k2 f with⟨q1,b,c⟩ | ⟨q1,b,c⟩
   ·rw[Zac b];exact .inl ⟨q1,c⟩
   ·rw[Zaa q1];exact .inr ⟨q1,b,c⟩
theorem PR (F:Fx G) (A:FZ G (deep+1) ay mF) (h:At G deep s t) (k:s.ab<=4) (hl:s.i<G.length):Rel G deep (jd G ay s) (fX G mF deep t):=by
 have a:=h.next hl;have g:=F.one s.i hl;unfold jd fX;rw[h.i];by_cases b:fi G s.i
 ·rw[Zac b,Zac b];exact fR h.e a.e2 (by decide)
 rw[Zaa b,Zaa b];generalize aK G s.i=r at g ⊢;by_cases c1:r=40
 ·grind [L9]
 rw[Zaa c1,Zaa c1];by_cases c2:r=91
 ·grind [WT]
 rw[Zaa c2,Zaa c2];by_cases c3:r=46
 ·subst c3;exact .inl ⟨a,rfl⟩
 rw[Zaa c3,Zaa c3];by_cases c4:r=94
 ·subst c4;exact .inl ⟨a,rfl⟩
 rw[Zaa c4,Zaa c4];by_cases c5:r=36
 ·subst c5;exact .inl ⟨a,rfl⟩
 rw[Zaa c5,Zaa c5];by_cases c6:r=92
 ·rw[Zac c6,Zac c6];have⟨hs,_⟩:=Dt F h hl;rcases hs with⟨j,f⟩ | ⟨f,c,d⟩
  ·refine .inl ⟨j,?_⟩;grind
  ·exact .inr ⟨f,c,d⟩
 rw[Zaa c6,Zaa c6];by_cases c7:r=42\/r=43\/r=63\/r=41\/r=93\/r=123\/r=125\/r=124
 ·rw[Zac c7,Zac ω];exact fR h.e a.e2 (by decide)
 ·rw[Zaa c7,Zaa ω,g];exact .inl ⟨a,rfl⟩
theorem rV {a b:Ps×Int×Int} (h:WU G deep a b) (x:List Nd):Rel G deep (nH G a.1 a.2.1 a.2.2 x) (jJ G b.1 b.2.1 b.2.2 x):=by
 unfold nH jJ;rcases h with⟨h,g⟩ | ⟨f,c,d⟩
 ·rw[Zaa (by rw[h.e];simp),g,fA h.i];exact .inl ⟨h.skip 63,rfl⟩
 ·rw[Zac f];refine .inr ⟨f,?_⟩;unfold bp;split<;>exact⟨c,d⟩
theorem WV (F:Fx G) (A:FZ G (deep+1) ay mF) (h:At G deep s t) (p:s.ab<=4) (hl:s.i<G.length):Rel G deep (fu G ay s) (rU G mF deep t):=by
 have l:=PR F A h p hl;unfold fu rU;generalize jd G ay s=a at l ⊢;generalize fX G mF deep t=b at l ⊢;have⟨d,a2⟩:=a;have⟨b1,j⟩:=b;rcases l with⟨c,f⟩ | ⟨f,m,n⟩
 ·simp only at c f ⊢;subst f;rw[Zaa (by rw[c.e];simp)];by_cases hle:G.length<=b1.i
  ·rw[Zac (show b1.au≠0\/G.length<=b1.i from .inr hle)];have g:∀r,a_ G d r=false:=λr=>by
    cases q:a_ G d r
    ·rfl
    ·have:=gG q;have:=c.i;omega
   rw[g,g,g,g];exact .inl ⟨c,rfl⟩
  ·rw[Zaa (show ¬(b1.au≠0\/G.length<=b1.i) by rw[c.e2];simp;omega)];have o:d.i<G.length:=by have:=c.i;omega
   have k:=c.next o;rw[fA c.i,fA c.i,fA c.i,fA c.i];by_cases c1:a_ G d 42
   ·rw[Zac c1,Zac c1];exact rV (a:=(d.next,0,-1)) (b:=(b1.next,0,-1)) (.inl ⟨k,rfl⟩) j
   rw[Zaa c1,Zaa c1];by_cases c2:a_ G d 43
   ·rw[Zac c2,Zac c2];exact rV (a:=(d.next,1,-1)) (b:=(b1.next,1,-1)) (.inl ⟨k,rfl⟩) j
   rw[Zaa c2,Zaa c2];by_cases c3:a_ G d 63
   ·rw[Zac c3,Zac c3];exact rV (a:=(d.next,0,1)) (b:=(b1.next,0,1)) (.inl ⟨k,rfl⟩) j
   rw[Zaa c3,Zaa c3];by_cases c4:a_ G d 123
   ·grind [rV,L8]
   rw[Zaa c4,Zaa c4];exact .inl ⟨c,rfl⟩
 ·rw[Zac f,Zac (.inl ω)];exact .inr ⟨f,m,n⟩
def F0 {α:Type} (G:List Gt) (deep:Nat) (a b:Ps×α):Prop:=Rel G deep a b\/(deep=0/\a.1.au=4/\a.1.wh=aF G b.1.i/\b.1.au=0/\a_ G b.1 41)
theorem zJ (h:x.au≠0):eE G ay Z x a=(x,a):=by
 cases Z with
 | zero=>rfl
 | succ Z=>rw[eE,Zaa (λk=>h k.1)]
theorem F3 (h:x.au≠0):ec G mF deep Z x a=(x,a):=by
 cases Z with
 | zero=>rfl
 | succ Z=>rw[ec,Zaa (λk=>h k.1)]
theorem pO (h:x.au≠0):gu G ay Z x a=(x,a):=by
 cases Z with
 | zero=>rfl
 | succ Z=>rw[gu,Zaa (λk=>h k.1)]
theorem lO (h:x.au≠0\/a_ G x 124=false):dH G mF deep Z x a=(x,a):=by
 cases Z with
 | zero=>rfl
 | succ Z=>rw[dH,Zaa (by grind)]
theorem zK (F:Fx G) (A:FZ G (deep+1) ay mF) (O:mD G ay):∀(n:Nat) (s t:Ps) (f:List (List Nd)),At G deep s t->s.ab<=4->F0 G deep (eE G ay n s f) (ec G mF deep n t f)
 | 0,s,t,f,h,m=>.inl (.inl ⟨h,rfl⟩)
 | n+1,s,t,f,h,m=>by
  unfold eE ec;rw[fA h.i,fA h.i,h.i];by_cases c1:s.i<G.length/\a_ G s 124=false
  ·by_cases c2:a_ G s 41
   ·rw[Zaa (λk:t.au=0/\_=>by grind)];by_cases c3:0<s.aq
    ·rw[Zaa (λk=>k.2.2.2 ⟨c2,c3⟩)];exact .inl (.inl ⟨h,rfl⟩)
    ·rw[Zac ⟨h.e,c1.1,c1.2,λk=>c3 k.2⟩];have u:aK G s.i=41:=by grind [pN]
     have r:jd G ay s=(s.ax G s.i 4,[]):=by
      grind [jd]
     have er:fu G ay s=(s.ax G s.i 4,[]):=by
      unfold fu;simp only[r];rw[Zac (by rw[bR h.e];simp)]
     rw[er];rw[zJ (by rw[bR h.e];simp)];refine .inr ⟨by have:=h.o;omega,by rw[bR h.e],by rw[bR h.e];show _=aF G t.i;rw[h.i],h.e2,(fA h.i 41).trans c2⟩
   ·have g:a_ G s 41=false:=by grind
    rw[Zac ⟨h.e,c1.1,c1.2,λk=>c2 k.1⟩,Zac ⟨h.e2,c1.1,c1.2,g⟩];have p:=WV F A h m c1.1;have c:=(wX O c1.1 m).1.gm;generalize fu G ay s=a at p c ⊢;generalize rU G mF deep t=b at p ⊢;have⟨q,a2⟩:=a;have⟨b1,w⟩:=b;rcases p with⟨v,d⟩ | ⟨d,j,l⟩
    ·subst d;exact zK F A O n q b1 _ v c
    ·rw[zJ d,F3 ω];exact .inl (.inr ⟨d,j,l⟩)
  ·rw[Zaa (λk=>c1 ⟨k.2.1,k.2.2.1⟩),Zaa (λk=>c1 ⟨k.2.1,k.2.2.1⟩)];exact .inl (.inl ⟨h,rfl⟩)
theorem Dv {α β:Type} {a b:Ps×α} (f:α->β) (h:F0 G deep a b):F0 G deep (a.1,f a.2) (b.1,f b.2):=by
 rcases h with(⟨h,c⟩ | h) | h
 ·exact .inl (.inl ⟨h,by grind⟩)
 ·exact .inl (.inr h)
 ·exact .inr h
def JI (F:Fx G) (A:FZ G (deep+1) ay mF) (O:mD G ay) (h:At G deep s t) (a:s.ab<=4):F0 G deep (mB G ay s) (ov G mF deep t):=by
 unfold ov;rw[h.i];exact Dv (bX 3) (zK F A O _ s t [] h a)
theorem zL (F:Fx G) (A:FZ G (deep+1) ay mF) (O:mD G ay):∀(n:Nat) (s t:Ps) (l:List (List Nd)),At G deep s t->s.ab<=4->F0 G deep (gu G ay n s l) (dH G mF deep n t l)
 | 0,s,t,l,h,m=>.inl (.inl ⟨h,rfl⟩)
 | n+1,s,t,l,h,m=>by
  unfold gu dH;rw[fA h.i];by_cases c1:a_ G s 124
  ·rw[Zac ⟨h.e,c1⟩,Zac ⟨h.e2,c1⟩];have p:=h.next (gG c1);have o:=JI F A O p m;have j:=(mE O (s:=s.next) p.le m).1.gm;generalize mB G ay s.next=a at o j ⊢;generalize ov G mF deep t.next=b at o ⊢;have⟨q,a2⟩:=a;have⟨b1,u⟩:=b;rcases o with(⟨r,f⟩ | ⟨f,c,d⟩) | ⟨hd,f,c,d,he3⟩
   ·subst f;exact zL F A O n q b1 _ r j
   ·rw[pO f,lO (.inl ω)];exact .inl (.inr ⟨f,c,d⟩)
   ·have g:a_ G b1 124=false:=by
     grind [gG,pN]
    rw[pO ω,lO (.inr g)];exact .inr ⟨hd,f,c,d,he3⟩
  ·rw[Zaa (λk=>c1 k.2),Zaa (λk=>c1 k.2)];exact .inl (.inl ⟨h,rfl⟩)
theorem PT (F:Fx G) (A:FZ G (deep+1) ay mF) (O:mD G ay) (h:At G deep s t) (l:s.ab<=4):F0 G deep (Dq G ay s) (tX G mF deep t):=by
 have j:=JI F A O h l;have g:=(mE O (s:=s) h.le l).1.gm;unfold Dq tX;simp only;generalize mB G ay s=a at j g ⊢;generalize ov G mF deep t=b at j ⊢;have⟨m,a2⟩:=a;have⟨b1,n⟩:=b;rcases j with(⟨k,e⟩ | ⟨e,c,d⟩) | ⟨hd,e,c,d,he3⟩
 ·subst e;rw[k.i];exact Dv (bX 4) (zL F A O _ m b1 [n] k g)
 ·rw[pO e,lO (.inl ω)];exact .inl (.inr ⟨e,c,d⟩)
 ·have f:a_ G b1 124=false:=by
   grind [gG,pN]
  rw[pO ω,lO (.inr f)];exact .inr ⟨hd,e,c,d,he3⟩
theorem JJ (F:Fx G):∀(n deep:Nat) (s t:Ps),At G deep s t->s.ab<=4->F0 G deep (qI G n s) (Bx G n deep t)
 | 0,deep,s,t,h,a=>.inl (.inl ⟨h,rfl⟩)
 | n+1,deep,s,t,h,a=>by
  refine PT F (λs t h a=>?_) (vp n) h a;rcases JJ F n (deep+1) s t h a with h1 | h1
  all_goals grind
def fin (G:List Gt) (a:Ps×List Nd):List Nd×Int×Int:=
 let s:=if a.1.au=0/\a.1.i<G.length then a.1.ax G a.1.i 4 else a.1
 if s.au≠0 then([],s.au,s.wh) else(a.2,0,0)
theorem w7 (a:x.au=0) (hi:x.i<G.length):fin G (x,b)=([],4,aF G x.i):=by grind [fin,Ps.ax]
theorem PU (a:x.au=0) (hi:¬x.i<G.length):fin G (x,b)=(b,0,0):=by grind [fin]
theorem JK (a:x.au≠0):fin G (x,b)=([],x.au,x.wh):=by simp[fin,a]
theorem L' (F:Fx G):FW G=wU G:=by
 have h:=JJ F 21 0 N_ N_ ⟨rfl,rfl,rfl,rfl,rfl,Zaj _⟩ (by decide);show fin G (Bx G 21 0 N_)=fin G (qI G 21 N_)
 generalize qI G 21 N_=a at h ⊢;have⟨j,a2⟩:=a;rcases h with(⟨b,d⟩ | ⟨d,f,g⟩) | ⟨hd,d,f,g,he3⟩
 ·subst d;by_cases c:j.i<G.length
  ·rw[w7 b.e2 (by rw[b.i];exact c),w7 b.e c,b.i]
  ·rw[PU b.e2 (by rw[b.i];exact c),PU b.e c]
 ·grind [JK]
 ·grind [w7,gG,JK]
end
end syn
namespace sx
open Go Go.RowKit cls
open syn (Nd Gt)
noncomputable section
structure bA where
 pc:Int
 c0:Int
 c1:Int
 c2:Int
 c3:Int
 c4:Int
 c5:Int
 c6:Int
 c7:Int
 c8:Int
 c9:Int
structure b5 where
 done:Bool
 c0:Int
 c1:Int
 c2:Int
 c3:Int
 c4:Int
 c5:Int
 c6:Int
 c7:Int
 c8:Int
 c9:Int
 aL:List bA
structure rW where
 name:List UInt8
 text:List UInt8
structure JL where
 kind:Int
 pos:Int
 Qmc:Int
 c0:Int
 c1:Int
 c2:Int
 c3:Int
 c4:Int
 c5:Int
 c6:Int
 c7:Int
 c8:Int
 c9:Int
structure aV where
 op:Int
 x:Int
 y:Int
 bm:List Rg
structure WW where
 c0:Int
 c1:Int
 c2:Int
 c3:Int
 c4:Int
 c5:Int
 c6:Int
 c7:Int
 c8:Int
 c9:Int
inductive ai where
 | mk (op:Int) (r:List Rg) (mn:Int) (mx:Int) (lz:Bool) (cap:Int) (nk:Int) (af:List ai)
def ai.op (x:ai):Int:=match x with
 | .mk a _ _ _ _ _ _ _=>a
def ai.r (x:ai):List Rg:=match x with
 | .mk _ a _ _ _ _ _ _=>a
def ai.mn (x:ai):Int:=match x with
 | .mk _ _ a _ _ _ _ _=>a
def ai.mx (x:ai):Int:=match x with
 | .mk _ _ _ a _ _ _ _=>a
def ai.lz (x:ai):Bool:=match x with
 | .mk _ _ _ _ a _ _ _=>a
def ai.cap (x:ai):Int:=match x with
 | .mk _ _ _ _ _ a _ _=>a
def ai.nk (x:ai):Int:=match x with
 | .mk _ _ _ _ _ _ a _=>a
def ai.af (x:ai):List ai:=match x with
 | .mk _ _ _ _ _ _ _ a=>a
structure Row where
 k:List UInt8
 v:Int
structure Item where
 i:Int
 x:Bool
structure PV where
 piece:List UInt8
 times:Int
 eI:Bool
def El (c:Nat):Type:=match c with
 | 0=>UInt8
 | 1=>bA
 | 2=>b5
 | 3=>rW
 | 4=>JL
 | 5=>Int
 | 6=>Rg
 | 7=>Nd
 | 8=>aV
 | 9=>List Nd
 | 10=>List UInt8
 | 11=>WW
 | 12=>List b5
 | 13=>Gt
 | 14=>Int
 | 15=>ai
 | 16=>Row
 | 17=>Bool
 | 18=>Item
 | 19=>PV
 | _=>Unit
def szD (c:Nat):Nat:=match c with
 | 0=>1
 | 1=>11
 | 2=>12
 | 3=>2
 | 4=>13
 | 5=>1
 | 6=>2
 | 7=>7
 | 8=>4
 | 9=>1
 | 10=>1
 | 11=>10
 | 12=>1
 | 13=>2
 | 14=>1
 | 15=>8
 | 16=>2
 | 17=>1
 | 18=>2
 | 19=>3
 | _=>1
def dI (c:Nat):El c->List (AV El):=match c with
 | 0=>λ(x:UInt8)=>[.int .u8 x.toNat]
 | 1=>λ(x:bA)=>[.int .i64 x.pc,.int .i64 x.c0,.int .i64 x.c1,.int .i64 x.c2,.int .i64 x.c3,.int .i64 x.c4,.int .i64 x.c5,.int .i64 x.c6,.int .i64 x.c7,.int .i64 x.c8,.int .i64 x.c9]
 | 2=>λ(x:b5)=>[.bool x.done,.int .i64 x.c0,.int .i64 x.c1,.int .i64 x.c2,.int .i64 x.c3,.int .i64 x.c4,.int .i64 x.c5,.int .i64 x.c6,.int .i64 x.c7,.int .i64 x.c8,.int .i64 x.c9,.list 1 x.aL]
 | 3=>λ(x:rW)=>[.str x.name,.str x.text]
 | 4=>λ(x:JL)=>[.int .i64 x.kind,.int .i64 x.pos,.int .i64 x.Qmc,.int .i64 x.c0,.int .i64 x.c1,.int .i64 x.c2,.int .i64 x.c3,.int .i64 x.c4,.int .i64 x.c5,.int .i64 x.c6,.int .i64 x.c7,.int .i64 x.c8,.int .i64 x.c9]
 | 5=>λ(x:Int)=>[.int .i64 x]
 | 6=>λ(x:Rg)=>[.int .i32 x.1,.int .i32 x.2]
 | 7=>λ(x:Nd)=>[.int .i64 x.op,.list 6 x.r,.int .i64 x.mn,.int .i64 x.mx,.bool x.lz,.int .i64 x.cap,.int .i64 x.af]
 | 8=>λ(x:aV)=>[.int .i64 x.op,.int .i64 x.x,.int .i64 x.y,.list 6 x.bm]
 | 9=>λ(x:List Nd)=>[.list 7 x]
 | 10=>λ(x:List UInt8)=>[.str x]
 | 11=>λ(x:WW)=>[.int .i64 x.c0,.int .i64 x.c1,.int .i64 x.c2,.int .i64 x.c3,.int .i64 x.c4,.int .i64 x.c5,.int .i64 x.c6,.int .i64 x.c7,.int .i64 x.c8,.int .i64 x.c9]
 | 12=>λ(x:List b5)=>[.list 2 x]
 | 13=>λ(x:Gt)=>[.int .i32 x.1,.int .i64 x.2]
 | 14=>λ(x:Int)=>[.int .i32 x]
 | 15=>λ(x:ai)=>[.int .i64 x.op,.list 6 x.r,.int .i64 x.mn,.int .i64 x.mx,.bool x.lz,.int .i64 x.cap,.int .i64 x.nk,.list 15 x.af]
 | 16=>λ(x:Row)=>[.str x.k,.int .i64 x.v]
 | 17=>λ(x:Bool)=>[.bool x]
 | 18=>λ(x:Item)=>[.int .i64 x.i,.bool x.x]
 | 19=>λ(x:PV)=>[.str x.piece,.int .i64 x.times,.bool x.eI]
 | _=>λ_=>[.int .i64 0]
def cC (k:IntKind) (v:AV El):Option Int:=match v with
 | .int a n=>oI (AW k a) (some n)
 | .num a n=>oI (AW k a) (some n)
 | _=>none
def Dw (v:AV El):Option Bool:=match v with
 | .bool b=>some b
 | .lit b=>some b
 | _=>none
def F4 (v:AV El):Option (List UInt8):=match v with
 | .str s=>some s
 | _=>none
def JM (c a:Nat) (xs:List (El a)):Option (List (El c)):=Decidable.rec (motive:=λ_=>Option (List (El c))) (λ_=>none) (λh=>some (Eq.rec (motive:=λc _=>List (El c)) xs h)) (Nat.decEq a c)
def Bz (c:Nat) (v:AV El):Option (List (El c)):=match v with
 | .list a xs=>JM c a xs
 | .grow a xs _=>JM c a xs
 | .cW=>some []
 | _=>none
def b8 (n:Int):UInt8:=UInt8.ofNat n.toNat
def QcB (l:List (AV El)):Option (El 0):=match l with
 | [a0]=>oB (cC .u8 a0) λa0=>some (b8 a0)
 | _=>none
def yE (l:List (AV El)):Option (El 1):=match l with
 | [a0,b,a2,a3,a4,a5,c,d,e,a9,a]=>oB (cC .i64 a0) λa0=>oB (cC .i64 b) λb=>oB (cC .i64 a2) λa2=>oB (cC .i64 a3) λa3=>oB (cC .i64 a4) λa4=>oB (cC .i64 a5) λa5=>oB (cC .i64 c) λc=>oB (cC .i64 d) λd=>oB (cC .i64 e) λe=>oB (cC .i64 a9) λa9=>oB (cC .i64 a) λa=>some (bA.mk a0 b a2 a3 a4 a5 c d e a9 a)
 | _=>none
def L_ (l:List (AV El)):Option (El 2):=match l with
 | [a0,c,a2,a3,a4,a5,d,e,f,a9,a,b]=>oB (Dw a0) λa0=>oB (cC .i64 c) λc=>oB (cC .i64 a2) λa2=>oB (cC .i64 a3) λa3=>oB (cC .i64 a4) λa4=>oB (cC .i64 a5) λa5=>oB (cC .i64 d) λd=>oB (cC .i64 e) λe=>oB (cC .i64 f) λf=>oB (cC .i64 a9) λa9=>oB (cC .i64 a) λa=>oB (Bz 1 b) λb=>some (b5.mk a0 c a2 a3 a4 a5 d e f a9 a b)
 | _=>none
def PW (l:List (AV El)):Option (El 3):=match l with
 | [a0,a]=>oB (F4 a0) λa0=>oB (F4 a) λa=>some (rW.mk a0 a)
 | _=>none
def QcC (l:List (AV El)):Option (El 4):=match l with
 | [a0,c,a2,a3,a4,a5,d,e,f,a9,a,b,a12]=>oB (cC .i64 a0) λa0=>oB (cC .i64 c) λc=>oB (cC .i64 a2) λa2=>oB (cC .i64 a3) λa3=>oB (cC .i64 a4) λa4=>oB (cC .i64 a5) λa5=>oB (cC .i64 d) λd=>oB (cC .i64 e) λe=>oB (cC .i64 f) λf=>oB (cC .i64 a9) λa9=>oB (cC .i64 a) λa=>oB (cC .i64 b) λb=>oB (cC .i64 a12) λa12=>some (JL.mk a0 c a2 a3 a4 a5 d e f a9 a b a12)
 | _=>none
def QcD (l:List (AV El)):Option (El 5):=match l with
 | [a0]=>oB (cC .i64 a0) λa0=>some a0
 | _=>none
def QcE (l:List (AV El)):Option (El 6):=match l with
 | [a0,a]=>oB (cC .i32 a0) λa0=>oB (cC .i32 a) λa=>some (Prod.mk a0 a)
 | _=>none
def QcF (l:List (AV El)):Option (El 7):=match l with
 | [a0,a,a2,a3,a4,a5,b]=>oB (cC .i64 a0) λa0=>oB (Bz 6 a) λa=>oB (cC .i64 a2) λa2=>oB (cC .i64 a3) λa3=>oB (Dw a4) λa4=>oB (cC .i64 a5) λa5=>oB (cC .i64 b) λb=>some (Nd.mk a0 a a2 a3 a4 a5 b)
 | _=>none
def QcG (l:List (AV El)):Option (El 8):=match l with
 | [a0,a,a2,a3]=>oB (cC .i64 a0) λa0=>oB (cC .i64 a) λa=>oB (cC .i64 a2) λa2=>oB (Bz 6 a3) λa3=>some (aV.mk a0 a a2 a3)
 | _=>none
def QcH (l:List (AV El)):Option (El 9):=match l with
 | [a0]=>oB (Bz 7 a0) λa0=>some a0
 | _=>none
def PX (l:List (AV El)):Option (El 10):=match l with
 | [a0]=>oB (F4 a0) λa0=>some a0
 | _=>none
def PY (l:List (AV El)):Option (El 11):=match l with
 | [a0,a,a2,a3,a4,a5,b,c,d,a9]=>oB (cC .i64 a0) λa0=>oB (cC .i64 a) λa=>oB (cC .i64 a2) λa2=>oB (cC .i64 a3) λa3=>oB (cC .i64 a4) λa4=>oB (cC .i64 a5) λa5=>oB (cC .i64 b) λb=>oB (cC .i64 c) λc=>oB (cC .i64 d) λd=>oB (cC .i64 a9) λa9=>some (WW.mk a0 a a2 a3 a4 a5 b c d a9)
 | _=>none
def PZ (l:List (AV El)):Option (El 12):=match l with
 | [a0]=>oB (Bz 2 a0) λa0=>some a0
 | _=>none
def P0 (l:List (AV El)):Option (El 13):=match l with
 | [a0,a]=>oB (cC .i32 a0) λa0=>oB (cC .i64 a) λa=>some (Prod.mk a0 a)
 | _=>none
def P2 (l:List (AV El)):Option (El 14):=match l with
 | [a0]=>oB (cC .i32 a0) λa0=>some a0
 | _=>none
def P7 (l:List (AV El)):Option (El 15):=match l with
 | [a0,a,a2,a3,a4,a5,b,c]=>oB (cC .i64 a0) λa0=>oB (Bz 6 a) λa=>oB (cC .i64 a2) λa2=>oB (cC .i64 a3) λa3=>oB (Dw a4) λa4=>oB (cC .i64 a5) λa5=>oB (cC .i64 b) λb=>oB (Bz 15 c) λc=>some (ai.mk a0 a a2 a3 a4 a5 b c)
 | _=>none
def P8 (l:List (AV El)):Option (El 16):=match l with
 | [a0,a]=>oB (F4 a0) λa0=>oB (cC .i64 a) λa=>some (Row.mk a0 a)
 | _=>none
def P9 (l:List (AV El)):Option (El 17):=match l with
 | [a0]=>oB (Dw a0) λa0=>some a0
 | _=>none
def P' (l:List (AV El)):Option (El 18):=match l with
 | [a0,a]=>oB (cC .i64 a0) λa0=>oB (Dw a) λa=>some (Item.mk a0 a)
 | _=>none
def P_ (l:List (AV El)):Option (El 19):=match l with
 | [a0,a,a2]=>oB (F4 a0) λa0=>oB (cC .i64 a) λa=>oB (Dw a2) λa2=>some (PV.mk a0 a a2)
 | _=>none
def Qme (c:Nat) (l:List (AV El)):Option (El c):=match c with
 | 0=>QcB l
 | 1=>yE l
 | 2=>L_ l
 | 3=>PW l
 | 4=>QcC l
 | 5=>QcD l
 | 6=>QcE l
 | 7=>QcF l
 | 8=>QcG l
 | 9=>QcH l
 | 10=>PX l
 | 11=>PY l
 | 12=>PZ l
 | 13=>P0 l
 | 14=>P2 l
 | 15=>P7 l
 | 16=>P8 l
 | 17=>P9 l
 | 18=>P' l
 | 19=>P_ l
 | _=>none
def Qmf (c:Nat):El c:=match c with
 | 0=>(0:UInt8)
 | 1=>bA.mk 0 0 0 0 0 0 0 0 0 0 0
 | 2=>b5.mk false 0 0 0 0 0 0 0 0 0 0 []
 | 3=>rW.mk [] []
 | 4=>JL.mk 0 0 0 0 0 0 0 0 0 0 0 0 0
 | 5=>(0:Int)
 | 6=>Prod.mk 0 0
 | 7=>Nd.mk 0 [] 0 0 false 0 0
 | 8=>aV.mk 0 0 0 []
 | 9=>([]:List Nd)
 | 10=>([]:List UInt8)
 | 11=>WW.mk 0 0 0 0 0 0 0 0 0 0
 | 12=>([]:List b5)
 | 13=>Prod.mk 0 0
 | 14=>(0:Int)
 | 15=>ai.mk 0 [] 0 0 false 0 0 []
 | 16=>Row.mk [] 0
 | 17=>(false:Bool)
 | 18=>Item.mk 0 false
 | 19=>PV.mk [] 0 false
 | (_+20)=>()
def D:Data:=⟨El,szD,dI,Qme,Qmf,0,λxs=>xs,λxs=>xs,0,λ_=>True,λ_ _ _ h=>h⟩
end
section
variable {M:Pm D} {v:AV D.E} {val:Value}
def aU {k:IntKind} {n:Int} (h:cC k v=some n) (c:VR M v val):VR M (.int k n:AV D.E) val/\jv k n:=by
 cases c<;>simp only[cC] at h<;>(try (cases h;done))
 case int d e a=>
  obtain⟨h1,b⟩:=lJ.1 h;cases b;rw[fV.1 h1];exact⟨.int a,a⟩
 case num d e a=>
  obtain⟨h1,b⟩:=lJ.1 h;cases b;rw[fV.1 h1];exact⟨.int a,a⟩
def pP {b:Bool} (h:Dw v=some b) (a:VR M v val):VR M (.bool b:AV D.E) val:=by
 cases a<;>simp only[Dw] at h<;>(try (cases h;done))
 ·cases h;exact .bool _
 ·cases h;exact .bool _
def rX {s:List UInt8} (h:F4 v=some s) (a:VR M v val):VR M (.str s:AV D.E) val:=by
 cases a<;>simp only[F4] at h<;>(try (cases h;done));cases h;exact .str (by assumption)
theorem w8 {c a:Nat} {xs:List (El a)} {d:List (El c)} (h:JM c a xs=some d):∃e:a=c,e▸xs=d:=by
 unfold JM at h;cases b:Nat.decEq a c with
 | isFalse g=>rw[b] at h;cases h
 | isTrue f=>rw[b] at h;subst f;exact⟨rfl,ZbN h⟩
def nI {c:Nat} {xs:List (El c)} (h:Bz c v=some xs) (a:VR M v val):VR M (.list c xs:AV D.E) val:=by
 cases v<;>simp only[Bz] at h<;>(try (cases h;done))
 ·cases h;cases a;exact .dW
 ·obtain⟨rfl,rfl⟩:=w8 h;cases a with
  | grow h e hl hz hs d b ht=>exact .list hs d b
  | j6 h e=>exact .dW
 ·obtain⟨rfl,rfl⟩:=w8 h;exact a
def mG {n:Int} (h:jv .u8 n):((b8 n).toNat:Int)=n:=by
 rw[cH] at h;simp only[Cp,sJ] at h;unfold b8;rw[UInt8.toNat_ofNat'];omega
def jK (row ba:List (AV D.E)):Prop:=row.length=ba.length/\∀(j:Nat) (a b:AV D.E),row[j]?=some a->ba[j]?=some b->∀(M:Pm D) (v:Value),VR M a v->VR (D:=D) M b v
theorem jK.nil:jK [] []:=⟨rfl,λj a b h=>by simp at h⟩
def jK.cons {a c:AV D.E} {r e:List (AV D.E)} (h:∀(M:Pm D) (v:Value),VR M a v->VR (D:=D) M c v) (d:jK r e):jK (a::r) (c::e):=
 ⟨by simp[d.1],λj x f b e2=>by
  cases j with
  | zero=>simp at b e2;subst b;subst e2;exact h
  | succ j=>exact d.2 j x f (by simpa using b) (by simpa using e2)⟩
end
variable {Z:List (AV El)}
def WX {x:El 0} (h:QcB Z=some x):jK Z (dI 0 x):=by
 unfold QcB at h;split at h
 ·rename_i a0
  obtain⟨d,a,h⟩:=aH.1 h;cases h;exact .cons (λM v c=>by
   obtain⟨h1,b⟩:=aU a c;show VR M (.int .u8 ((b8 d).toNat:Int)) v
   rw[mG b];exact h1) .nil
 ·cases h
def WZ {x:El 1} (h:yE Z=some x):jK Z (dI 1 x):=by
 unfold yE at h;split at h
 ·rename_i a0 n a2 a3 a4 a5 o p q a9 c
  obtain⟨r,d,h⟩:=aH.1 h;obtain⟨s,e,h⟩:=aH.1 h;obtain⟨t,e2,h⟩:=aH.1 h;obtain⟨u,f,h⟩:=aH.1 h;obtain⟨v,g,h⟩:=aH.1 h;obtain⟨w,i,h⟩:=aH.1 h;obtain⟨y,j,h⟩:=aH.1 h;obtain⟨z,k,h⟩:=aH.1 h;obtain⟨A,e8,h⟩:=aH.1 h;obtain⟨B,l,h⟩:=aH.1 h;obtain⟨m,b,h⟩:=aH.1 h;cases h;exact .cons (λ_ _ a=>(aU d a).1) (.cons (λ_ _ a=>(aU e a).1) (.cons (λ_ _ a=>(aU e2 a).1) (.cons (λ_ _ a=>(aU f a).1) (.cons (λ_ _ a=>(aU g a).1) (.cons (λ_ _ a=>(aU i a).1) (.cons (λ_ _ a=>(aU j a).1) (.cons (λ_ _ a=>(aU k a).1) (.cons (λ_ _ a=>(aU e8 a).1) (.cons (λ_ _ a=>(aU l a).1) (.cons (λ_ _ a=>(aU b a).1) .nil))))))))))
 ·cases h
def W0 {x:El 2} (h:L_ Z=some x):jK Z (dI 2 x):=by
 unfold L_ at h;split at h
 ·rename_i a0 q a2 a3 a4 a5 r s t a9 d e
  obtain⟨u,f,h⟩:=aH.1 h;obtain⟨v,g,h⟩:=aH.1 h;obtain⟨w,e2,h⟩:=aH.1 h;obtain⟨y,i,h⟩:=aH.1 h;obtain⟨z,j,h⟩:=aH.1 h;obtain⟨A,k,h⟩:=aH.1 h;obtain⟨B,l,h⟩:=aH.1 h;obtain⟨C,m,h⟩:=aH.1 h;obtain⟨D,e8,h⟩:=aH.1 h;obtain⟨E,n,h⟩:=aH.1 h;obtain⟨o,b,h⟩:=aH.1 h;obtain⟨p,c,h⟩:=aH.1 h;cases h;exact .cons (λ_ _ a=>pP f a) (.cons (λ_ _ a=>(aU g a).1) (.cons (λ_ _ a=>(aU e2 a).1) (.cons (λ_ _ a=>(aU i a).1) (.cons (λ_ _ a=>(aU j a).1) (.cons (λ_ _ a=>(aU k a).1) (.cons (λ_ _ a=>(aU l a).1) (.cons (λ_ _ a=>(aU m a).1) (.cons (λ_ _ a=>(aU e8 a).1) (.cons (λ_ _ a=>(aU n a).1) (.cons (λ_ _ a=>(aU b a).1) (.cons (λ_ _ a=>nI c a) .nil)))))))))))
 ·cases h
def W1 {x:El 3} (h:PW Z=some x):jK Z (dI 3 x):=by
 unfold PW at h;split at h
 ·rename_i a0 d
  obtain⟨e,b,h⟩:=aH.1 h;obtain⟨f,c,h⟩:=aH.1 h;cases h;exact .cons (λ_ _ a=>rX b a) (.cons (λ_ _ a=>rX c a) .nil)
 ·cases h
def W2 {x:El 4} (h:QcC Z=some x):jK Z (dI 4 x):=by
 unfold QcC at h;split at h
 ·rename_i a0 s a2 a3 a4 a5 t u v a9 e f a12
  obtain⟨w,g,h⟩:=aH.1 h;obtain⟨y,i,h⟩:=aH.1 h;obtain⟨z,e2,h⟩:=aH.1 h;obtain⟨A,j,h⟩:=aH.1 h;obtain⟨B,k,h⟩:=aH.1 h;obtain⟨C,l,h⟩:=aH.1 h;obtain⟨D,m,h⟩:=aH.1 h;obtain⟨E,n,h⟩:=aH.1 h;obtain⟨F,e8,h⟩:=aH.1 h;obtain⟨G,o,h⟩:=aH.1 h;obtain⟨p,b,h⟩:=aH.1 h;obtain⟨q,c,h⟩:=aH.1 h;obtain⟨r,d,h⟩:=aH.1 h;cases h;exact .cons (λ_ _ a=>(aU g a).1) (.cons (λ_ _ a=>(aU i a).1) (.cons (λ_ _ a=>(aU e2 a).1) (.cons (λ_ _ a=>(aU j a).1) (.cons (λ_ _ a=>(aU k a).1) (.cons (λ_ _ a=>(aU l a).1) (.cons (λ_ _ a=>(aU m a).1) (.cons (λ_ _ a=>(aU n a).1) (.cons (λ_ _ a=>(aU e8 a).1) (.cons (λ_ _ a=>(aU o a).1) (.cons (λ_ _ a=>(aU b a).1) (.cons (λ_ _ a=>(aU c a).1) (.cons (λ_ _ a=>(aU d a).1) .nil))))))))))))
 ·cases h
def W3 {x:El 5} (h:QcD Z=some x):jK Z (dI 5 x):=by
 unfold QcD at h;split at h
 ·rename_i a0
  obtain⟨c,a,h⟩:=aH.1 h;cases h;exact .cons (λ_ _ b=>(aU a b).1) .nil
 ·cases h
def W4 {x:El 6} (h:QcE Z=some x):jK Z (dI 6 x):=by
 unfold QcE at h;split at h
 ·rename_i a0 d
  obtain⟨e,b,h⟩:=aH.1 h;obtain⟨f,c,h⟩:=aH.1 h;cases h;exact .cons (λ_ _ a=>(aU b a).1) (.cons (λ_ _ a=>(aU c a).1) .nil)
 ·cases h
def W5 {x:El 7} (h:QcF Z=some x):jK Z (dI 7 x):=by
 unfold QcF at h;split at h
 ·rename_i a0 i a2 a3 a4 a5 j
  obtain⟨k,b,h⟩:=aH.1 h;obtain⟨l,c,h⟩:=aH.1 h;obtain⟨m,e2,h⟩:=aH.1 h;obtain⟨n,d,h⟩:=aH.1 h;obtain⟨o,e,h⟩:=aH.1 h;obtain⟨p,f,h⟩:=aH.1 h;obtain⟨q,g,h⟩:=aH.1 h;cases h;exact .cons (λ_ _ a=>(aU b a).1) (.cons (λ_ _ a=>nI c a) (.cons (λ_ _ a=>(aU e2 a).1) (.cons (λ_ _ a=>(aU d a).1) (.cons (λ_ _ a=>pP e a) (.cons (λ_ _ a=>(aU f a).1) (.cons (λ_ _ a=>(aU g a).1) .nil))))))
 ·cases h
def W6 {x:El 8} (h:QcG Z=some x):jK Z (dI 8 x):=by
 unfold QcG at h;split at h
 ·rename_i a0 e a2 a3
  obtain⟨f,b,h⟩:=aH.1 h;obtain⟨g,c,h⟩:=aH.1 h;obtain⟨i,e2,h⟩:=aH.1 h;obtain⟨j,d,h⟩:=aH.1 h;cases h;exact .cons (λ_ _ a=>(aU b a).1) (.cons (λ_ _ a=>(aU c a).1) (.cons (λ_ _ a=>(aU e2 a).1) (.cons (λ_ _ a=>nI d a) .nil)))
 ·cases h
def W7 {x:El 9} (h:QcH Z=some x):jK Z (dI 9 x):=by
 unfold QcH at h;split at h
 ·rename_i a0
  obtain⟨c,a,h⟩:=aH.1 h;cases h;exact .cons (λ_ _ b=>nI a b) .nil
 ·cases h
def Qa {x:El 10} (h:PX Z=some x):jK Z (dI 10 x):=by
 unfold PX at h;split at h
 ·rename_i a0
  obtain⟨c,a,h⟩:=aH.1 h;cases h;exact .cons (λ_ _ b=>rX a b) .nil
 ·cases h
def Qb {x:El 11} (h:PY Z=some x):jK Z (dI 11 x):=by
 unfold PY at h;split at h
 ·rename_i a0 k a2 a3 a4 a5 l m n a9
  obtain⟨o,b,h⟩:=aH.1 h;obtain⟨p,c,h⟩:=aH.1 h;obtain⟨q,e2,h⟩:=aH.1 h;obtain⟨r,d,h⟩:=aH.1 h;obtain⟨s,e,h⟩:=aH.1 h;obtain⟨t,f,h⟩:=aH.1 h;obtain⟨u,g,h⟩:=aH.1 h;obtain⟨v,i,h⟩:=aH.1 h;obtain⟨w,e8,h⟩:=aH.1 h;obtain⟨y,j,h⟩:=aH.1 h;cases h;exact .cons (λ_ _ a=>(aU b a).1) (.cons (λ_ _ a=>(aU c a).1) (.cons (λ_ _ a=>(aU e2 a).1) (.cons (λ_ _ a=>(aU d a).1) (.cons (λ_ _ a=>(aU e a).1) (.cons (λ_ _ a=>(aU f a).1) (.cons (λ_ _ a=>(aU g a).1) (.cons (λ_ _ a=>(aU i a).1) (.cons (λ_ _ a=>(aU e8 a).1) (.cons (λ_ _ a=>(aU j a).1) .nil)))))))))
 ·cases h
def Qc {x:El 12} (h:PZ Z=some x):jK Z (dI 12 x):=by
 unfold PZ at h;split at h
 ·rename_i a0
  obtain⟨c,a,h⟩:=aH.1 h;cases h;exact .cons (λ_ _ b=>nI a b) .nil
 ·cases h
def Qd {x:El 13} (h:P0 Z=some x):jK Z (dI 13 x):=by
 unfold P0 at h;split at h
 ·rename_i a0 d
  obtain⟨e,b,h⟩:=aH.1 h;obtain⟨f,c,h⟩:=aH.1 h;cases h;exact .cons (λ_ _ a=>(aU b a).1) (.cons (λ_ _ a=>(aU c a).1) .nil)
 ·cases h
def Qe {x:El 14} (h:P2 Z=some x):jK Z (dI 14 x):=by
 unfold P2 at h;split at h
 ·rename_i a0
  obtain⟨c,a,h⟩:=aH.1 h;cases h;exact .cons (λ_ _ b=>(aU a b).1) .nil
 ·cases h
def Qf {x:El 15} (h:P7 Z=some x):jK Z (dI 15 x):=by
 unfold P7 at h;split at h
 ·rename_i a0 j a2 a3 a4 a5 k l
  obtain⟨m,b,h⟩:=aH.1 h;obtain⟨n,c,h⟩:=aH.1 h;obtain⟨o,e2,h⟩:=aH.1 h;obtain⟨p,d,h⟩:=aH.1 h;obtain⟨q,e,h⟩:=aH.1 h;obtain⟨r,f,h⟩:=aH.1 h;obtain⟨s,g,h⟩:=aH.1 h;obtain⟨t,i,h⟩:=aH.1 h;cases h;exact .cons (λ_ _ a=>(aU b a).1) (.cons (λ_ _ a=>nI c a) (.cons (λ_ _ a=>(aU e2 a).1) (.cons (λ_ _ a=>(aU d a).1) (.cons (λ_ _ a=>pP e a) (.cons (λ_ _ a=>(aU f a).1) (.cons (λ_ _ a=>(aU g a).1) (.cons (λ_ _ a=>nI i a) .nil)))))))
 ·cases h
def Qg {x:El 16} (h:P8 Z=some x):jK Z (dI 16 x):=by
 unfold P8 at h;split at h
 ·rename_i a0 d
  obtain⟨e,b,h⟩:=aH.1 h;obtain⟨f,c,h⟩:=aH.1 h;cases h;exact .cons (λ_ _ a=>rX b a) (.cons (λ_ _ a=>(aU c a).1) .nil)
 ·cases h
def Qh {x:El 17} (h:P9 Z=some x):jK Z (dI 17 x):=by
 unfold P9 at h;split at h
 ·rename_i a0
  obtain⟨c,a,h⟩:=aH.1 h;cases h;exact .cons (λ_ _ b=>pP a b) .nil
 ·cases h
def Qi {x:El 18} (h:P' Z=some x):jK Z (dI 18 x):=by
 unfold P' at h;split at h
 ·rename_i a0 d
  obtain⟨e,b,h⟩:=aH.1 h;obtain⟨f,c,h⟩:=aH.1 h;cases h;exact .cons (λ_ _ a=>(aU b a).1) (.cons (λ_ _ a=>pP c a) .nil)
 ·cases h
def Qj {x:El 19} (h:P_ Z=some x):jK Z (dI 19 x):=by
 unfold P_ at h;split at h
 ·rename_i a0 d a2
  obtain⟨e,b,h⟩:=aH.1 h;obtain⟨f,c,h⟩:=aH.1 h;obtain⟨g,e2,h⟩:=aH.1 h;cases h;exact .cons (λ_ _ a=>rX b a) (.cons (λ_ _ a=>(aU c a).1) (.cons (λ_ _ a=>pP e2 a) .nil))
 ·cases h
def l6 {l:List (AV D.E)} (h:jB (λv=>one v&&ml (D:=D) v) l):∀v∈l,one v/\ml v:=λv a=>by
 have:=dV.1 h v a;simpa using this
theorem gb:a7 D where
 len:=λc x=>by
  show(dI c x).length=szD c
  match c,x with
  | 0,x=>rfl
  | 1,x=>rfl
  | 2,x=>rfl
  | 3,x=>rfl
  | 4,x=>rfl
  | 5,x=>rfl
  | 6,x=>rfl
  | 7,x=>rfl
  | 8,x=>rfl
  | 9,x=>rfl
  | 10,x=>rfl
  | 11,x=>rfl
  | 12,x=>rfl
  | 13,x=>rfl
  | 14,x=>rfl
  | 15,x=>rfl
  | 16,x=>rfl
  | 17,x=>rfl
  | 18,x=>rfl
  | 19,x=>rfl
  | _+20,x=>rfl
 one:=λc x=>by
  show ∀v∈dI c x,one v/\ml (D:=D) v
  match c,x with
  | 0,x=>intro v a;exact l6 (l:=dI 0 x) (by rfl) v a
  | 1,x=>intro v a;exact l6 (l:=dI 1 x) (by rfl) v a
  | 2,x=>intro v a;exact l6 (l:=dI 2 x) (by rfl) v a
  | 3,x=>intro v a;exact l6 (l:=dI 3 x) (by rfl) v a
  | 4,x=>intro v a;exact l6 (l:=dI 4 x) (by rfl) v a
  | 5,x=>intro v a;exact l6 (l:=dI 5 x) (by rfl) v a
  | 6,x=>intro v a;exact l6 (l:=dI 6 x) (by rfl) v a
  | 7,x=>intro v a;exact l6 (l:=dI 7 x) (by rfl) v a
  | 8,x=>intro v a;exact l6 (l:=dI 8 x) (by rfl) v a
  | 9,x=>intro v a;exact l6 (l:=dI 9 x) (by rfl) v a
  | 10,x=>intro v a;exact l6 (l:=dI 10 x) (by rfl) v a
  | 11,x=>intro v a;exact l6 (l:=dI 11 x) (by rfl) v a
  | 12,x=>intro v a;exact l6 (l:=dI 12 x) (by rfl) v a
  | 13,x=>intro v a;exact l6 (l:=dI 13 x) (by rfl) v a
  | 14,x=>intro v a;exact l6 (l:=dI 14 x) (by rfl) v a
  | 15,x=>intro v a;exact l6 (l:=dI 15 x) (by rfl) v a
  | 16,x=>intro v a;exact l6 (l:=dI 16 x) (by rfl) v a
  | 17,x=>intro v a;exact l6 (l:=dI 17 x) (by rfl) v a
  | 18,x=>intro v a;exact l6 (l:=dI 18 x) (by rfl) v a
  | 19,x=>intro v a;exact l6 (l:=dI 19 x) (by rfl) v a
  | _+20,x=>intro v a;exact l6 (l:=[.int .i64 0]) (by rfl) v a
 dec:=λc row x h=>by
  have key:jK row (dI c x):=by
   match c,x,h with
   | 0,x,h=>exact WX h
   | 1,x,h=>exact WZ h
   | 2,x,h=>exact W0 h
   | 3,x,h=>exact W1 h
   | 4,x,h=>exact W2 h
   | 5,x,h=>exact W3 h
   | 6,x,h=>exact W4 h
   | 7,x,h=>exact W5 h
   | 8,x,h=>exact W6 h
   | 9,x,h=>exact W7 h
   | 10,x,h=>exact Qa h
   | 11,x,h=>exact Qb h
   | 12,x,h=>exact Qc h
   | 13,x,h=>exact Qd h
   | 14,x,h=>exact Qe h
   | 15,x,h=>exact Qf h
   | 16,x,h=>exact Qg h
   | 17,x,h=>exact Qh h
   | 18,x,h=>exact Qi h
   | 19,x,h=>exact Qj h
   | _+20,x,h=>cases(show none=some x from h)
  have hl:(dI c x).length=szD c:=by
   match c,x with
   | 0,x=>rfl
   | 1,x=>rfl
   | 2,x=>rfl
   | 3,x=>rfl
   | 4,x=>rfl
   | 5,x=>rfl
   | 6,x=>rfl
   | 7,x=>rfl
   | 8,x=>rfl
   | 9,x=>rfl
   | 10,x=>rfl
   | 11,x=>rfl
   | 12,x=>rfl
   | 13,x=>rfl
   | 14,x=>rfl
   | 15,x=>rfl
   | 16,x=>rfl
   | 17,x=>rfl
   | 18,x=>rfl
   | 19,x=>rfl
   | _+20,x=>rfl
  exact⟨key.1.trans hl,key.2⟩
 b1:=rfl
 bl:=λ_=>rfl
 be:=λ_ _ _=>rfl
 bo:=λ_=>rfl
end sx
namespace sx
open Go Go.RowKit
noncomputable section
def cdD (t:TypeId):Option Nat:=match t with
 | 5=>some 0
 | 179=>some 1
 | 106=>some 2
 | 77=>some 3
 | 110=>some 4
 | 3=>some 5
 | 350=>some 6
 | 206=>some 7
 | 203=>some 8
 | 138=>some 9
 | 9=>some 10
 | 28=>some 12
 | 192=>some 13
 | 21=>some 14
 | 209=>some 15
 | 221=>some 15
 | 275=>some 16
 | 4=>some 17
 | 379=>some 18
 | _=>none
def Qmg (l:List Func):Bool:=jB (λfn=>Bool.not (fn.name== "runtime.NumGoroutine" &&fn.body.isSome)) l
theorem Ma {P:Program} (h:Qmg P.funcs.toList):sS P:=λf fn a=>by
 have:=dV.1 h fn (ZaJ (i:=f) (by rw[ZaL];exact a));grind
def vq:sS prog:=Ma (by kernel_rfl)
def mixed:Tryz.prog.follows .mixedOrders:=by kernel_rfl
def BA (f:Func):Code:=match f.body with
 | some c=>c
 | none=>.skip
abbrev s6:=List (bk D)
def Qfv (tab:s6) (fn:Func) (k:bk D) (a:k.Y->cU D) (y:k.Y):Prop:=OU prog D cdD (Wv D tab) (a y) fn.ntmps k (BA fn) fn.results.toList y
abbrev Ok (k:bk D):Prop:=JE prog D k
variable {Z:Func} {k:bk D} {Y:s6}
variable {a:k.Y->cU D} {V:k.Y->Prop}
def vc (tab:s6) (fn:Func) (k:bk D) (a:k.Y->cU D) (y:k.Y):Prop:=bif Nat.ble (kg (k.args y)) fn.ntmps then Qfv tab fn k a y else False
@[reducible] def Qk:s6->Prop
 | []=>True
 | [k]=>Ok k
 | k::l=>Ok k/\Qk l
theorem Qk.all:∀{l:s6},Qk l->∀k∈l,Ok k
 | [],_,k,hk=>nomatch hk
 | [a],h,k,hk=>by cases hk with
  | head=>exact h
  | tail _ hk=>cases hk
 | a::b::l,h,k,hk=>by cases hk with
  | head=>exact h.1
  | tail _ hk=>exact Qk.all h.2 k hk
theorem tY {α:Type} (l:List α):kg l=l.length:=by
 induction l with
 | nil=>rfl
 | cons a l b=>show Nat.succ (kg l)=_;rw[b];rfl
theorem okB {y:k.Y} (h:vc Y Z k a y):(k.args y).length<=Z.ntmps/\Qfv Y Z k a y:=by
 unfold vc at h;rw[tY] at h;simp_all
theorem cI (h:Z.body.isSome):Z.body=some (BA Z):=by
 grind [BA]
def cn (j:∀y,V y=vc Y Z k a y) (ht:Qk Y) (h:∀y,k.pre y->V y)
  (b:Tryz.prog.funcs[k.f]?=some Z:=by kernel_rfl) (c:Z.body.isSome:=by kernel_rfl):Ok k:=by
 refine⟨⟨Z,_,b,cI c⟩,λy l=>?_⟩;obtain⟨h1,d⟩:=okB (Eq.mp (j y) (h y l));exact λM A w hl g i R e=>nF gb mixed vq b (cI c) (Bs gb ht.all) h1 d M A w hl g i R e
def okZ (tab:s6) (fn:Func) (b:k.Y->cU D) (ht:Qk tab) (h:∀y,k.pre y->V y) (c:∀y,V y=vc tab fn k b y:=by intro y;kernel_rfl)
  (a:Tryz.prog.funcs[k.f]?=some fn:=by kernel_rfl) (d:fn.body.isSome:=by kernel_rfl):Ok k:=cn c ht h a d
theorem w9 {g:Type} (l:List g) (k:g->bk D) (me:∀i,(k i).Y->Nat) {fn:g->Func} {tab:g->s6} {jb:∀i,(k i).Y->cU D} (ht:∀i,Qk (tab i)) (a:∀i,Tryz.prog.funcs[(k i).f]?=some (fn i)) (c:∀i,(fn i).body.isSome)
  (r:∀i y,(k i).pre y->vc (l.map (λj=>(k j).under (me j) (me i y))++tab i) (fn i) (k i) (jb i) y):∀i,Ok (k i):=by
 have key:∀n i,Ok ((k i).under (me i) n):=λn=>by
  induction n with
  | zero=>exact λi=>⟨⟨fn i,_,a i,cI (c i)⟩,λy b=>absurd b.2 (Zbo _)⟩
  | succ n s=>
   refine λi=>⟨⟨fn i,_,a i,cI (c i)⟩,λy b M A w hl o p R m=>?_⟩
   have u:∀j,Ok ((k j).under (me j) (me i y)):=λj=>⟨⟨fn j,_,a j,cI (c j)⟩,λt d=>(s j).2 t ⟨d.1,by have:=b.2;have:=d.2;omega⟩⟩
   obtain⟨h1,h⟩:=okB (r i y b.1);exact nF (k:=k i) gb mixed vq (a i) (cI (c i)) (Bs gb λq e=>by
    rcases Zax.1 e with e | e
    ·grind
    ·exact(ht i).all q e) h1 h M A w hl o p R m
 exact λi=>⟨⟨fn i,_,a i,cI (c i)⟩,λy b=>(key (me i y+1) i).2 y ⟨b,Zbr _⟩⟩
def Ql (me:k.Y->Nat) {fn:Func} {tab:s6} {jb:k.Y->cU D} (b:∀y,V y=vc (k.under me (me y)::tab) fn k jb y) (ht:Qk tab) (h:∀y,k.pre y->V y)
  (a:Tryz.prog.funcs[k.f]?=some fn:=by kernel_rfl) (c:fn.body.isSome:=by kernel_rfl):Ok k:=
 w9 [()] (λ_=>k) (λ_=>me) (fn:=λ_=>fn) (tab:=λ_=>tab) (jb:=λ_=>jb) (λ_=>ht) (λ_=>a) (λ_=>c) (λ_ y d=>Eq.mp (b y) (h y d)) ()
abbrev By:=List UInt8
abbrev QtJ (n:Int):AV D.E:=.int .i64 n
def aa {α:Type} (l:List α) (p:Prop):Prop:=List.rec (motive:=λ_=>Prop) p (λa _ b=>a=a/\b) l
@[simp] theorem eN {α:Type} (l:List α) (p:Prop):aa l p=p:=by
 induction l with
 | nil=>rfl
 | cons a l b=>
  grind [aa]
def Tt (n:Nat) (p:Prop):Prop:=Nat.rec (motive:=λ_=>Prop) p (λ_ a=>true/\a) n
@[simp] theorem Qaq (n:Nat) (p:Prop):Tt n p=p:=by
 induction n with
 | zero=>rfl
 | succ n a=>
  show(true/\Tt n p)=p
  rw[a];simp
def ak (b:Bool) (p q:Prop):Prop:=(b->p)/\(b=false->q)
@[simp] theorem l7 (b:Bool) (p q:Prop):ak b p q=((b->p)/\(b=false->q)):=rfl
def fl:b5:=⟨false,0,0,0,0,0,0,0,0,0,0,[]⟩
def gN {α:Type} (d:α) (l:List α) (x:Nat):α:=gt d l (Int.toNat (x:Int))
@[simp] theorem Qs3 {α:Type} (d:α) (l:List α) (x:Nat):gN d l x=gt d l x:=rfl
def dr {α:Type} (_:α):cU D:=⟨[],[],[],[],1,[]⟩
end
end sx
namespace sx
open Go Go.RowKit Go.ChangeShapes Go.WideShapes Go.ChangeAt
inductive Lf where
 | int (k:IntKind)
 | bool
 | str
 | sl (e:TypeId)
def JN (l:List Lf):Nat->List Lf
 | 0=>[]
 | n+1=>l++JN l n
def Mb (P:Program) (g:TypeId->Option (List Lf)):List Field->Nat->Option (List Lf)
 | [],_=>some []
 | f::fs,o=>match g f.type with
  | some l=>if f.offset=o/\l.length=P.cellsOf f.type then(Mb P g fs (o+l.length)).map λr=>l++r else none
  | none=>none
def lvs (P:Program):Nat->TypeId->Option (List Lf)
 | 0,_=>none
 | n+1,t=>match P.underlying t with
  | some (.int k)=>some [.int k]
  | some .bool=>some [.bool]
  | some .string=>some [.str]
  | some (.slice e)=>some [.sl e]
  | some (.array m e)=>match lvs P n e with
   | some l=>if l.length=P.cellsOf e/\P.cellsOf t=m*l.length then some (JN l m) else none
   | none=>none
  | some (.struct a)=>match Mb P (lvs P n) a.toList 0 with
   | some l=>if l.length=P.cellsOf t then some l else none
   | none=>none
  | _=>none
section
variable {H:Type} {ba:TypeId×Value->H} {P:Program} {W:World} {held:Bool}
abbrev Oa (ba:TypeId×Value->H) (P:Program) (W:World) (held:Bool):=DataW.trod ba P W 0 (λ_=>true) held
variable {c:List Value} {a:List Lf}
def Mc (ba:TypeId×Value->H) (P:Program) (W:World) (held:Bool) (l:Lf) (v:Value):Prop:=match l with
 | .int k=>∃n,v=.int k n/\(Lit.int k n).wf
 | .bool=>∃b,v=.bool b
 | .str=>∃s:ByteArray,v=.string s/\s.size<=maxLen
 | .sl e=>v=.slice none 0 0\/∃a len cap n,v=.slice (some a) len cap/\len<=cap/\cap<=maxLen/\∀i,i<len->∃cs x,W.cells? 0 (a.add (i*P.cellsOf e)) (P.cellsOf e)=some cs/\Oa ba P W held n e cs=some x
def iu (ba:TypeId×Value->H) (P:Program) (W:World) (held:Bool) (a:List Lf) (cs:List Value):Prop:=a.length=cs.length/\∀(i:Nat) (l:Lf) (v:Value),a[i]?=some l->cs[i]?=some v->Mc ba P W held l v
theorem iu.nil:iu ba P W held [] []:=⟨rfl,λi l v h=>by simp at h⟩
def iu.app {b:List Lf} {d:List Value} (h:iu ba P W held a c) (k:iu ba P W held b d):iu ba P W held (a++b) (c++d):=by
 refine⟨by simp[h.1,k.1],λi l v e f=>?_⟩;by_cases hi:i<a.length
 ·rw[Zat hi] at e;rw[Zat (by rw[<-h.1];exact hi)] at f;exact h.2 i l v e f
 ·rw[Zaz ω] at e;rw[Zaz (by rw[<-h.1];omega),<-h.1] at f;exact k.2 _ l v e f
theorem iu.aP {l:Lf} (h:iu ba P W held (l::a) c):∃v r,c=v::r/\Mc ba P W held l v/\iu ba P W held a r:=by
 obtain⟨hl,cs⟩:=h;cases c with
 | nil=>simp at hl
 | cons v r=>exact⟨v,r,rfl,cs 0 l v rfl rfl,by simpa using hl,λi u e d b=>cs (i+1) u e (by simpa using d) (by simpa using b)⟩
def iu.jD (h:iu ba P W held [] c):c=[]:=Zap h.1.symm
def iu.one {l:Lf} {v:Value} (h:Mc ba P W held l v):iu ba P W held [l] [v]:=
 ⟨rfl,λi b c e a=>by
  cases i with
  | zero=>simp at e a;subst e;subst a;exact h
  | succ i=>simp at e⟩
theorem JO {g:TypeId->Option (List Lf)} {cs:List Value} (c:∀t l a m x,g t=some l->Oa ba P W held m t a=some x->iu ba P W held l a):
  ∀(b:List Field) (o:Nat) (l:List Lf),Mb P g b o=some l->(∀f∈b,∃m x,Oa ba P W held m f.type ((cs.drop f.offset).take (P.cellsOf f.type))=some x)->
   iu ba P W held l ((cs.drop o).take l.length)
 | [],o,l,h,_=>by cases h;simpa using iu.nil
 | f::b,o,l,h,hx=>by
  unfold Mb at h;cases e:g f.type with
  | none=>rw[e] at h;cases h
  | some k=>
   rw[e] at h;simp only at h;split at h
   ·rename_i d
    obtain⟨j,hl⟩:=d;cases e2:Mb P g b (o+k.length) with
    | none=>rw[e2] at h;cases h
    | some n=>
     rw[e2] at h;cases h;obtain⟨m,x,h1⟩:=hx f Za8;rw[j,<-hl] at h1;have k1:=c _ _ _ _ _ e h1;have k2:=JO c b _ _ e2 λf i=>hx f (ZaU _ i)
     have hlen:=k1.1;rw[Zab,ZdW,ZbZ];exact k1.app k2
   ·cases h
theorem Dx {l:List Lf} {cs:List Value}:∀(n:Nat) (o:Nat),(∀i,i<n->iu ba P W held l ((cs.drop (o+i*l.length)).take l.length))->iu ba P W held (JN l n) ((cs.drop o).take (n*l.length))
 | 0,o,_=>by simpa [JN] using iu.nil
 | n+1,o,h=>by
  have h0:=h 0 ω;rw[ZbS,Zbn] at h0;have h1:=Dx n (o+l.length) λi hi=>by
   have:=h (i+1) ω;rw[show o+(i+1)*l.length=o+l.length+i*l.length by rw[ZbL];omega] at this;exact this
  rw[ZbL,Nat.one_mul,Zc1 (n*l.length),ZdW,ZbZ];exact h0.app h1
theorem oY:∀(n:Nat) (t:TypeId) (r:List Lf) (cs:List Value) (m:Nat) (x:DataW H×List MemPlace),lvs P n t=some r->Oa ba P W held m t cs=some x->iu ba P W held r cs
 | 0,t,r,cs,m,x,h,_=>by cases h
 | n+1,t,r,cs,m,x,h,j=>by
  unfold lvs at h;cases hu:P.underlying t with
  | none=>rw[hu] at h;cases h
  | some d=>
   rw[hu] at h;cases d<;>simp only at h<;>(try (cases h;done))
   case bool=>
    cases h;obtain⟨b,rfl,_⟩:=DataW.trod_bool hu j;exact .one ⟨b,rfl⟩
   case int k=>
    cases h;obtain⟨v,rfl,_,hw⟩:=DataW.trod_int hu j;exact .one ⟨v,rfl,hw⟩
   case string=>
    cases h;obtain⟨s,rfl,_,hs⟩:=DataW.trod_string hu j;exact .one ⟨s,rfl,hs⟩
   case slice e=>
    cases h;rcases Go.Deep.open_slice hu j with⟨rfl,_⟩ | ⟨a,len,cap,q,F,D,G,rfl,_,hl,E,p,_,B⟩
    ·exact .one (.inl rfl)
    ·simp only[Zbv] at p;subst p;refine .one (.inr ⟨a,len,q,F,rfl,hl,E,λi hi=>?_⟩);obtain⟨c,h1,w⟩:=B i ω;exact⟨c,_,h1,w⟩
   case array q e=>
    cases hl:lvs P n e with
    | none=>rw[hl] at h;cases h
    | some l=>
     rw[hl] at h;simp only at h;split at h
     ·rename_i z
      cases h;obtain⟨xs,A,_,_,h1,w,y⟩:=DataW.trod_array hu j;have:=Dx (ba:=ba) (P:=P) (W:=W) (held:=held) (l:=l) (cs:=cs) q 0 λi hi=>by
       have o:=y i hi;rw[Zaf ω] at o;rw[Za6,z.1];exact oY n e l _ _ _ hl o
      rw[ZbQ,ZaA ω] at this;exact this
     ·cases h
   case struct u=>
    cases hl:Mb P (lvs P n) u.toList 0 with
    | none=>rw[hl] at h;cases h
    | some l=>
     rw[hl] at h;simp only at h;split at h
     ·rename_i z
      cases h;obtain⟨xs,A,_,_,h1,w,y⟩:=DataW.trod_struct hu j;have:=JO (ba:=ba) (P:=P) (W:=W) (held:=held) (g:=lvs P n) (cs:=cs) (λt l c m x=>oY n t l c m x) u.toList 0 r hl λf C=>by
       obtain⟨i,hi,rfl⟩:=Za3 C;have o:=y i _ (by simpa using Za5 (xs:=u) (i:=i) (by simpa using hi));rw[Zaf (by simp at hi;omega)] at o;exact⟨A,_,o⟩
      rw[ZbQ,ZaA ω] at this;exact this
     ·cases h
end
variable {v:Value} {c:Nat} {W:World} {u:AV D.E}
variable {Z:List (D.E c)}
def kR (v:Value):Option (AV D.E):=match v with
 | .int k n=>bif jv k n then some (.int k n) else none
 | .bool b=>some (.bool b)
 | .string s=>if s.data.toList.length<=9223372036854775807 then some (.str s.data.toList) else none
 | _=>none
noncomputable def lP (W:World):Pm D:=⟨λ_=>none,λb o=>(W.cell? ⟨b,o,none⟩).bind kR⟩
noncomputable def pQ (c:Nat) (W:World) (v:Value):Option (AV D.E):=@dite _ (∃xs:List (D.E c),VR (lP W) (.list c xs) v) (Classical.propDecidable _) (λh=>some (.list c h.choose)) (λ_=>none)
def BB (h:pQ c W v=some u):∃xs:List (D.E c),u=.list c xs/\VR (lP W) (.list c xs) v:=by
 unfold pQ at h;split at h
 ·rename_i a;cases h;exact⟨_,rfl,a.choose_spec⟩
 ·cases h
def F5 (h:VR (lP W) (.list c Z) v):∃b:List (D.E c),pQ c W v=some (.list c b)/\VR (lP W) (.list c b) v:=by
 have a:∃Z:List (D.E c),VR (lP W) (.list c Z) v:=⟨Z,h⟩;refine⟨a.choose,?_,a.choose_spec⟩;unfold pQ;rw[dif_pos a]
noncomputable def qy (c:Nat) (W:World) (v:Value):Option (AV D.E):=match kR v with
 | some u=>some u
 | none=>pQ c W v
noncomputable def mH (c:Nat) (W:World):Pm D:=⟨λ_=>none,λb o=>(W.cell? ⟨b,o,none⟩).bind (qy c W)⟩
def Qm {M:Pm D} (h:kR v=some u):ml u/\VR M u v:=by
 cases v<;>simp only[kR] at h<;>(try (cases h;done))
 case bool b=>cases h;exact⟨rfl,.bool b⟩
 case int k n=>
  cases a:jv k n with
  | false=>rw[a] at h;cases h
  | true=>rw[a] at h;cases h;exact⟨rfl,.int a⟩
 case string s=>
  split at h
  ·rename_i hs;cases h;exact⟨rfl,.str hs⟩
  ·cases h
theorem BC (c:Nat) (W:World):Le (lP W) (mH c W):=⟨λb a h=>(nomatch h),λb o v h=>by
 have h:(W.cell? ⟨b,o,none⟩).bind kR=some v:=h;show(W.cell? ⟨b,o,none⟩).bind (qy c W)=some v
 cases e:W.cell? ⟨b,o,none⟩ with
 | none=>rw[e] at h;cases h
 | some u=>
  rw[e] at h;have h:kR u=some v:=h;show qy c W u=some v
  unfold qy;rw[h]⟩
theorem Md (c:Nat) (W:World) (f:D.ng<=W.heap.size) (d:D.gw W):dX (mH c W) (λ_=>none) W:=by
 refine⟨λb o h=>(nomatch h),λb j o k a i h=>(nomatch h),λb o v h=>?_,λb o a h=>(nomatch h),λb c xs e a h=>(nomatch h),⟨⟨f,d⟩,λb o a h=>(nomatch h)⟩⟩;have h:(W.cell? ⟨b,o,none⟩).bind (qy c W)=some v:=h;cases e:W.cell? ⟨b,o,none⟩ with
 | none=>rw[e] at h;cases h
 | some u=>
  rw[e] at h;have h:qy c W u=some v:=h;unfold qy at h;cases e2:kR u with
  | some l=>
   rw[e2] at h;cases h;have:=Qm (M:=mH c W) e2;exact⟨this.1,u,rfl,this.2⟩
  | none=>
   rw[e2] at h;obtain⟨xs,rfl,g⟩:=BB h;exact⟨rfl,u,rfl,g.mono (BC c W)⟩
theorem row_one {M:Pm D} {a:List (D.E c)} (e:∀x y:D.E c,D.ba c x=D.ba c y->x=y) (h:VR M (.list c Z) v) (k:VR M (.list c a) v):Z=a:=by
 have key:∀{b o:Nat},cx M b o c Z->cx M b o c a->Z.length=a.length->Z=a:=λ{b o} hs f hl=>by
  refine Zdx hl λi h1 l=>e _ _ (Zb6 λj=>?_)
  by_cases s:j<D.size c
  ·have p:(D.ba c Z[i]).length=D.size c:=gb.len c _;have q:(D.ba c a[i]).length=D.size c:=gb.len c _;rw[Zaf ω,Zaf ω];have g:=hs i h1 j _ (Zaf ω);have a2:=f i l j _ (Zaf ω);rw[g] at a2;exact a2
  ·have p:(D.ba c Z[i]).length=D.size c:=gb.len c _;have q:(D.ba c a[i]).length=D.size c:=gb.len c _;rw[Zbd ω,Zbd ω]
 generalize d:v=u at k;cases h with
 | list hs t r=>
  cases k with
  | list f n m=>
   simp only[Value.slice.injEq,ZcQ,Addr.mk.injEq] at d;obtain⟨⟨rfl,rfl,_⟩,hl,_⟩:=d;exact key hs f hl
  | dW=>
   simp only[Value.slice.injEq] at d;exact Zap d.2.1
 | dW=>
  cases k with
  | list f n m=>
   simp only[Value.slice.injEq] at d;exact(Zap d.2.1.symm).symm
  | dW=>rfl
def Dy {b o:Nat} (a:∀x y:D.E c,D.ba c x=D.ba c y->x=y) (h:VR (lP W) (.list c Z) v) (f:W.cell? ⟨b,o,none⟩=some v):(mH c W).sg b o=some (.list c Z):=by
 show(W.cell? ⟨b,o,none⟩).bind (qy c W)=_
 rw[f];show qy c W v=_
 have e:kR v=none:=by cases h<;>rfl
 unfold qy;rw[e];obtain⟨g,h1,d⟩:=F5 h;show pQ c W v=_
 rw[h1,row_one a d h]
section
variable {H:Type} {ba:TypeId×Value->H} {P:Program} {W:World} {held:Bool} {M:Pm D}
def iK (M:Pm D) (W:World) (l:List (AV D.E)) (cs:List Value):Prop:=l.length=cs.length/\∀(j:Nat) (u:AV D.E) (v:Value),l[j]?=some u->cs[j]?=some v->∀b o,W.cell? ⟨b,o,none⟩=some v->M.sg b o=some u
theorem iK.nil:iK M W [] []:=⟨rfl,λj u v h=>by simp at h⟩
def iK.cons {u:AV D.E} {v:Value} {l:List (AV D.E)} {cs:List Value} (h:∀b o,W.cell? ⟨b,o,none⟩=some v->M.sg b o=some u) (k:iK M W l cs):iK M W (u::l) (v::cs):=
 ⟨by simp[k.1],λj c d e a=>by
  cases j with
  | zero=>simp at e a;subst e;subst a;exact h
  | succ j=>exact k.2 j c d (by simpa using e) (by simpa using a)⟩
def BD {c:Nat} {e:TypeId} {v:Value} (G:P.cellsOf e=D.size c) (t:0<D.size c)
  (g:∀n cs x,Oa ba P W held n e cs=some x->∃y:D.E c,iK M W (D.ba c y) cs) (h:Mc ba P W held (.sl e) v):
  ∃xs:List (D.E c),VR M (.list c xs) v/\∃a cap,v=.slice a xs.length cap:=by
 rcases h with rfl | ⟨a,len,cap,n,rfl,hl,H,J⟩
 ·exact⟨[],.dW,none,0,rfl⟩
 ·by_cases h0:len=0
  ·subst h0;exact⟨[],.dW,some a,cap,rfl⟩
  have I:∀i,i<len->∃y:D.E c,∃cs,W.cells? 0 (a.add (i*D.size c)) (D.size c)=some cs/\iK M W (D.ba c y) cs:=λi hi=>by
   obtain⟨cs,x,h1,F⟩:=J i hi;rw[G] at h1;obtain⟨y,K⟩:=g n cs x F;exact⟨y,cs,h1,K⟩
  haveI:Inhabited (D.E c):=⟨D.Wn c⟩
  obtain⟨f,q⟩:=Go.Deep.choose_lt I;obtain⟨b,o,sp⟩:=a;obtain⟨z,c1,c2⟩:=q 0 ω;have B:((⟨b,o,sp⟩:Addr).add (0*D.size c)).add 0=⟨b,o,sp⟩:=by simp[Addr.add]
  have d:=(World.cells?_some c1).2.2 0 t;rw[B] at d;have l:(D.ba c (f 0)).length=D.size c:=gb.len c _;rw[Zaf (by rw[<-c2.1,l];exact t)] at d;obtain rfl:sp=none:=by
   cases sp with
   | none=>rfl
   | some s=>
    simp only[World.cell?] at d;split at d<;>simp at d
  refine⟨(List.range len).map f,?_,some ⟨b,o,none⟩,cap,by simp⟩;have hlen:((List.range len).map f).length=len:=by simp
  have w:VR M (.list c ((List.range len).map f)) (.slice (some ⟨b,o,none⟩) ((List.range len).map f).length cap):=by
   refine .list (λi hi j u hu=>?_) (by rw[hlen];unfold maxLen at H;omega) (by rw[hlen];exact hl);have k:i<len:=by simpa using hi
   simp only[ZcD,Zdf] at hu;obtain⟨cs,A,m⟩:=q i k;have r:j<D.size c:=by rw[<-gb.len c (f i)];exact(Zam.1 hu).1
   have p:=(World.cells?_some A).2.2 j r;have C:((⟨b,o,none⟩:Addr).add (i*D.size c)).add j=⟨b,o+i*D.size c+j,none⟩:=by
    rw[Addr.add_lit,Addr.add_lit]
   rw[C,Zaf (by rw[<-m.1,gb.len];exact r)] at p;exact m.2 j u _ hu (Zaf _) _ _ p
  rw[hlen] at w;exact w
end
end sx
namespace sx
open Go Go.RowKit
variable {x b:Int} {k:IntKind} {m:Nat}
def gx {a b:Int}:aI a b↔a<=b:=by simp[aI]
def Qfw {a b:Int}:aI a b=false↔b<a:=by simp[aI]
def eV {a b:Int}:az a b↔a<b:=by simp[az]
def mI {a b:Int}:az a b=false↔b<=a:=by simp[az]
def je {a b:Int}:aC a b↔a=b:=by simp[aC]
def mJ {a b:Int}:aC a b=false↔a≠b:=by simp[aC]
def w_ {a b:By}:seq a b↔a=b:=by simp[seq]
def br:bF x m↔x*m<=140737488355328:=by simp[bF]
theorem zM:jv .i64 x↔-9223372036854775808<=x/\x<=9223372036854775807:=by rw[cH];simp only[Cp,sJ]
def QcJ:jv .u64 x↔0<=x/\x<=18446744073709551615:=by rw[cH];simp only[Cp,sJ]
theorem bG {a:Int} (h1: -9223372036854775808<=a+b) (c:a+b<=9223372036854775807):aD .i64 a b=a+b:=dE (zM.2 ⟨h1,c⟩)
theorem qJ {a:Int} (h1: -9223372036854775808<=a-b) (c:a-b<=9223372036854775807):cQ .i64 a b=a-b:=dE (zM.2 ⟨h1,c⟩)
theorem Qfx (h1:0<=x) (b:x<=18446744073709551615):vT .u64 x=x:=dE (QcJ.2 ⟨h1,b⟩)
theorem aw {α:Type} (l:List α):ah l=(l.length:Int):=rfl
theorem a8 {α:Type} (a b:List α):bM a b=a++b:=rfl
theorem BE (h1: -9223372036854775808<=x*b) (c:x*b<=9223372036854775807):iY .i64 x b=x*b:=dE (zM.2 ⟨h1,c⟩)
theorem lQ (s:By):dS s=(s.length:Int):=rfl
def W8 (k:IntKind):sJ k<(ur k:Int):=by cases k<;>decide
theorem Qn (k:IntKind):Cp k<=0:=by cases k<;>decide
def vt (h:(m:Int)<=sJ k):Cv k (m:Int)=m:=by
 have:=W8 k;show Nat.mod m (ur k)=m
 exact Zdr ω
theorem Dz (h:(m:Int)<=sJ k):k.wrap (m:Int)=m:=dE (cH.2 ⟨by grind [Qn],h⟩)
def JP {n:Nat} (a:(m:Int)<=sJ k) (b:((2 ^ n-1:Nat):Int)<=sJ k):qg k (m:Int) ((2 ^ n-1:Nat):Int)=((m % 2 ^ n:Nat):Int):=by
 unfold qg;rw[vt a,vt b];have e:Nat.land m (2 ^ n-1)=m % 2 ^ n:=Nat.and_two_pow_sub_one_eq_mod m n;rw[e];exact Dz (m:=m % 2 ^ n) ω
def Qo (h0:0<=x) (h1:x<=sJ k):qg k x 63=x % 64:=by
 obtain⟨m,rfl⟩:=Zau h0;exact(JP (n:=6) h1 (by cases k<;>decide)).trans (by simp)
def Qp (h0:0<=x) (h1:x<=sJ k):qg k x 31=x % 32:=by
 obtain⟨m,rfl⟩:=Zau h0;exact(JP (n:=5) h1 (by cases k<;>decide)).trans (by simp)
def Qq (h0:0<=x) (h1:x<=sJ k):qg k x 15=x % 16:=by
 obtain⟨m,rfl⟩:=Zau h0;exact(JP (n:=4) h1 (by cases k<;>decide)).trans (by simp)
def Qar (h0:0<=x) (h1:x<=sJ k):qg k x 7=x % 8:=by
 obtain⟨m,rfl⟩:=Zau h0;exact(JP (n:=3) h1 (by cases k<;>decide)).trans (by simp)
def Qfy {a b n:Nat} (c:b<2 ^ n) (h:((2 ^ n*a+b:Nat):Int)<=sJ k):N0 k ((2 ^ n*a:Nat):Int) (b:Int)=((2 ^ n*a+b:Nat):Int):=by
 unfold N0;rw[vt ω,vt ω];have e:Nat.lor (2 ^ n*a) b=2 ^ n*a+b:=(Nat.two_pow_add_eq_or_of_lt c a).symm;rw[e];exact Dz h
def Qas (a:m<=k.bits) (h0:0<=x) (h1:x*2 ^ m<=sJ k):sI k x (m:Int)=x*2 ^ m:=by
 unfold sI;rw[Zad,Zbj a];exact dE (cH.2 ⟨by have:=Qn k;have:=Int.mul_nonneg h0 (show(0:Int)<=2 ^ m from ZdZ (Int.pow_pos (by decide)));omega,h1⟩)
theorem six (h0:0<=x) (h1:x<33554432) (d:0<=b) (b1:b<64):N0 .i32 (sI .i32 x 6) b=x*64+b:=by
 have e:sI .i32 x ((6:Nat):Int)=x*2 ^ 6:=Qas (by decide) h0 (by show x*2 ^ 6<=2147483647;omega);rw[show(6:Int)=((6:Nat):Int) from rfl,e];obtain⟨m,rfl⟩:=Zau h0;obtain⟨c,rfl⟩:=Zau d;have:=Qfy (k:=.i32) (a:=m) (b:=c) (n:=6) ω (by show _<=(2147483647:Int);omega);grind
def vu (h0:Cp k<=x) (h1:x<=sJ k):vT k x=x:=dE (cH.2 ⟨h0,h1⟩)
attribute [grind=] bG qJ BE aw a8 lQ eN Qaq l7
@[grind=] theorem Qs5 (a b:Int):az a b=decide (a<b):=rfl
@[grind=] theorem Qfz (a b:Int):aI a b=decide (a<=b):=rfl
@[grind=] theorem tZ (a b:Int):aC a b=decide (a=b):=rfl
@[grind=] theorem Qmh (a:Int) (n:Nat):bF a n=decide (a*n<=140737488355328):=rfl
@[grind=] theorem di {α:Type} (d:α) (l:List α) (n:Nat):gt d l n=l.getD n d:=rfl
@[grind=] theorem Qs6 (a b:By):seq a b=decide (a=b):=rfl
@[grind=] theorem fB (p:Prop):Iv p=p:=propext ⟨λh=>h.out,λh=>⟨h⟩⟩
def fK:=And.intro @eN (And.intro @Qaq (And.intro @l7 Zai))
def bh:=And.intro fK (And.intro @fB Zal)
def bN:=And.intro @je (And.intro @mJ (And.intro @gx (And.intro @Qfw (And.intro @eV @mI))))
end sx
namespace syn
open Go Go.RowKit cls
variable {l:List UInt8} {i:Nat}
def DA {G:List Gt} (h:i<G.length):G[i]?=some (G.getD i (0,0)):=getD_eq h _
theorem kS {m:List Rg} (h:cls.Good m):aX m=m:=Dp h λr=>by
 cases a:bj m r
 ·simp
 ·obtain⟨p,b,h1,c⟩:=(rP m r).1 a;have:=h.1 p b;grind [gE,tV]
theorem pR {r:Int} (h:fE r):eg r=[(r,r)]:=by
 have b:=(gE r).1 h;refine kS ⟨λp a=>?_,by simp⟩;grind [tV]
def b9 (c:Nat):Int×Nat×Nat:=
 if c<128 then(0,0,0) else if c<194 then(-1,0,0) else if c<224 then(1,128,191) else if c=224 then(2,160,191) else if c=237 then(2,128,159)
 else if c<240 then(2,128,191) else if c=240 then(3,144,191) else if c<244 then(3,128,191) else if c=244 then(3,128,143) else(-1,0,0)
def dn:Nat->Int->Nat->Nat->List UInt8->Option Int
 | 0,r,_,_,_=>some r
 | _+1,_,_,_,[]=>none
 | k+1,r,lo,hi,b::t=>if b.toNat<lo\/hi<b.toNat then none else dn k (r*64+b.toNat % 64) 128 191 t
def start (k:Int) (c:Nat):Int:=if k=0 then c else if k=1 then(c % 32:Nat) else if k=2 then(c % 16:Nat) else(c % 8:Nat)
def cz:List UInt8->Int×Int
 | []=>(0,0)
 | c::t=>if (b9 c.toNat).1<0 then(0,0) else match dn (b9 c.toNat).1.toNat (start (b9 c.toNat).1 c.toNat) (b9 c.toNat).2.1 (b9 c.toNat).2.2 t with
  | some r=>(r,(b9 c.toNat).1+1)
  | none=>(0,0)
def jl (c:Nat):((b9 c).1= -1\/(b9 c).1=0\/(b9 c).1=1\/(b9 c).1=2\/(b9 c).1=3)/\(b9 c).2.1<256/\(b9 c).2.2<256:=by
 unfold b9
 repeat' split
 all_goals simp
theorem t_ (x:UInt8) (t:List UInt8) {n:Nat} {k:Int} {lo hi:Nat} (b:x.toNat=n) (a:b9 n=(k,lo,hi)):cz (x::t)=if k<0 then(0,0) else match dn k.toNat (start k n) lo hi t with
  | some r=>(r,k+1)
  | none=>(0,0):=by
 grind [cz]
def iL:Nat->List UInt8->List Gt
 | 0,_=>[]
 | n+1,l=>if l=[] then[] else if (cz l).2=0 then(65533,1)::iL n (l.drop 1) else cz l::iL n (l.drop (cz l).2.toNat)
def bf (l:List UInt8):List Gt:=iL l.length l
theorem qK:∀(k:Nat) (r:Int) (lo hi:Nat) (t:List UInt8) (x:Int),dn k r lo hi t=some x->k<=t.length
 | 0,_,_,_,_,_,_=>Zaj _
 | k+1,r,lo,hi,[],x,h=>by cases h
 | k+1,r,lo,hi,b::t,x,h=>by
  rw[dn] at h;split at h
  ·cases h
  ·have:=qK k _ _ _ t x h;simp;omega
theorem kT (l:List UInt8):(cz l).2=0\/∃n:Nat,(cz l).2=n/\1<=n/\n<=l.length/\n<=4:=by
 rcases l with _ | ⟨c,t⟩
 ·exact .inl rfl
 ·have d:=(jl c.toNat).1;obtain⟨m,b⟩:∃m,b9 c.toNat=m:=⟨_,rfl⟩;obtain⟨k,lo,hi⟩:=m;rw[t_ c t rfl b];rw[b] at d;split
  ·omega
  ·cases a:dn k.toNat (start k c.toNat) lo hi t with
   | none=>exact .inl rfl
   | some r=>
    have:=qK _ _ _ _ _ _ a;refine .inr ⟨k.toNat+1,?_,?_,?_,?_⟩
    ·grind
    ·omega
    ·grind
    ·omega
theorem mK (n:Nat):iL n []=[]:=by cases n<;>rfl
theorem mM (h:l≠[]) (h0:(cz l).2=0):iL (i+1) l=(65533,1)::iL i (l.drop 1):=by grind [iL]
theorem oZ (h:l≠[]) {m:Nat} (h0:(cz l).2=m) (a:1<=m):iL (i+1) l=cz l::iL i (l.drop m):=by
 grind [iL]
theorem qL:∀(n k:Nat) (l:List UInt8),l.length<=n->l.length<=k->iL n l=iL k l
 | 0,k,l,h,_=>by
  grind [mK]
 | n+1,0,l,_,h=>by
  grind [mK]
 | n+1,k+1,l,h,b=>by
  by_cases hl:l=[]
  ·grind [mK]
  ·rcases kT l with h0 | ⟨m,a,h1,c,_⟩
   ·rw[mM hl h0,mM hl h0,qL n k _ (by grind) (by grind)]
   ·rw[oZ hl a h1,oZ hl a h1,qL n k _ (by grind) (by grind)]
theorem yE {r lo hi x} (h:dn 1 r lo hi l=some x):∃b:Nat,lo<=b/\b<=hi/\x=r*64+(b % 64:Nat):=by
 cases l with
 | nil=>cases h
 | cons b l=>
  grind [dn]
theorem L_ {r lo hi x} (h:dn 2 r lo hi l=some x):∃b d:Nat,lo<=b/\b<=hi/\128<=d/\d<=191/\x=(r*64+(b % 64:Nat))*64+(d % 64:Nat):=by
 cases l with
 | nil=>cases h
 | cons b l=>
  rw[dn] at h;split at h
  ·cases h
  ·obtain⟨d,h1,a,c⟩:=yE h;exact⟨b.toNat,d,ω,ω,h1,a,by assumption⟩
theorem PW {r lo hi x} (h:dn 3 r lo hi l=some x):∃b d f:Nat,lo<=b/\b<=hi/\128<=d/\d<=191/\128<=f/\f<=191/\x=((r*64+(b % 64:Nat))*64+(d % 64:Nat))*64+(f % 64:Nat):=by
 cases l with
 | nil=>cases h
 | cons b l=>
  rw[dn] at h;split at h
  ·cases h
  ·obtain⟨d,f,h1,a,c,e,g⟩:=L_ h;exact⟨b.toNat,d,f,ω,ω,h1,a,c,e,by assumption⟩
def F6 (n:Nat):(n<128/\b9 n=(0,0,0))\/b9 n=(-1,0,0)\/(194<=n/\n<224/\b9 n=(1,128,191))\/(n=224/\b9 n=(2,160,191))\/(n=237/\b9 n=(2,128,159))\/
  (225<=n/\n<240/\n≠237/\b9 n=(2,128,191))\/(n=240/\b9 n=(3,144,191))\/(241<=n/\n<244/\b9 n=(3,128,191))\/(n=244/\b9 n=(3,128,143)):=by
 unfold b9
 repeat' split
 all_goals simp
 all_goals omega
theorem DB:∀l:List UInt8,(cz l).2≠0->fE (cz l).1
 | [],h=>absurd rfl h
 | c::t,h=>by
  have d:=λ{k:Int} {lo hi:Nat}=>t_ c t (n:=c.toNat) (k:=k) (lo:=lo) (hi:=hi) rfl
  rw[gE];rcases F6 c.toNat with⟨h1,a⟩ | a | ⟨h1,b,a⟩ | ⟨h1,a⟩ | ⟨h1,a⟩ | ⟨h1,b,e,a⟩ | ⟨h1,a⟩ | ⟨h1,b,a⟩ | ⟨h1,a⟩
  all_goals grind [dn,start,yE,L_,PW]
theorem o3:∀(n:Nat) (l:List UInt8),∀g∈iL n l,fE g.1
 | 0,l,g,h=>by cases h
 | n+1,l,g,h=>by
  by_cases hl:l=[]
  ·grind [mK]
  ·rcases kT l with h0 | ⟨m,a,h1,b,c⟩
   ·rw[mM hl h0] at h;rcases Zbf.1 h with rfl | h
    ·decide
    ·exact o3 n _ g h
   ·rw[oZ hl a h1] at h;rcases Zbf.1 h with rfl | h
    ·grind [DB]
    ·exact o3 n _ g h
theorem xa (h:i<(bf l).length):fE (aK (bf l) i):=
 o3 _ _ _ (ZaJ (DA h))
theorem JQ (l:List UInt8) (i:Nat):0<=aK (bf l) i:=by
 grind [gE,xa,aK]
def s3:aX [(9,10),(13,13),(32,32)]=[(9,10),(13,13),(32,32)]:=kS ⟨by simp[tV],by simp⟩
def w4:aX [(48,57),(65,90),(95,95),(97,122)]=[(48,57),(65,90),(95,95),(97,122)]:=kS ⟨by simp[tV],by simp⟩
theorem F7 (l:List UInt8):Fx (bf l) where
 one i h:=pR (xa h)
 n:=pR (by decide)
 t:=pR (by decide)
 r:=pR (by decide)
 d:=kS ⟨by simp[tV],by simp⟩
 s:=by rw[s3];rfl
 w:=by rw[w4];rfl
 s0:=by rw[s3];simp
 w0:=by rw[w4];simp
 not l:=by
  show aX (im 0 (aX (aX l)))=aX (im 0 (aX l))
  rw[kS (dP l).1]
theorem F8 (l:List UInt8):FW (bf l)=wU (bf l):=L' (F7 l)
end syn
set_option maxRecDepth 100000
set_option maxHeartbeats 4000000
namespace sx
noncomputable section
open Go Go.RowKit cls syn
def jL:Nat->Nat->Nat->By->Bool
 | 0,_,_,_=>false
 | _+1,_,_,[]=>true
 | k+1,lo,hi,b::t=>if b.toNat<lo\/hi<b.toNat then false else jL k 128 191 t
def mo (y:By):Int×Nat×Nat:=b9 (y.getD 0 0).toNat
def h_ (y:By):Bool:=decide (y≠[])&&decide (0<=(mo y).1)&&jL (mo y).1.toNat (mo y).2.1 (mo y).2.2 (y.drop 1)
def in1 (args:List (AV D.E)):C Int:=match args with
 | [a]=>aQ (da a) λ_ n=>.ret n
 | _=>.fail
def F9 (args:List (AV D.E)) (s:St D.E):C By:=match args with
 | [a]=>aA (aW D s 0 a) λl=>.ret (l:By)
 | _=>.fail
def F_ (y:Int):Prop:=0<=y/\y<256
abbrev bP (f:FuncId) (Y:Type) (yn:List (AV D.E)->St D.E->C Y) (pre:Y->Prop) (args:Y->List (AV D.E)) (res:Y->AV D.E):bk D:=⟨f,Y,yn,pre,args,λ_=>[],res,λ_=>[],0,0⟩
def zN:bk D:=bP 209 Int (λa _=>in1 a) F_ (λy=>[.int .u8 y]) λy=>.tuple [QtJ (b9 y.toNat).1,.int .u8 ((b9 y.toNat).2.1:Nat),.int .u8 ((b9 y.toNat).2.2:Nat)]
def QfB (_:zN.Y):cU D:=dr ()
def nJ:bk D:=bP 167 By F9 (λ_=>True) (λy=>[.list 0 y]) λy=>.tuple [.int .i32 (cz y).1,QtJ (cz y).2,.bool (h_ y)]
def uz (y:By) (i:Nat):Int:=if i=1 then((mo y).2.1:Nat) else 128
def s7 (y:By) (i:Nat):Int:=if i=1 then((mo y).2.2:Nat) else 191
def uA (y:By):Int:=syn.start (mo y).1 (y.getD 0 0).toNat
def xb (y:By) (i:Nat) (r:Int):Prop:=1<=i/\(i:Int)<=(mo y).1+1/\0<=r/\r<128*64 ^ (i-1)/\dn (mo y).1.toNat (uA y) (mo y).2.1 (mo y).2.2 (y.drop 1)=dn ((mo y).1.toNat+1-i) r (uz y i).toNat (s7 y i).toNat (y.drop i)/\
 jL (mo y).1.toNat (mo y).2.1 (mo y).2.2 (y.drop 1)=jL ((mo y).1.toNat+1-i) (uz y i).toNat (s7 y i).toNat (y.drop i)
def QcK (y:nJ.Y):cU D:=⟨[],[],[(1018,⟨Nat×Int,[0,5],λx=>[(2,.int .i32 x.2),(6,.int .u8 (uz y x.1)),(7,.int .u8 (s7 y x.1)),(8,QtJ x.1)],[],λ_=>[],0,λx=>xb y x.1 x.2,λx=>5-x.1⟩)],
 [(63,⟨Unit,[0,5,6,7],λ_=>[(2,.int .i32 (uA y))],[],λ_=>[],0,λ_=>True,λ_=>0⟩)],1,[]⟩
def Ga:bk D:=bP 113 By F9 (λy=>y.length<=1000000) (λy=>[.list 0 y]) λy=>.list 13 (bf y)
def Qmi (y:Ga.Y):cU D:=⟨[],[],[(28,⟨By×List Gt,[],λx=>[(0,.list 0 x.1),(3,.grow 13 x.2 0)],[],λ_=>[(0,.tok 13 192)],1,λx=>x.2++bf x.1=bf y/\x.1.length+x.2.length<=y.length,λx=>x.1.length⟩)],[],1,[]⟩
structure ow where
 pl:List Int
 us:List Item
def spO (b n m:Nat) (y:ow):List (Nat×AO D.E):=[(b,.cells [.own n 1 (ah y.pl),.own m 2 (ah y.us)] 327 false),(n,.arr 5 y.pl 3 false),(m,.arr 18 y.us 379 false)]
def Qmk (v:AV D.E) (s:St D.E):C ow:=match v with
 | .ptr b _=>aA (cN (s.h.get b)) λo=>match o with
  | .cells cs _ _=>match cs with
   | [p,l]=>aA (aW D s 5 p) λp=>aA (aW D s 18 l) λl=>.ret ⟨p,l⟩
   | _=>.fail
  | _=>.fail
 | _=>.fail
def it0:Item:=⟨0,false⟩
def fe:List Item:=[]
def qM (n:Int):List Int:=List.replicate n.toNat 0
def Gb (y:ow) (i:Int):Bool:=decide (0<=i)&&decide (i<y.pl.length)&&decide (y.pl.getD i.toNat 0<y.us.length)&&decide ((y.us.getD (y.pl.getD i.toNat 0).toNat it0).i=i)
def mN (y:ow) (i:Int):Bool:=decide (0<=i)&&decide (i<y.pl.length)&&!Gb y i
def nK (y:ow) (i:Int) (x:Bool):ow:=if mN y i=true then⟨y.pl.set i.toNat y.us.length,y.us++[⟨i,x⟩]⟩ else y
def W9:bk D:=⟨204,Int,λa _=>match a with
 | [n]=>aQ (da n) λ_ n=>.ret n
 | _=>.fail,λy=>0<=y/\y<=4096,λy=>[QtJ y],λ_=>[],λ_=>.tuple [.ptr 0 0,.num .i64 0],λy=>spO 0 1 2 ⟨qM y,fe⟩,0,3⟩
structure LnY where
 n:Int
 l:Bool
def Qr (y:Int):Prop:=ak (az y 0) (False) (ak (az 4096 y) (False) (aI 0 y/\aI y y/\bF y 8/\ah (mf y (0:Int))=ah (qM y)/\0=ah fe/\[]=fe/\mf y 0=qM y/\True))
def Qmm (y:Int) (a:0<=y/\y<=4096):Qr y:=by
 unfold Qr;simp only[bN,bh,aw,br];exact⟨λh=>ω,λ_=>⟨λh=>ω,λ_=>⟨a.1,ZaQ _,ω,rfl,rfl,rfl,rfl⟩⟩⟩
def QfD:Ok W9:=okZ [] f204 (λ_=>dr ()) trivial Qmm
def Me:bk D:=⟨206,Unit,λ_ _=>.ret (),λ_=>True,λ_=>[],λ_=>[],λ_=>.agg [QtJ (-1),QtJ (-1),QtJ (-1),QtJ (-1),QtJ (-1),QtJ (-1),QtJ (-1),QtJ (-1),QtJ (-1),QtJ (-1)],λ_=>[],0,0⟩
structure ej where
 ae:List aV
 aj:List Int
def og (y:ej):Prop:=y.ae.length<=1000/\y.aj.length<=1000/\∀x∈y.ae,x.bm.length<=1000000
def yp (y:ej):AV D.E:=.agg [.list 8 y.ae,.list 5 y.aj]
def DC (v:AV D.E) (s:St D.E):C ej:=aA (asAgg v) λcs=>match cs with
 | [c,l]=>aA (aW D s 8 c) λc=>aA (aW D s 5 l) λl=>.ret ⟨c,l⟩
 | _=>.fail
def Mf:bk D:=⟨205,ej,λa s=>match a with
 | [p]=>DC p s
 | _=>.fail,og,λy=>[yp y],λ_=>[],yp,λ_=>[],0,0⟩
def QfE (y:Mf.Y):cU D:=⟨[],[],[(58,⟨Nat,[2,11,12],λk=>[(3,.ptr 3 0),(13,QtJ k)],[1],λk=>[(3,.cells [.grow 8 (y.ae.take k) 4,.list 5 y.aj] 88 false),(4,.tok 8 203)],5,λk=>k<=y.ae.length,λk=>y.ae.length-k⟩)],[],1,[]⟩
structure kz where
 p:ej
 aF:Int
 L:List b5
 s:ow
variable {y:By} {i:Nat}
def vmR (b m n:Nat) (y:kz):List (Nat×AO D.E):=(b,.cells [.list 8 y.p.ae,.list 5 y.p.aj,.int .i64 y.aF,.own n 12 (ah y.L),.ptr (b+1) 0] 260 false)::(spO (b+1) (b+2) m y.s++[(n,.arr 2 y.L 106 false)])
def vmO (b:Nat) (y:kz):List (Nat×AO D.E):=vmR b (b+3) (b+4) y
def QfH (v:AV D.E) (s:St D.E):C kz:=match v with
 | .ptr b _=>aA (cN (s.h.get b)) λo=>match o with
  | .cells cs _ _=>match cs with
   | [c,l,n,x,q]=>aA (aW D s 8 c) λc=>aA (aW D s 5 l) λl=>aQ (da n) λ_ n=>aA (aW D s 2 x) λx=>aA (Qmk q s) λq=>.ret ⟨⟨c,l⟩,n,x,q⟩
   | _=>.fail
  | _=>.fail
 | _=>.fail
def QfI (a:List (AV D.E)) (s:St D.E):C kz:=match a with
 | [p]=>QfH p s
 | _=>.fail
def lS:List b5:=[]
def jV (s:Int):b5:=⟨false,-1,-1,-1,-1,-1,-1,-1,-1,-1,-1,[⟨s,-1,-1,-1,-1,-1,-1,-1,-1,-1,-1⟩]⟩
def W_ (y:kz) (k:Nat):kz:={ y with L:=y.L++(y.p.aj.take k).map jV }
def BF:bk D:=⟨202,kz,QfI,λy=>y.p.aj.length+y.L.length<=1000000,λ_=>[.ptr 0 0],vmO 0,λ_=>.tuple [],λy=>vmR 0 3 5 (W_ y y.p.aj.length),5,6⟩
def Qmp (y:BF.Y):cU D:=⟨[],[],[(6,⟨Nat,[0,8,9],λk=>[(10,QtJ k)],[],λk=>vmR 0 3 5 (W_ y k),6,λk=>k<=y.p.aj.length,λk=>y.p.aj.length-k⟩)],[],1,[]⟩
def JR (y:Unit):Prop:=aa ([-1,-1,-1,-1,-1,-1,-1,-1,-1,-1]:List Int) (True)
abbrev RAP {T0:Type} (a:T0) (p:Prop):Prop:=aa [a] p
abbrev RAQ {T0 T1:Type} (a:T0) (b:T1) (p:Prop):Prop:=aa [a] (aa [b] p)
def JS (y:ej):Prop:=let a:=y.ae.length;let q1:=ah y.ae;bF (ah y.aj) 8=true/\(∃z:Nat,RAQ y.ae q1 (0=(z:Int)/\[]=List.take z y.ae/\aa [y.aj] ((Iv (z<=a)))))/\(∀x:Nat,let b:=List.take x y.ae;let c:=gt (aV.mk 0 0 0 []) y.ae (x:Int).toNat;(Iv (x<=a))->ak (az (x:Int) q1) (aI 0 (x:Int)=true/\az (x:Int) q1=true/\bF (ah c.bm) 8=true/\bF (ah (bM b [c])) 48=true/\∃z:Nat,RAQ y.ae q1 (aD .i64 (x:Int) 1=(z:Int)/\bM b [c]=List.take z y.ae/\aa [y.aj] ((Iv (z<=a/\(a-z)<(a-x)))))) (b=y.ae/\RAP y.aj (True)))
abbrev RAR {T0 T1 T2:Type} (a:T0) (b:T1) (c:T2) (p:Prop):Prop:=aa [a] (aa [b] (aa [c] p))
abbrev RAS {T0 T1 T2 T3:Type} (a:T0) (b:T1) (c:T2) (d:T3) (p:Prop):Prop:=aa [a] (aa [b] (aa [c] (aa [d] p)))
abbrev RA2 (v:ej) (p:Prop):Prop:=aa [v.ae] (aa [v.aj] p)
def Qau (y:kz):Prop:=let a:=ah y.p.aj;let q1:=y.p.aj.length;let d:=λp:Prop=>RA2 y.p (RAP y.aF p);let e:=λp:Prop=>RAS (ah y.s.pl) (ah y.s.us) y.s.pl y.s.us p;let u:=λz:Nat=>y.L++List.map jV (List.take z y.p.aj);let A:=λx:Nat=>y.L++List.map jV (List.take x y.p.aj);let B:=y.L++List.map jV (List.take q1 y.p.aj);(∃z:Nat,RAQ y.p.aj a (0=(z:Int)/\d (ah y.L=ah (u z)/\y.L=(u z)/\e ((Iv (z<=q1))))))/\(∀x:Nat,let b:=ah (A x);let c:=bM (A x) [b5.mk false (-1) (-1) (-1) (-1) (-1) (-1) (-1) (-1) (-1) (-1) [bA.mk (gt 0 y.p.aj (x:Int).toNat) (-1) (-1) (-1) (-1) (-1) (-1) (-1) (-1) (-1) (-1)]];(Iv (x<=q1))->ak (az (x:Int) a) (aI 0 (x:Int)=true/\az (x:Int) a=true/\Iv True/\Iv True/\bF (ah c) 112=true/\RAR b b b (∃z:Nat,aa [y.p.aj] (aa [a] (aD .i64 (x:Int) 1=(z:Int)/\d (ah c=ah (u z)/\c=(u z)/\e ((Iv (z<=q1/\(q1-z)<(q1-x))))))))) (d (b=ah B/\(A x)=B/\e (True))))
theorem Qav:Ok Me:=okZ (V:=JR) [] f206 (λ_=>⟨[],[],[],[],11,[]⟩) trivial λy a=>by
 grind [JR]
theorem QfJ (y:ej) (a:og y):JS y:=by
 unfold JS;simp only[bN,bh,aw,br,a8,di,Zad];obtain⟨h1,b,c⟩:y.ae.length<=1000/\y.aj.length<=1000/\∀x∈y.ae,x.bm.length<=1000000:=a;grind [List.take_append_getElem]
def QfK:Ok Mf:=okZ [] f205 QfE trivial QfJ
theorem Qt (L:List b5) {l:List Int} (h:i<l.length):L++(l.take i).map jV++[jV (l.getD i 0)]=L++(l.take (i+1)).map jV:=by
 grind [List.take_append_getElem]
theorem Qaw:Ok BF:=okZ (V:=Qau) [Me] f202 Qmp Qav λy a=>by
 unfold Qau;simp only[bN,bh,aw,br,a8,di,Zad];have h:y.p.aj.length+y.L.length<=1000000:=a;refine⟨⟨0,rfl,by simp,by simp,Zaj _⟩,λx b=>⟨λk=>?_,λk=>?_⟩⟩
 ·have hk:x<y.p.aj.length:=ω;have e:=Qt y.L hk;have hl:(y.L++(y.p.aj.take (x+1)).map jV).length<=1000001:=by
   grind
  refine⟨ω,k,?_,x+1,bG ω ω,ZaR (λl:List b5=>(l.length:Int)) e,e,ω,ω⟩;grind
 ·grind
def Gc (y:Int):Prop:=let c:=(b9 y.toNat).2;let q1:=(b9 y.toNat).1;let a:=(c.2:Int);let b:=(c.1:Int);let d:Prop:=((-1)=q1/\0=b/\0=a/\True);ak (az y 128) (0=q1/\0=b/\0=a/\True) (ak (az y 194) (d) (ak (az y 224) (1=q1/\128=b/\191=a/\True) (ak (aC y 224) (2=q1/\160=b/\191=a/\True) (ak (aC y 237) (2=q1/\128=b/\159=a/\True) (ak (az y 240) (2=q1/\128=b/\191=a/\True) (ak (aC y 240) (3=q1/\144=b/\191=a/\True) (ak (az y 244) (3=q1/\128=b/\191=a/\True) (ak (aC y 244) (3=q1/\128=b/\143=a/\True) (d)))))))))
def BG (y:List UInt8):Prop:=let c:=ah y;let q1:=((gt 0 y 0).toNat:Int);let a:=(b9 q1.toNat).1;let j:=(b9 q1.toNat).2;let g:=(j.2:Int);let h:=(j.1:Int);let e:Prop:=(0=(cz y).1/\0=(cz y).2/\false=h_ y/\True);ak (aC c 0) (e) (Tt 1 (az 0 c/\Iv (F_ q1)/\RAP q1 (ak (az a 0) (e) (Tt 1 (az 0 c/\(ak (az 0 a) (Tt 1 (az 0 c/\aI 0 (vT .u64 a)/\Tt 1 (∃z:Unit,aa [y] (aa [a,h,g] (qg .i32 (vT .i32 q1) (QeN .i32 63 (vT .u64 a))=uA y/\(Iv True)))))) (∃z:Unit,aa [y] (aa [a,h,g] (vT .i32 q1=uA y/\(Iv True)))))/\(∀x:Unit,(Iv True)->(∃z:Nat×Int,aa [y] (aa [a] (uA y=z.2/\h=uz y z.1/\g=s7 y z.1/\1=(z.1:Int)/\(Iv (xb y z.1 z.2)))))/\(∀d:Nat×Int,let b:=(d.1:Int);let i:=((gt 0 y b.toNat).toNat:Int);let k:=az (s7 y d.1) i;let f:=az i (uz y d.1);(Iv (xb y d.1 d.2))->ak (aI b a) (ak (aI c b) (0=(cz y).1/\0=(cz y).2/\true=h_ y/\True) (aI 0 b/\az b c/\ak f (e) (aI 0 b/\az b c/\ak k (e) (Tt 1 (aI 0 b/\az b c/\∃z:Nat×Int,aa [y] (aa [a] (N0 .i32 (sI .i32 d.2 6) (vT .i32 (qg .u8 i 63))=z.2/\128=uz y z.1/\191=s7 y z.1/\aD .i64 b 1=(z.1:Int)/\(Iv (xb y z.1 z.2/\(5-z.1)<(5-d.1)))))))))) (d.2=(cz y).1/\aD .i64 a 1=(cz y).2/\false=h_ y/\True))))))))
def Qv (y:List UInt8):Prop:=let u:=λz:(List UInt8)×(List (Int×Int))=>(z.2++bf z.1)=bf y/\(z.1.length+z.2.length)<=y.length;(∃z:(List UInt8)×(List (Int×Int)),y=z.1/\[]=z.2/\(Iv (u z)))/\(∀x:(List UInt8)×(List (Int×Int)),let a:=(cz x.1).2;let q1:=bM x.2 [(65533,1)];let b:=bM x.2 [((cz x.1).1,a)];(Iv ((x.2++bf x.1)=bf y/\(x.1.length+x.2.length)<=y.length))->ak (az 0 (ah x.1)) (Iv True/\RAP x.1 (ak (aC a 0) (bF (ah q1) 16/\Tt 1 (aI 1 (ah x.1)/\∃z:(List UInt8)×(List (Int×Int)),vU x.1 1=z.1/\q1=z.2/\(Iv ((u z)/\z.1.length<x.1.length)))) (bF (ah b) 16/\aI 0 a/\aI a (ah x.1)/\∃z:(List UInt8)×(List (Int×Int)),vU x.1 a=z.1/\b=z.2/\(Iv ((u z)/\z.1.length<x.1.length))))) (x.2=bf y/\True))
theorem QfL (y:Int) (a:zN.pre y):Gc y:=by
 obtain⟨h1,b⟩:F_ y:=a;obtain⟨n,rfl⟩:=Zau h1;unfold Gc;simp only[bN,fK,Zad];refine⟨λh=>?_,λh=>⟨λh=>?_,λh=>⟨λh=>?_,λh=>⟨λh=>?_,λh=>⟨λh=>?_,λh=>⟨λh=>?_,λh=>⟨λh=>?_,λh=>⟨λh=>?_,λh=>⟨λh=>?_,λh=>?_⟩⟩⟩⟩⟩⟩⟩⟩⟩
 all_goals
  grind [b9]
def QcM:Ok zN:=okZ [] f209 QfB trivial QfL
def mP (y:By) (i:Nat):((y.getD i 0).toNat:Int)<256:=by have:=(y.getD i 0).toNat_lt;omega
theorem pS (h:y≠[]):cz y=if (mo y).1<0 then(0,0) else match dn (mo y).1.toNat (uA y) (mo y).2.1 (mo y).2.2 (y.drop 1) with
  | some r=>(r,(mo y).1+1)
  | none=>(0,0):=by
 cases y with
 | nil=>exact absurd rfl h
 | cons c t=>rfl
theorem QcN {y:By}:0<=uA y/\uA y<256:=by
 have:=mP y 0;grind [uA,syn.start]
theorem QcO (h:0<=(mo y).1):uA y<128:=by
 have:=mP y 0;unfold uA syn.start mo at*
 repeat' split
 all_goals grind [b9]
theorem QcP (y:By) (n:nJ.pre y):BG y:=by
 have m:=(jl (y.getD 0 0).toNat).1;have g:=(jl (y.getD 0 0).toNat).2;have l:b9 (y.getD 0 0).toNat=mo y:=rfl;rw[l] at m g;have B:=mP y 0;unfold BG;simp only[bN,fK,aw,gt,Zad,l];have hl:(y.length:Int)≠0->y≠[]:=λh e=>h (by grind)
 refine⟨λh=>?_,λh=>⟨ω,⟨by grind [F_]⟩,λj=>?_,λj=>⟨ω,⟨λp=>⟨ω,?_,?_⟩,λp=>⟨(),?_,⟨trivial⟩⟩⟩,λ_ _=>⟨⟨(1,uA y),rfl,by rfl,by rfl,rfl,⟨?_⟩⟩,λx A=>?_⟩⟩⟩⟩
 ·obtain rfl:y=[]:=Zap ω;exact⟨rfl,rfl,rfl⟩
 ·grind [pS,h_]
 ·grind [Qfx]
 ·refine⟨(),?_,⟨trivial⟩⟩;rw[vu (k:=.i32) (by show(-2147483648:Int)<=_;omega) (by show _<=(2147483647:Int);omega),Qfx ω ω];unfold uA syn.start;rcases m with e | e | e | e | e
  ·omega
  ·omega
  ·rw[e];exact Qp (k:=.i32) ω (by show _<=(2147483647:Int);omega)
  ·rw[e];exact Qq (k:=.i32) ω (by show _<=(2147483647:Int);omega)
  ·rw[e];exact Qar (k:=.i32) ω (by show _<=(2147483647:Int);omega)
 ·rw[vu (k:=.i32) (by show(-2147483648:Int)<=_;omega) (by show _<=(2147483647:Int);omega)];grind [uA,syn.start]
 ·have:=@QcN y;refine⟨Zah _,ω,this.1,by have:=QcO j;simpa using this,?_,?_⟩
  ·rfl
  ·rfl
 ·obtain⟨i,r⟩:=x;obtain⟨i1,i2,i3,i4,i5,i6⟩:xb y i r:=A.out;have f:=hl h;have b:=pS f;rw[Zaa ω] at b;have hk:i<=4:=ω;have bi:=mP y i;have a:h_ y=jL (mo y).1.toNat (mo y).2.1 (mo y).2.2 (y.drop 1):=by grind [h_]
  simp only at*
  rw[i5] at b;rw[i6] at a;refine⟨λq=>?_,λq=>?_⟩
  ·obtain⟨d,c⟩:∃d,(mo y).1.toNat+1-i=d+1:=⟨(mo y).1.toNat-i,ω⟩;rw[c] at b a;refine⟨λs=>?_,λs=>⟨ω,ω,?_⟩⟩
   ·have e:y.drop i=[]:=Zbu ω;rw[e] at b a;rw[b,a];exact⟨rfl,rfl,rfl⟩
   ·have e:y.drop i=y.getD i 0::y.drop (i+1):=by
     simp_all
    rw[e] at b a;simp only[dn,jL] at b a;have z:0<=uz y i:=by grind [uz]
    have w:0<=s7 y i:=by unfold s7;split<;>omega
    have bad:((y.getD i 0).toNat:Int)<uz y i\/s7 y i<((y.getD i 0).toNat:Int)->cz y=(0,0)/\h_ y=false:=λv=>by
     grind
    refine⟨λt=>?_,λt=>⟨ω,ω,λu=>?_,λu=>⟨ω,ω,?_⟩⟩⟩
    ·grind
    ·grind
    ·rw[Qo (k:=.u8) ω (by show _<=(255:Int);omega),vu (k:=.i32) (by show(-2147483648:Int)<=_;omega) (by show _<=(2147483647:Int);omega)];have v:r<524288:=by
      have hi:i=1\/i=2\/i=3:=ω;grind
     rw[six i3 ω ω ω];refine⟨(i+1,r*64+((y.getD i 0).toNat:Int) % 64),rfl,by simp[uz];omega,by simp[s7];omega,bG ω ω,⟨⟨ω,ω,ω,?_,?_,?_⟩,ω⟩⟩
     ·have hi:i=1\/i=2\/i=3:=ω;grind
     ·rw[i5,c,e];simp only[dn];rw[Zaa ω];have o:uz y (i+1)=128:=by grind [uz]
      have e2:s7 y (i+1)=191:=by unfold s7;rw[Zaa ω]
      grind
     ·rw[i6,c,e];simp only[jL];rw[Zaa ω];have o:uz y (i+1)=128:=by grind [uz]
      have e2:s7 y (i+1)=191:=by unfold s7;rw[Zaa ω]
      grind
  ·rw[show(mo y).1.toNat+1-i=0 by omega] at b a;grind [dn,jL]
def vv:Ok nJ:=okZ [zN] f167 QcK QcM QcP
theorem DD (h:y≠[]) (h0:(cz y).2=0):bf y=(65533,1)::bf (y.drop 1):=by
 have b:=Zbe.2 h;unfold bf;obtain⟨n,a⟩:∃n,y.length=n+1:=⟨y.length-1,ω⟩;grind [mM]
theorem JT (h:y≠[]) (h0:(cz y).2=i) (a:1<=i):bf y=cz y::bf (y.drop i):=by
 have c:=Zbe.2 h;unfold bf;obtain⟨n,b⟩:∃n,y.length=n+1:=⟨y.length-1,ω⟩;grind [oZ,qL]
theorem Qmr (y:By) (b:Ga.pre y):Qv y:=by
 have b:y.length<=1000000:=b;unfold Qv;simp only[bN,fK,aw,a8,br];refine⟨⟨(y,[]),rfl,rfl,⟨rfl,by simp⟩⟩,λx f=>?_⟩;obtain⟨l,out⟩:=x;obtain⟨h1,g⟩:=f.out;simp only at*
 refine⟨λh=>⟨⟨trivial⟩,λc=>?_,λc=>?_⟩,λh=>?_⟩
 ·have a:l≠[]:=λe=>by grind
  refine⟨by grind,ω,(l.drop 1,out++[(65533,1)]),rfl,rfl,⟨⟨?_,by grind⟩,by grind⟩⟩;grind [DD]
 ·have a:l≠[]:=λe=>by grind
  rcases kT l with h0 | ⟨m,d,m1,m2,_⟩
  ·omega
  ·refine⟨by grind,ω,ω,(l.drop m,out++[cz l]),?_,rfl,⟨⟨?_,by grind⟩,by grind⟩⟩
   ·rw[d];rfl
   ·grind [JT]
 ·obtain rfl:l=[]:=Zap ω;grind [bf,iL]
def QfM:Ok Ga:=okZ [nJ] f113 Qmi vv Qmr
def in2 (args:List (AV D.E)):C (Int×Int):=match args with
 | [a,b]=>aQ (da a) λ_ m=>aQ (da b) λ_ n=>.ret (m,n)
 | _=>.fail
def zO:bk D:=bP 239 Int (λa _=>in1 a) F_ (λy=>[.int .u8 y]) λy=>QtJ ((b9 y.toNat).1+1)
def QfN (_:zO.Y):cU D:=dr ()
def Mh (c d:Int):Bool:=if c=224 then decide (160<=d)&&decide (d<=191) else if c=237 then decide (128<=d)&&decide (d<=159) else if c=240 then decide (144<=d)&&decide (d<=191)
 else if c=244 then decide (128<=d)&&decide (d<=143) else decide (128<=d)&&decide (d<=191)
def Mi:bk D:=bP 240 (Int×Int) (λa _=>in2 a) (λ_=>True) (λy=>[.int .u8 y.1,.int .u8 y.2]) λy=>.bool (Mh y.1 y.2)
def Qms (_:Mi.Y):cU D:=dr ()
def qz (y:By):Option Int:=dn (mo y).1.toNat (uA y) (mo y).2.1 (mo y).2.2 (y.drop 1)
def xc (y:By):Bool:=jL (mo y).1.toNat (mo y).2.1 (mo y).2.2 (y.drop 1)
def eY (y:By):Int×Int:=if y=[]\/(mo y).1<0 then(0,0) else if (qz y).isSome then((mo y).1+1,(mo y).1+1) else if xc y then(y.length,(mo y).1+1) else(0,0)
def xd:bk D:=bP 201 By F9 (λ_=>True) (λy=>[.list 0 y]) λy=>.tuple [QtJ (eY y).1,QtJ (eY y).2]
def ub (y:By) (i:Nat):Prop:=1<=i/\(i:Int)<=(mo y).1+1/\i<=y.length/\(∃r,qz y=dn ((mo y).1.toNat+1-i) r (uz y i).toNat (s7 y i).toNat (y.drop i))/\xc y=jL ((mo y).1.toNat+1-i) (uz y i).toNat (s7 y i).toNat (y.drop i)
def QfP (y:xd.Y):cU D:=⟨[],[],[(122,⟨Nat,[0,4],λx=>[(5,QtJ x)],[],λ_=>[],0,λx=>ub y x,λx=>5-x⟩)],[],1,[]⟩
def uB (y:By):Gt:=if (cz y).2=0 then(65533,1) else cz y
def zP:bk D:=bP 182 By F9 (λ_=>True) (λy=>[.list 0 y]) λy=>.agg (dI 13 (uB y))
def QfR (y:zP.Y):cU D:=⟨[],[],[],[(31,⟨Unit,[0,2,4],λ_=>[(5,.int .i32 (uB y).1)],[0],λ_=>[],1,λ_=>True,λ_=>0⟩)],1,[]⟩
def xe:bk D:={ Ga with f:=124 }
def QfT (y:xe.Y):cU D:=⟨[],[],[(28,⟨By×List Gt,[],λx=>[(0,.list 0 x.1),(3,.grow 13 x.2 0)],[],λ_=>[(0,.tok 13 192)],1,λx=>x.2++bf x.1=bf y/\x.1.length+x.2.length<=y.length,λx=>x.1.length⟩)],[],1,[]⟩
def Mj:bk D:=bP 161 By F9 (λ_=>True) (λy=>[.list 0 y]) λy=>.bool (h_ y)
def Qmu (_:Mj.Y):cU D:=dr ()
def Ge (y:Int):Prop:=let a:Prop:=(0=((b9 y.toNat).1+1)/\True);let q1:Prop:=(ak (aI 240 y) (ak (aI y 244) (4=((b9 y.toNat).1+1)/\True) (a)) (a));let b:Prop:=(ak (aI 224 y) (ak (aI y 239) (3=((b9 y.toNat).1+1)/\True) (q1)) (q1));ak (az y 128) (1=((b9 y.toNat).1+1)/\True) (ak (aI 194 y) (ak (aI y 223) (2=((b9 y.toNat).1+1)/\True) (b)) (b))
def Qx (y:Int×Int):Prop:=let a:=Mh y.1 y.2;ak (aC y.1 224) (ak (aI 160 y.2) (aI y.2 191=a/\True) (false=a/\True)) (ak (aC y.1 237) (ak (aI 128 y.2) (aI y.2 159=a/\True) (false=a/\True)) (ak (aC y.1 240) (ak (aI 144 y.2) (aI y.2 191=a/\True) (false=a/\True)) (ak (aC y.1 244) (ak (aI 128 y.2) (aI y.2 143=a/\True) (false=a/\True)) (ak (aI 128 y.2) (aI y.2 191=a/\True) (false=a/\True)))))
def Gf (y:List UInt8):Prop:=let c:=ah y;let q1:=(eY y).1;let f:=((gt 0 y 1).toNat:Int);let b:=((gt 0 y 0).toNat:Int);let l:=az c ((b9 b.toNat).1+1);let m:=aC ((b9 b.toNat).1+1) 0;let k:=λp:Prop=>RAQ y ((b9 b.toNat).1+1) p;let e:Prop:=(0=q1/\0=(eY y).2/\True);let i:Prop:=(((b9 b.toNat).1+1)=(eY y).2/\True);let j:Prop:=(ak l (c=q1/\i) (((b9 b.toNat).1+1)=q1/\i));ak (aC c 0) (e) (Tt 1 (az 0 c/\Iv (F_ b)/\RAP b (ak m (e) (Tt 1 (az 0 c/\Iv (F_ b)/\aa [b] ((∃z:Nat,k (1=(z:Int)/\(Iv (ub y z))))/\(∀x:Nat,let a:=((gt 0 y (x:Int).toNat).toNat:Int);let g:=az (x:Int) ((b9 b.toNat).1+1);let d:Prop:=(∃z:Nat,k (aD .i64 (x:Int) 1=(z:Int)/\(Iv (ub y z/\(5-z)<(5-x)))));let h:Prop:=(aa [a,a] (ak (az 191 a) (e) (d)));(Iv (ub y x))->ak g (ak (az (x:Int) c) (ak (aC (x:Int) 1) (Tt 1 (az 0 c/\Tt 1 (az 1 c/\Iv True/\aa [b,f] (ak (!(Mh b f)) (aa [b,f] (e)) (ak (az 1 (x:Int)) (aI 0 (x:Int)/\az (x:Int) c/\ak (az a 128) (aa [b,f,a] (e)) (aI 0 (x:Int)/\az (x:Int) c/\aa [b,f,a,a] (ak (az 191 a) (e) (d)))) (aa [b,f] (d))))))) (ak (az 1 (x:Int)) (aI 0 (x:Int)/\az (x:Int) c/\ak (az a 128) (aa [a] (e)) (aI 0 (x:Int)/\az (x:Int) c/\h)) (d))) (j)) (j))))))))
def Gg (y:List UInt8):Prop:=let c:=(eY y).2;let q1:=(uB y).1;let j:=aC (eY y).1 0;let k:=az (eY y).1 c;let h:=((gt 0 y 3).toNat:Int);let f:=((gt 0 y 2).toNat:Int);let b:=((gt 0 y 0).toNat:Int);let e:=((gt 0 y 1).toNat:Int);let i:=vT .i32 (qg .u8 f 63);let g:=vT .i32 (qg .u8 e 63);let a:=λp:Prop=>RAQ y c p;let d:Prop:=(65533=q1/\1=(uB y).2/\True);Iv True/\RAP y (ak j (d) (ak k (d) (Tt 1 (az 0 (ah y)/\(ak (aC c 2) (Tt 1 (az 0 (ah y)/\Tt 2 (az 1 (ah y)/\aa [b,e] (∃z:Unit,a (N0 .i32 (sI .i32 (vT .i32 (qg .u8 b 31)) 6) g=q1/\(Iv True)))))) (ak (aC c 3) (Tt 1 (az 0 (ah y)/\Tt 2 (az 1 (ah y)/\Tt 2 (az 2 (ah y)/\aa [b,e,f] (∃z:Unit,a (N0 .i32 (N0 .i32 (sI .i32 (vT .i32 (qg .u8 b 15)) 12) (sI .i32 g 6)) i=q1/\(Iv True))))))) (ak (aC c 4) (Tt 1 (az 0 (ah y)/\Tt 2 (az 1 (ah y)/\Tt 2 (az 2 (ah y)/\Tt 2 (az 3 (ah y)/\aa [b,e,f,h] (∃z:Unit,a (N0 .i32 (N0 .i32 (N0 .i32 (sI .i32 (vT .i32 (qg .u8 b 7)) 18) (sI .i32 g 12)) (sI .i32 i 6)) (vT .i32 (qg .u8 h 63))=q1/\(Iv True)))))))) (∃z:Unit,a (vT .i32 b=q1/\(Iv True))))))/\(∀x:Unit,(Iv True)->aa [q1] (c=(uB y).2/\True))))))
def Gh (y:List UInt8):Prop:=(∃z:(List UInt8)×(List (Int×Int)),y=z.1/\[]=z.2/\(Iv ((z.2++bf z.1)=bf y/\(z.1.length+z.2.length)<=y.length)))/\(∀x:(List UInt8)×(List (Int×Int)),let a:=(uB x.1).2;let q1:=bM x.2 [((uB x.1).1,a)];(Iv ((x.2++bf x.1)=bf y/\(x.1.length+x.2.length)<=y.length))->ak (az 0 (ah x.1)) (Iv True/\RAP x.1 (bF (ah q1) 16/\aI 0 a/\aI a (ah x.1)/\∃z:(List UInt8)×(List (Int×Int)),vU x.1 a=z.1/\q1=z.2/\(Iv (((z.2++bf z.1)=bf y/\(z.1.length+z.2.length)<=y.length)/\z.1.length<x.1.length)))) (x.2=bf y/\True))
def QB (y:List UInt8):Prop:=let a:=(eY y).1;let q1:=az a (eY y).2;Iv True/\RAP y (ak (az 0 a) (ak q1 (aC a (ah y)=h_ y/\True) (false=h_ y/\True)) (false=h_ y/\True))
theorem QfV (y:Int) (a:zO.pre y):Ge y:=by
 grind [b9,Ge]
def QcQ:Ok zO:=okZ [] f239 QfN trivial QfV
theorem Qmw (y:Int×Int) (a:Mi.pre y):Qx y:=by
 grind [Qx,Mh]
def QfW:Ok Mi:=okZ [] f240 Qms trivial Qmw
theorem QC (h:1<=(mo y).1) (d:Int):Mh ((y.getD 0 0).toNat:Int) d=(decide (((mo y).2.1:Int)<=d)&&decide (d<=((mo y).2.2:Int))):=by
 unfold mo at*
 generalize (y.getD 0 0).toNat=n at*
 have a:((n=224/\b9 n=(2,160,191))\/(n=237/\b9 n=(2,128,159))\/(n=240/\b9 n=(3,144,191))\/(n=244/\b9 n=(3,128,143))\/(n≠224/\n≠237/\n≠240/\n≠244/\(b9 n).2=(128,191))):=by
  unfold b9 at h ⊢
  repeat' split at h
  all_goals grind
 grind [Mh]
theorem zQ (h:ub y i) (h1:(i:Int)<(mo y).1+1) (g:i<y.length):
  (((y.getD i 0).toNat:Int)<uz y i\/s7 y i<((y.getD i 0).toNat:Int)->eY y=(0,0))/\(¬(((y.getD i 0).toNat:Int)<uz y i\/s7 y i<((y.getD i 0).toNat:Int))->ub y (i+1)):=by
 have⟨i1,i2,i3,⟨r,i4⟩,i5⟩:=h;obtain⟨d,b⟩:∃d,(mo y).1.toNat+1-i=d+1:=⟨(mo y).1.toNat-i,ω⟩;have e:y.drop i=y.getD i 0::y.drop (i+1):=by
  simp_all
 have c:0<=s7 y i:=by unfold s7;split<;>omega
 have f:uz y (i+1)=128:=by grind [uz]
 have e2:s7 y (i+1)=191:=by unfold s7;rw[Zaa ω]
 rw[b,e] at i4 i5;simp only[dn,jL] at i4 i5;refine⟨λa=>?_,λa=>⟨ω,ω,ω,⟨r*64+(y.getD i 0).toNat % 64,?_⟩,?_⟩⟩
 ·grind [eY]
 all_goals grind
theorem QE (a:y≠[]) (h0:0<=(mo y).1) (h:ub y i) (h1:(mo y).1+1<=i\/y.length<=i):eY y=(min (y.length:Int) ((mo y).1+1),(mo y).1+1):=by
 have⟨i1,i2,i3,⟨r,i4⟩,i5⟩:=h;unfold eY;rw[Zaa (λh=>h.elim a ω)];by_cases hk:(mo y).1+1<=i
 ·rw[show(mo y).1.toNat+1-i=0 by omega] at i4;rw[i4];show(if (true:Bool)=true then _ else _)=_
  grind
 ·obtain⟨d,b⟩:∃d,(mo y).1.toNat+1-i=d+1:=⟨(mo y).1.toNat-i,ω⟩;rw[b,Zbu ω] at i4 i5;rw[i4,i5,show min (y.length:Int) ((mo y).1+1)=y.length by omega];rfl
theorem QfX (y:By) (m:xd.pre y):Gf y:=by
 have t:=(jl (y.getD 0 0).toNat).1;have l:b9 (y.getD 0 0).toNat=mo y:=rfl;rw[l] at t;have w:=mP y 0;have hl:(y.length:Int)≠0->y≠[]:=λh e=>h (by grind)
 unfold Gf;simp only[bN,fK,aw,gt,Zad,l,Zan,Zao];refine⟨λh=>?_,λh=>⟨ω,⟨by grind [F_]⟩,λo=>?_,λo=>⟨ω,⟨by grind [F_]⟩,⟨1,rfl,?_⟩,λi hi=>?_⟩⟩⟩
 ·obtain rfl:y=[]:=Zap ω;exact⟨rfl,rfl⟩
 ·grind [eY]
 ·exact⟨Zah _,ω,ω,⟨uA y,by rfl⟩,by rfl⟩
 ·have hi:=hi.out;have j:=hl h;have r:=hi.1;have s:=hi.2.1;have step:(i:Int)<(mo y).1+1->(i:Int)<y.length->¬(((y.getD i 0).toNat:Int)<uz y i\/s7 y i<((y.getD i 0).toNat:Int))->∃z:Nat,aD .i64 (i:Int) 1=(z:Int)/\Iv (ub y z/\5-z<5-i):=λa b c=>
   ⟨i+1,bG ω ω,(zQ hi a ω).2 c,ω⟩
  have stop:(i:Int)<(mo y).1+1->(i:Int)<y.length->(((y.getD i 0).toNat:Int)<uz y i\/s7 y i<((y.getD i 0).toNat:Int))->(0:Int)=(eY y).1/\(0:Int)=(eY y).2:=λa b c=>by
   rw[(zQ hi a ω).1 c];exact⟨rfl,rfl⟩
  have en:(mo y).1+1<=i\/(y.length:Int)<=i->eY y=(min (y.length:Int) ((mo y).1+1),(mo y).1+1):=λa=>QE j ω hi ω
  have u:i=1->uz y i=(mo y).2.1/\s7 y i=(mo y).2.2:=λe=>by subst e;exact⟨rfl,rfl⟩
  have v:i≠1->uz y i=128/\s7 y i=191:=λe=>by unfold uz s7;rw[Zaa e,Zaa e];exact⟨rfl,rfl⟩
  have fin:(mo y).1+1<=i\/(y.length:Int)<=i->(((y.length:Int)<(mo y).1+1->(y.length:Int)=(eY y).1/\(mo y).1+1=(eY y).2)/\((mo y).1+1<=(y.length:Int)->(mo y).1+1=(eY y).1/\(mo y).1+1=(eY y).2)):=λa=>by
   rw[en a];exact⟨λb=>⟨ω,rfl⟩,λb=>⟨ω,rfl⟩⟩
  refine⟨λd=>⟨λf=>⟨λp=>⟨ω,ω,⟨trivial⟩,?_⟩,λp=>?_⟩,λf=>fin (.inr f)⟩,λd=>fin (.inl d)⟩
  ·obtain rfl:i=1:=ω;rw[QC ω];have⟨n,e2⟩:=u rfl;have st:=stop d f;have sp:=step d f;simp only[Zbz,ZaW,ZaP,Zbi];refine⟨λg=>st ω,λg=>⟨λk=>ω,λ_=>sp ω⟩⟩
  ·have⟨n,e2⟩:=v ω;have st:=stop d f;have sp:=step d f;refine⟨λg=>⟨ω,ω,λk=>st ω,λk=>⟨ω,ω,λq=>st ω,λq=>sp ω⟩⟩,λg=>ω⟩
def QH:Ok xd:=okZ [zO,Mi] f201 QfP ⟨QcQ,QfW⟩ QfX
theorem Ml (h:xc y):qz y=none:=by
 have key:∀(k lo hi:Nat) (r:Int) (t:By),jL k lo hi t->dn k r lo hi t=none:=λk=>by
  induction k with
  | zero=>intro lo hi r t h;cases h
  | succ k a=>
   intro lo hi r t h;cases t with
   | nil=>rfl
   | cons b t=>
    grind [jL,dn]
 exact key _ _ _ _ _ h
theorem QI (h:xc y):y.length<(mo y).1+1:=by
 have key:∀(k lo hi:Nat) (t:By),jL k lo hi t->t.length<k:=λk=>by
  induction k with
  | zero=>intro lo hi t h;cases h
  | succ k a=>
   intro lo hi t h;cases t with
   | nil=>simp
   | cons b t=>
    grind [jL]
 have:=key _ _ _ _ h;grind
theorem Mm (a:y≠[]) (h0:0<=(mo y).1) (h:(qz y).isSome):(mo y).1+1<=y.length:=by
 cases e:qz y with
 | none=>rw[e] at h;cases h
 | some r=>
  have:=qK _ _ _ _ _ _ e;grind [List.length_pos_iff]
theorem xf (y:By):(eY y=(0,0)/\h_ y=false/\(cz y).2=0)\/(∃k:Int,y≠[]/\eY y=((y.length:Int),k)/\(y.length:Int)<k/\h_ y/\(cz y).2=0)\/
  (∃r,y≠[]/\0<=(mo y).1/\qz y=some r/\(mo y).1+1<=y.length/\eY y=((mo y).1+1,(mo y).1+1)/\h_ y=false/\cz y=(r,(mo y).1+1)):=by
 by_cases a:y=[]
 ·subst a;exact .inl ⟨rfl,rfl,rfl⟩
 by_cases h0:(mo y).1<0
 ·grind [eY,h_,pS]
 have b:=pS a;rw[Zaa h0] at b;have c:h_ y=xc y:=by unfold h_;rw[ZaK a,ZaK (p:=0<=(mo y).1) ω];rfl
 have ht:eY y=if (qz y).isSome then((mo y).1+1,(mo y).1+1) else if xc y then((y.length:Int),(mo y).1+1) else(0,0):=by
  grind [eY]
 have b:cz y=match qz y with
  | some r=>(r,(mo y).1+1)
  | none=>(0,0):=b
 cases hs:xc y with
 | true=>
  grind [Ml,QI]
 | false=>
  rw[hs] at c ht;cases d:qz y with
  | none=>rw[d] at b ht;exact .inl ⟨ht,c,by rw[b]⟩
  | some r=>rw[d] at b ht;exact .inr (.inr ⟨r,a,ω,rfl,Mm a ω (by grind),ht,c,b⟩)
theorem Qmx (y:By) (a:Mj.pre y):QB y:=by
 unfold QB;grind [xf,List.length_pos_iff]
def QfY:Ok Mj:=okZ [xd] f161 Qmu QH Qmx
theorem DE {x:Int} (h0:0<=x) (h1:x<2147483648):vT .i32 x=x:=vu (by show(-2147483648:Int)<=_;omega) (by show _<=(2147483647:Int);omega)
def b63 (n:UInt8):vT .i32 (qg .u8 (n.toNat:Int) 63)=(n.toNat:Int) % 64:=by
 have:=n.toNat_lt;rw[Qo (k:=.u8) ω (by show _<=(255:Int);omega),DE ω ω]
def lay {a b n:Nat} (c:b<2 ^ n) (h:2 ^ n*a+b<2147483648):N0 .i32 ((2 ^ n*a:Nat):Int) (b:Int)=((2 ^ n*a+b:Nat):Int):=Qfy c (by show _<=(2147483647:Int);omega)
theorem DF {a n:Nat} (b:n<=32) (h:2 ^ n*a<2147483648):sI .i32 (a:Int) ((n:Nat):Int)=((2 ^ n*a:Nat):Int):=by
 rw[Qas (k:=.i32) b ω (by show _<=(2147483647:Int);have:((a:Int)*2 ^ n)=((2 ^ n*a:Nat):Int):=(by grind);omega)];grind
theorem QfZ (y:By) (m:zP.pre y):Gg y:=by
 unfold Gg;simp only[bN,fK,aw,gt,b63];unfold uB;rcases xf y with⟨j,e2,l⟩ | ⟨k,h0,j,h1,e2,l⟩ | ⟨r,h0,h1,c,B,j,e2,l⟩
 ·grind
 ·grind
 ·rw[j,Zaa (by grind),l];have t:=(jl (y.getD 0 0).toNat).1;have s:b9 (y.getD 0 0).toNat=mo y:=rfl;rw[s] at t;have A:=(y.getD 0 0).toNat_lt;have cell:∀i:Nat,i<y.length->y.drop i=y.getD i 0::y.drop (i+1):=λi hi=>by
   simp_all
  unfold qz at c;refine⟨⟨trivial⟩,λh=>absurd h ω,λ_=>⟨λh=>absurd h ω,λ_=>⟨ω,⟨λo=>⟨ω,ω,(),?_,⟨trivial⟩⟩,λo=>⟨λp=>⟨ω,ω,ω,(),?_,⟨trivial⟩⟩,λp=>⟨λq=>⟨ω,ω,ω,ω,(),?_,⟨trivial⟩⟩,λq=>⟨(),?_,⟨trivial⟩⟩⟩⟩⟩,λ_ _=>rfl⟩⟩⟩
  ·have hk:(mo y).1=1:=ω;have e:uA y=((y.getD 0 0).toNat:Int) % 32:=by unfold uA syn.start;rw[hk];rfl
   rw[hk,cell 1 ω] at c;simp only[show Int.toNat 1=1 from rfl,show Int.toNat 2=2 from rfl,show Int.toNat 3=3 from rfl,dn,e] at c;split at c
   ·cases c
   ·rw[Qp (k:=.u8) ω (by show _<=(255:Int);omega),DE ω ω,six ω ω ω ω];grind
  ·have hk:(mo y).1=2:=ω;have e:uA y=((y.getD 0 0).toNat:Int) % 16:=by unfold uA syn.start;rw[hk];rfl
   rw[hk,cell 1 ω,cell 2 ω] at c;simp only[show Int.toNat 1=1 from rfl,show Int.toNat 2=2 from rfl,show Int.toNat 3=3 from rfl,dn,e] at c;split at c
   ·cases c
   split at c
   ·cases c
   rw[<-ZbN c,Qq (k:=.u8) ω (by show _<=(255:Int);omega),DE ω ω];generalize (y.getD 0 0).toNat=d at*
   generalize (y.getD 1 0).toNat=f at*
   generalize (y.getD 2 0).toNat=g at*
   have x:=DF (a:=d % 16) (n:=12) ω ω;have z:=DF (a:=f % 64) (n:=6) ω ω;have u:=lay (a:=d % 16) (b:=2 ^ 6*(f % 64)) (n:=12) ω ω;have v:=lay (a:=d % 16*64+f % 64) (b:=g % 64) (n:=6) ω ω;grind
  ·have hk:(mo y).1=3:=ω;have e:uA y=((y.getD 0 0).toNat:Int) % 8:=by unfold uA syn.start;rw[hk];rfl
   rw[hk,cell 1 ω,cell 2 ω,cell 3 ω] at c;simp only[show Int.toNat 1=1 from rfl,show Int.toNat 2=2 from rfl,show Int.toNat 3=3 from rfl,dn,e] at c;split at c
   ·cases c
   split at c
   ·cases c
   split at c
   ·cases c
   rw[<-ZbN c,Qar (k:=.u8) ω (by show _<=(255:Int);omega),DE ω ω];generalize (y.getD 0 0).toNat=d at*
   generalize (y.getD 1 0).toNat=f at*
   generalize (y.getD 2 0).toNat=g at*
   generalize (y.getD 3 0).toNat=w at*
   have x:=DF (a:=d % 8) (n:=18) ω ω;have z:=DF (a:=f % 64) (n:=12) ω ω;have s3:=DF (a:=g % 64) (n:=6) ω ω;have u:=lay (a:=d % 8) (b:=2 ^ 12*(f % 64)) (n:=18) ω ω;have v:=lay (a:=d % 8*64+f % 64) (b:=2 ^ 6*(g % 64)) (n:=12) ω ω;have C:=lay (a:=(d % 8*64+f % 64)*64+g % 64) (b:=w % 64) (n:=6) ω ω;grind
  ·have hk:(mo y).1=0:=ω;rw[hk] at c;have e:uA y=((y.getD 0 0).toNat:Int):=by grind [uA,syn.start]
   have c:some (uA y)=some r:=c;grind [DE]
def QcR:Ok zP:=okZ [xd] f182 QfR QH QfZ
theorem Xg (h:y≠[]):∃m:Nat,(uB y).2=m/\1<=m/\m<=y.length/\bf y=uB y::bf (y.drop m):=by
 grind [uB,kT,DD,JT]
theorem Qf0 (y:By) (b:xe.pre y):Gh y:=by
 have b:y.length<=1000000:=b;unfold Gh;simp only[bN,fK,aw,a8,br];refine⟨⟨(y,[]),rfl,rfl,rfl,by simp⟩,λx d=>?_⟩;have⟨l,out⟩:=x;simp only at*
 refine⟨λh=>?_,λh=>?_⟩
 ·have a:l≠[]:=λe=>by grind
  have⟨m,c,m1,m2,e⟩:=Xg a;refine⟨⟨trivial⟩,by grind,ω,ω,(l.drop m,out++[uB l]),?_,rfl,⟨?_,by grind⟩,by grind⟩
  ·rw[c];rfl
  ·grind
 ·obtain rfl:l=[]:=Zap ω;grind [bf,iL]
def QcS:Ok xe:=okZ [zP] f124 QfT QcR Qf0
def BH (args:List (AV D.E)) (s:St D.E):C (List Rg):=match args with
 | [a]=>aA (aW D s 6 a) λl=>.ret (l:List Rg)
 | _=>.fail
def Qf1 (args:List (AV D.E)) (s:St D.E):C (List Rg×Int):=match args with
 | [a,b]=>aA (aW D s 6 a) λl=>aQ (da b) λ_ n=>.ret ((l:List Rg),n)
 | _=>.fail
def QcT (args:List (AV D.E)) (s:St D.E):C (List Rg×List Rg):=match args with
 | [a,b]=>aA (aW D s 6 a) λl=>aA (aW D s 6 b) λm=>.ret ((l:List Rg),(m:List Rg))
 | _=>.fail
def cK:bk D:=bP 250 (List Rg) BH (λy=>y.length<=100000000) (λy=>[.list 6 y]) λy=>.list 6 (aX y)
def at_ (l:List Rg) (i:Nat):Rg:=l.getD i (0,0)
def Gi:bk D:=bP 293 (List Rg) BH (λy=>y.length<=1000000) (λy=>[.list 6 y]) λy=>.list 6 (lE y)
def Qmy (y:Gi.Y):cU D:=⟨[],[],[(122,⟨Nat×List Rg×Int,[8,9],λx=>[(3,.grow 6 x.2.1 0),(4,.int .i32 x.2.2),(10,QtJ x.1)],[],λ_=>[(0,.tok 6 350)],1,λx=>x.2.1++im x.2.2 ((aX y).drop x.1)=im 0 (aX y)/\x.1<=(aX y).length/\x.2.1.length=x.1,λx=>(aX y).length-x.1⟩)],[],1,[]⟩
def DG:bk D:=bP 272 (List Rg×List Rg) QcT (λ_=>True) (λy=>[.list 6 y.1,.list 6 y.2]) λy=>.bool (decide (y.1=y.2))
def QmA (y:DG.Y):cU D:=⟨[(0,.fact 0)],[],[(58,⟨Nat,[0,1,12],λx=>[(13,QtJ x)],[],λ_=>[],0,λx=>x<=y.1.length/\y.1.take x=y.2.take x,λx=>y.1.length-x⟩)],[],1,[]⟩
def DH:bk D:=bP 248 (List Rg) BH (λy=>y.length<=100000000) (λy=>[.list 6 y]) λy=>.bool (decide (y=aX y))
def QmC (_:DH.Y):cU D:=dr ()
def Qf2:bk D:=bP 289 (List Rg×Int) Qf1 (λ_=>True) (λy=>[.list 6 y.1,.int .i32 y.2]) λy=>.bool (bj y.1 y.2)
def xg:bk D:={ Qf2 with f:=286 }
def Qf3 (y:xg.Y):cU D:=⟨[(0,.fact 0)],[],[(26,⟨Nat,[0,1],λx=>[(5,QtJ x)],[],λ_=>[],0,λx=>x<=y.1.length/\bj y.1 y.2=bj (y.1.drop x) y.2,λx=>y.1.length-x⟩)],[],1,[]⟩
def JU (m:List Int):List Int:=m.mergeSort λa b=>decide (a<=b)
def bn (l:List Rg):List Int:=JU (cZ l)
def gW:bk D:=bP 285 (List Rg) BH (λy=>y.length<=2000000) (λy=>[.list 6 y]) λy=>.list 14 (bn y)
def arI (b:Nat) (m:List Int):List (Nat×AO D.E):=[(b,.arr 14 m 21 false)]
def dJ (l:List Rg) (i:Nat):List Int:=[0,55296,57344,1114112]++(l.take i).flatMap lN
def Qf5 (y:gW.Y):cU D:=⟨[],[1],[(58,⟨Nat,[0],λi=>[(3,.own 0 1 (ah (dJ y i))),(4,QtJ i)],[],λi=>arI 0 (dJ y i),1,λi=>i<=y.length,λi=>y.length-i⟩),
 (122,⟨Nat×List Int,[],λx=>[(3,.own 0 1 (ah x.2)),(5,QtJ x.1)],[],λx=>arI 0 x.2,1,λx=>1<=x.1/\x.1<=x.2.length/\x.2.Perm (cZ y)/\Dj x.2 x.1,λx=>(cZ y).length-x.1⟩)],
 [],1,[(7826,⟨Nat×List Int,λx=>⟨Nat×List Int,[5],λz=>[(3,.own 0 1 (ah z.2)),(6,QtJ z.1)],[],λz=>arI 0 z.2,1,λz=>z.1<=x.1/\x.1<z.2.length/\z.2.Perm (cZ y)/\oX z.2 z.1 x.1,λz=>z.1⟩,none⟩)]⟩
def arR (b:Nat) (m:List Rg):List (Nat×AO D.E):=[(b,.arr 6 m 350 false)]
def Xh (l:List Rg):Prop:=l.length<=100000000/\∀r∈l,-10<=r.2/\r.2<=1114111
def Gj:bk D where
 f:=287
 Y:=List Rg×Int×Int
 yn:=λargs s=>match args with
  | [a,b,c]=>aA (aW D s 6 a) λl=>aQ (da b) λ_ m=>aQ (da c) λ_ n=>.ret ((l:List Rg),m,n)
  | _=>.fail
 pre:=λy=>Xh y.1
 args:=λy=>[.own 0 2 (ah y.1),.int .i32 y.2.1,.int .i32 y.2.2]
 heap:=λy=>arR 0 y.1
 res:=λy=>.own 1 2 (ah (cq y.1 y.2.1 y.2.2))
 iE:=λy=>arR 1 (cq y.1 y.2.1 y.2.2)
 oD:=1
 Cq:=2
def QmG (_:Gj.Y):cU D:=dr ()
def Qf7 (y:List Rg) (c:Int->Bool):List (Nat×iF D):=[(122,⟨Nat,[0,3],λi=>[(4,.own 0 2 (ah (dA c (bn y) i))),(5,.int .i64 i)],[],λi=>arR 0 (dA c (bn y) i),1,λi=>i+1<=(bn y).length,λi=>(bn y).length-i⟩)]
def lT:bk D:=bP 257 (List Rg) BH (λy=>y.length<=2000000) (λy=>[.list 6 y]) λy=>.list 6 (aX y)
def Qf8 (y:lT.Y):cU D:=⟨[],[],Qf7 y (bj y),[],1,[]⟩
def o4:bk D:=bP 280 (List Rg) BH (λy=>y.length<=2000000) (λy=>[.list 6 y]) λy=>.list 6 (lE y)
def Qga (y:o4.Y):cU D:=⟨[],[],Qf7 y (λr=>!bj y r),[],1,[]⟩
def xh:bk D:={ DH with f:=256,pre:=λy=>y.length<=2000000 }
def Qgc (y:xh.Y):cU D:=⟨[],[],[(122,⟨Nat,[0,3],λi=>[(4,QtJ i)],[],λ_=>[],0,λi=>i<=y.length/\(aX y).take i=y.take i,λi=>y.length-i⟩)],[],1,[]⟩
def QJ (y:List (Int×Int)):Prop:=let a:=aX y;Iv (y.length<=100000000)/\aa [y] ((∃z:Nat×(List (Int×Int))×Int,aa [a] (aa [ah a] ([]=z.2.1/\0=z.2.2/\0=(z.1:Int)/\(Iv ((z.2.1++im z.2.2 (List.drop z.1 a))=im 0 a/\z.1<=a.length/\z.2.1.length=z.1)))))/\(∀x:Nat×(List (Int×Int))×Int,let q1:=a.length;let b:=(x.1:Int);let d:=gt (0,0) a b.toNat;let c:=bM x.2.1 [(x.2.2,1114111)];let e:=bM x.2.1 [(x.2.2,cQ .i32 d.1 1)];(Iv ((x.2.1++im x.2.2 (List.drop x.1 a))=im 0 a/\x.1<=q1/\x.2.1.length=x.1))->ak (az b (ah a)) (aI 0 b/\az b (ah a)/\bF (ah e) 8/\∃z:Nat×(List (Int×Int))×Int,aa [a] (aa [ah a] (e=z.2.1/\aD .i32 d.2 1=z.2.2/\aD .i64 b 1=(z.1:Int)/\(Iv (((z.2.1++im z.2.2 (List.drop z.1 a))=im 0 a/\z.1<=q1/\z.2.1.length=z.1)/\(q1-z.1)<(q1-x.1)))))) (bF (ah c) 8/\Iv (c.length<=100000000)/\aa [c] (aX c=lE y/\True))))
def QK (y:(List (Int×Int))×(List (Int×Int))):Prop:=let a:=ah y.1;let q1:=y.1.length;let e:=!(aC a (ah y.2));let d:=decide (y.1=y.2);(aI a 9223372036854775807)->ak e (false=d/\True) ((∃z:Nat,aa [y.1,y.2] (aa [a] (0=(z:Int)/\(Iv (z<=q1/\List.take z y.1=List.take z y.2)))))/\(∀x:Nat,let b:=gt (0,0) y.1 (x:Int).toNat;let c:=gt (0,0) y.2 (x:Int).toNat;let f:=!((aC b.1 c.1)&&(aC b.2 c.2));(Iv (x<=q1/\List.take x y.1=List.take x y.2))->ak (az (x:Int) a) (aI 0 (x:Int)/\az (x:Int) a/\aI 0 (x:Int)/\az (x:Int) (ah y.2)/\aa [b.1,b.2,c.1,c.2] (ak f (false=d/\True) (∃z:Nat,aa [y.1,y.2] (aa [a] (aD .i64 (x:Int) 1=(z:Int)/\(Iv ((z<=q1/\List.take z y.1=List.take z y.2)/\(q1-z)<(q1-x)))))))) (true=d/\True)))
def QM (y:List (Int×Int)):Prop:=let a:=decide (y=aX y);Iv (y.length<=100000000)/\aa [y] (Iv True/\aa [y] (aa [aX y] (aa [a] (True))))
def QN (y:(List (Int×Int))×Int):Prop:=let a:=y.1.length;let q1:=ah y.1;let b:=bj y.1 y.2;let e:=λp:Prop=>aa [y.2] (aa [y.1] (aa [q1] p));(aI q1 9223372036854775807)->(∃z:Nat,e (0=(z:Int)/\(Iv (z<=a/\b=bj (List.drop z y.1) y.2))))/\(∀x:Nat,let c:=gt (0,0) y.1 (x:Int).toNat;let d:Prop:=(∃z:Nat,e (aD .i64 (x:Int) 1=(z:Int)/\(Iv ((z<=a/\b=bj (List.drop z y.1) y.2)/\(a-z)<(a-x)))));(Iv (x<=a/\b=bj (List.drop x y.1) y.2))->ak (az (x:Int) q1) (aI 0 (x:Int)/\az (x:Int) q1/\ak (aI c.1 y.2) (ak (aI y.2 c.2) (true=b/\True) (d)) (d)) (false=b/\True))
def Gk (y:(List (Int×Int))×Int):Prop:=let a:=y.1.length;let q1:=ah y.1;let b:=bj y.1 y.2;let e:=λp:Prop=>aa [y.1] (aa [y.2] p);(aI q1 9223372036854775807)->(∃z:Nat,e (0=(z:Int)/\(Iv (z<=a/\b=bj (List.drop z y.1) y.2))))/\(∀x:Nat,let c:=gt (0,0) y.1 (x:Int).toNat;let d:Prop:=(∃z:Nat,e (aD .i64 (x:Int) 1=(z:Int)/\(Iv ((z<=a/\b=bj (List.drop z y.1) y.2)/\(a-z)<(a-x)))));(Iv (x<=a/\b=bj (List.drop x y.1) y.2))->ak (az (x:Int) q1) (aI 0 (x:Int)/\az (x:Int) q1/\ak (aI c.1 y.2) (aI 0 (x:Int)/\az (x:Int) q1/\ak (aI y.2 c.2) (true=b/\True) (d)) (d)) (false=b/\True))
def Gl (y:List (Int×Int)):Prop:=let v:=(cZ y).length;let q1:=y.length;let f:=ah y;let s:=λp:Prop=>aa [y] p;(∃z:Nat,s (ah [0,55296,57344,1114112]=ah (dJ y z)/\0=(z:Int)/\[0,55296,57344,1114112]=dJ y z/\(Iv (z<=q1))))/\(∀x:Nat,let n:=dJ y x;let a:=gt (0,0) y (x:Int).toNat;let r:=bM n [a.1];let t:=([aD .i32 a.2 1]:List Int);let w:=ah (bM n t);let A:=ah (bM r t);let o:=λp:Prop=>aa [a.1,a.2] p;let k:Prop:=(∃z:Nat,s (ah n=ah (dJ y z)/\aD .i64 (x:Int) 1=(z:Int)/\n=dJ y z/\(Iv (z<=q1/\(q1-z)<(q1-x)))));let l:Prop:=(∃z:Nat,s (ah r=ah (dJ y z)/\aD .i64 (x:Int) 1=(z:Int)/\r=dJ y z/\(Iv (z<=q1/\(q1-z)<(q1-x)))));let m:Prop:=(aI 0 (x:Int)/\az (x:Int) f/\aI 0 (x:Int)/\az (x:Int) f/\ak (aI a.1 a.2) (aI 0 (x:Int)/\az (x:Int) f/\ak (aI 0 a.2) (aI 0 (x:Int)/\az (x:Int) f/\aa [a.1,a.2,a.2,a.2] (ak (az a.2 1114111) (aI 0 (x:Int)/\az (x:Int) f/\bF w 4/\∃z:Nat,s (w=ah (dJ y z)/\aD .i64 (x:Int) 1=(z:Int)/\bM n t=dJ y z/\(Iv (z<=q1/\(q1-z)<(q1-x))))) (k))) (aa [a.1,a.2,a.2] (k))) (o (k)));(Iv (x<=q1))->ak (az (x:Int) f) (aI 0 (x:Int)/\az (x:Int) f/\aI 0 (x:Int)/\az (x:Int) f/\ak (aI a.1 a.2) (aI 0 (x:Int)/\az (x:Int) f/\ak (aI 0 a.1) (aI 0 (x:Int)/\az (x:Int) f/\aa [a.1,a.2,a.1,a.1] (ak (aI a.1 1114111) (aI 0 (x:Int)/\az (x:Int) f/\bF (ah r) 4/\aI 0 (x:Int)/\az (x:Int) f/\aI 0 (x:Int)/\az (x:Int) f/\ak (aI a.1 a.2) (aI 0 (x:Int)/\az (x:Int) f/\ak (aI 0 a.2) (aI 0 (x:Int)/\az (x:Int) f/\aa [a.1,a.2,a.2,a.2] (ak (az a.2 1114111) (aI 0 (x:Int)/\az (x:Int) f/\bF A 4/\∃z:Nat,s (A=ah (dJ y z)/\aD .i64 (x:Int) 1=(z:Int)/\bM r t=dJ y z/\(Iv (z<=q1/\(q1-z)<(q1-x))))) (l))) (aa [a.1,a.2,a.2] (l))) (o (l))) (m))) (aa [a.1,a.2,a.1] (m))) (o (m))) ((∃z:Nat×(List Int),ah n=ah z.2/\1=(z.1:Int)/\n=z.2/\(Iv (1<=z.1/\z.1<=z.2.length/\List.Perm z.2 (cZ y)/\Dj z.2 z.1)))/\(∀g:Nat×(List Int),let h:=(g.1:Int);let u:=az h (ah g.2);(Iv (1<=g.1/\g.1<=g.2.length/\List.Perm g.2 (cZ y)/\Dj g.2 g.1))->ak u (∃z:Nat×(List Int),(∃b:Nat×(List Int),aa [h] (ah g.2=ah b.2/\h=(b.1:Int)/\g.2=b.2/\(Iv (b.1<=z.1/\z.1<b.2.length/\List.Perm b.2 (cZ y)/\oX b.2 b.1 z.1))))/\(∀e:Nat×(List Int),let c:=(e.1:Int);let d:=cQ .i64 c 1;let i:=gt 0 e.2 c.toNat;let j:=gt 0 e.2 d.toNat;let q:Prop:=(∃b:Nat×(List Int),ah e.2=ah b.2/\aD .i64 h 1=(b.1:Int)/\e.2=b.2/\(Iv ((1<=b.1/\b.1<=b.2.length/\List.Perm b.2 (cZ y)/\Dj b.2 b.1)/\(v-b.1)<(v-g.1))));(Iv (e.1<=z.1/\z.1<e.2.length/\List.Perm e.2 (cZ y)/\oX e.2 e.1 z.1))->ak (az 0 c) (aI 0 d/\az d (ah e.2)/\aI 0 c/\az c (ah e.2)/\aa [j,i] (ak (az i j) (aI 0 c/\az c (ah e.2)/\aI 0 d/\az d (ah e.2)/\aI 0 d/\az d (ah e.2)/\aI 0 c/\az c (ah e.2)/\aa [i,j] (∃b:Nat×(List Int),aa [h] (ah e.2=ah b.2/\d=(b.1:Int)/\cO (cO e.2 d.toNat i) c.toNat j=b.2/\(Iv ((b.1<=z.1/\z.1<b.2.length/\List.Perm b.2 (cZ y)/\oX b.2 b.1 z.1)/\b.1<e.1))))) (q))) (q))) (g.2=bn y/\True))))
def QQ (y:(List (Int×Int))×Int×Int):Prop:=let a:=ah y.1;let q1:=cQ .i64 a 1;let b:=cq y.1 y.2.1 y.2.2;let c:=bM y.1 [(y.2.1,y.2.2)];let d:=gt (0,0) y.1 q1.toNat;let f:=aC (aD .i32 d.2 1) y.2.1;let e:Prop:=(bF (ah c) 8/\ah c=ah b/\c=b/\True);ak (az 0 a) (aI 0 q1/\az q1 a/\ak f (aI 0 q1/\az q1 a/\a=ah b/\cO y.1 q1.toNat (d.1,y.2.2)=b/\True) (e)) (e)
def Gm (y:List (Int×Int)):Prop:=let e:=bn y;let q1:=e.length;let d:=ah e;let m:=λp:Prop=>aa [y] (aa [e] p);Iv (y.length<=2000000)/\aa [y] ((∃z:Nat,let n:=dA (bj y) e z;m (0=ah n/\0=(z:Int)/\[]=n/\(Iv ((z+1)<=q1))))/\(∀x:Nat,let b:=dA (bj y) e x;let c:=aD .i64 (x:Int) 1;let a:=gt 0 e (x:Int).toNat;let g:=gt 0 e c.toNat;let h:=cQ .i32 g 1;let f:Prop:=(∃z:Nat,let i:=dA (bj y) e z;m (ah b=ah i/\c=(z:Int)/\b=i/\(Iv ((z+1)<=q1/\(q1-z)<(q1-x)))));let o:Prop:=(aa [a,a] (ak (bj y a) (aI 0 (x:Int)/\az (x:Int) d/\aI 0 c/\az c d/\Iv (Xh b)/\aa [ah b,a,h] (aa [b] (aa [a,g] (∃z:Nat,let j:=dA (bj y) e z;m (ah (cq b a h)=ah j/\c=(z:Int)/\cq b a h=j/\(Iv ((z+1)<=q1/\(q1-z)<(q1-x)))))))) (f)));(Iv ((x+1)<=q1))->ak (az c d) (aI 0 (x:Int)/\az (x:Int) d/\aI 0 c/\az c d/\ak (az a g) (aI 0 (x:Int)/\az (x:Int) d/\ak (az a 55296) (aI 0 (x:Int)/\az (x:Int) d/\Iv True/\aa [y] (aa [a,a,g,a,a] (ak (bj y a) (aI 0 (x:Int)/\az (x:Int) d/\aI 0 c/\az c d/\Iv (Xh b)/\aa [ah b,a,h] (aa [b] (aa [a,g] (∃z:Nat,let k:=dA (bj y) e z;m (ah (cq b a h)=ah k/\c=(z:Int)/\cq b a h=k/\(Iv ((z+1)<=q1/\(q1-z)<(q1-x)))))))) (f)))) (aI 0 (x:Int)/\az (x:Int) d/\ak (az 57343 a) (aI 0 (x:Int)/\az (x:Int) d/\Iv True/\aa [y] (aa [a,a,g,a,a,a] (ak (bj y a) (aI 0 (x:Int)/\az (x:Int) d/\aI 0 c/\az c d/\Iv (Xh b)/\aa [ah b,a,h] (aa [b] (aa [a,g] (∃z:Nat,let l:=dA (bj y) e z;m (ah (cq b a h)=ah l/\c=(z:Int)/\cq b a h=l/\(Iv ((z+1)<=q1/\(q1-z)<(q1-x)))))))) (f)))) (aa [a,g,a,a] (f)))) (aa [a,g] (f))) (b=aX y/\True)))
def Gn (y:List (Int×Int)):Prop:=let e:=bn y;let q1:=e.length;let d:=ah e;let m:=λp:Prop=>aa [y] (aa [e] p);Iv (y.length<=2000000)/\aa [y] ((∃z:Nat,let n:=dA (λ(r:Int)=>!(bj y r)) e z;m (0=ah n/\0=(z:Int)/\[]=n/\(Iv ((z+1)<=q1))))/\(∀x:Nat,let b:=dA (λ(r:Int)=>!(bj y r)) e x;let c:=aD .i64 (x:Int) 1;let a:=gt 0 e (x:Int).toNat;let g:=gt 0 e c.toNat;let h:=cQ .i32 g 1;let f:Prop:=(∃z:Nat,let i:=dA (λ(r:Int)=>!(bj y r)) e z;m (ah b=ah i/\c=(z:Int)/\b=i/\(Iv ((z+1)<=q1/\(q1-z)<(q1-x)))));let o:Prop:=(aa [a,a] (ak (!(bj y a)) (aI 0 (x:Int)/\az (x:Int) d/\aI 0 c/\az c d/\Iv (Xh b)/\aa [ah b,a,h] (aa [b] (aa [a,g] (∃z:Nat,let j:=dA (λ(r:Int)=>!(bj y r)) e z;m (ah (cq b a h)=ah j/\c=(z:Int)/\cq b a h=j/\(Iv ((z+1)<=q1/\(q1-z)<(q1-x)))))))) (f)));(Iv ((x+1)<=q1))->ak (az c d) (aI 0 (x:Int)/\az (x:Int) d/\aI 0 c/\az c d/\ak (az a g) (aI 0 (x:Int)/\az (x:Int) d/\ak (az a 55296) (aI 0 (x:Int)/\az (x:Int) d/\Iv True/\aa [y] (aa [a,a,g,a,a] (ak (!(bj y a)) (aI 0 (x:Int)/\az (x:Int) d/\aI 0 c/\az c d/\Iv (Xh b)/\aa [ah b,a,h] (aa [b] (aa [a,g] (∃z:Nat,let k:=dA (λ(r:Int)=>!(bj y r)) e z;m (ah (cq b a h)=ah k/\c=(z:Int)/\cq b a h=k/\(Iv ((z+1)<=q1/\(q1-z)<(q1-x)))))))) (f)))) (aI 0 (x:Int)/\az (x:Int) d/\ak (az 57343 a) (aI 0 (x:Int)/\az (x:Int) d/\Iv True/\aa [y] (aa [a,a,g,a,a,a] (ak (!(bj y a)) (aI 0 (x:Int)/\az (x:Int) d/\aI 0 c/\az c d/\Iv (Xh b)/\aa [ah b,a,h] (aa [b] (aa [a,g] (∃z:Nat,let l:=dA (λ(r:Int)=>!(bj y r)) e z;m (ah (cq b a h)=ah l/\c=(z:Int)/\cq b a h=l/\(Iv ((z+1)<=q1/\(q1-z)<(q1-x)))))))) (f)))) (aa [a,g,a,a] (f)))) (aa [a,g] (f))) (b=lE y/\True)))
def Gp (y:List (Int×Int)):Prop:=let a:=aX y;let q1:=y.length;let f:=!(aC (ah a) (ah y));let d:Prop:=(false=decide (y=a)/\True);Iv (q1<=2000000)/\aa [y] (ak f (d) ((∃z:Nat,aa [y] (aa [a] (0=(z:Int)/\(Iv (z<=q1/\List.take z a=List.take z y)))))/\(∀x:Nat,let e:=az (x:Int) (ah y);let b:=gt (0,0) y (x:Int).toNat;let c:=gt (0,0) a (x:Int).toNat;let g:=!((aC c.1 b.1)&&(aC c.2 b.2));(Iv (x<=q1/\List.take x a=List.take x y))->ak e (aI 0 (x:Int)/\az (x:Int) (ah a)/\aI 0 (x:Int)/\e/\aa [c.1,c.2,b.1,b.2] (ak g (d) (∃z:Nat,aa [y] (aa [a] (aD .i64 (x:Int) 1=(z:Int)/\(Iv ((z<=q1/\List.take z a=List.take z y)/\(q1-z)<(q1-x)))))))) (true=decide (y=a)/\True))))
end
end sx
end Go.Proofs.YtiiiphndmbabcaaGreat
