/- StreamAgain: a part of the proof. -/
import Derived.Test.YtfkmlhnhkdbjeaaGreatC2
import Derived.Test.YtfkmlhnhkdbjeaaGreatProg
import Derived.KernelRfl
import Derived.Test.YtfkmlhnhkdbjeaaGreatRows
import Derived.OpenShut
import Derived.ProofKit
import Derived.Deep.Slices
set_option linter.all false
namespace Go.Proofs.YtfkmlhnhkdbjeaaGreat
open Go.Proofs.Tryz
namespace syn
open Go Go.RowKit cls
def xY {α:Type} {l:List α} {i:Nat} {x:α} (h:l[i]?=some x):i<l.length:=(Zam.1 h).1
structure Nd where
 op:Int
 r:List Rg
 mn:Int
 mx:Int
 lz:Bool
 cap:Int
 af:Int
def Nd.tup (x:Nd):Int×List Rg×Int×Int×Bool×Int×Int:=(x.op,x.r,x.mn,x.mx,x.lz,x.cap,x.af)
theorem Nd.ZX {x y:Nd} (h:x.tup=y.tup):x=y:=by
 cases x;cases y;grind [Nd.tup]
instance:DecidableEq Nd:=λa b=>decidable_of_iff (a.tup=b.tup) ⟨Nd.ZX,λh=>by rw[h]⟩
def nd (op:Int):Nd:=⟨op,[],0,0,false,0,0⟩
def xZ (l:List Rg):Nd:={ nd 2 with r:=l }
abbrev Gt:=Int×Int
structure Ps where
 i:Nat
 an:Nat
 ae:Nat
 au:Int
 wh:Int
section
variable (G:List Gt)
def aq (i:Nat):Int:=((G.take i).map (·.2)).sum
def Ps.aA (s:Ps) (i:Nat) (e:Int):Ps:=if s.au=0 then { s with au:=e,wh:=aq G i } else s
def bd (s:Ps) (r:Int):Bool:=match G[s.i]? with
 | some g=>g.1==r
 | none=>false
def Ps.next (s:Ps):Ps:={ s with i:=s.i+1 }
def bt (s:Ps) (r:Int):Ps:=if bd G s r then s.next else s
def fI (i:Nat):Bool:=match G[i]? with
 | some g=>g.1==65533&&g.2==1
 | none=>false
def aN (i:Nat):Int:=(G.getD i (0,0)).1
def b9 (op:Int):List (List Nd)->List Nd
 | []=>[nd 1]
 | [x]=>x
 | a=>{ nd op with af:=a.length }::a.flatten
def ZY:List Rg:=l9 [(10,10)]
def eL (r:Int):List Rg:=aY [(r,r)]
def iR (r:Int):Bool:=decide (33<=r)&&decide (r<=47)||decide (58<=r)&&decide (r<=64)||decide (91<=r)&&decide (r<=96)||decide (123<=r)&&decide (r<=126)
def nv (s:Ps) (a:Nat) (r:Int):Ps×List Rg×Bool:=
 if r=110 then(s,eL 10,true)
 else if r=116 then(s,eL 9,true)
 else if r=114 then(s,eL 13,true)
 else if r=100 then(s,aY [(48,57)],false)
 else if r=115 then(s,aY [(9,10),(13,13),(32,32)],false)
 else if r=119 then(s,aY [(48,57),(65,90),(95,95),(97,122)],false)
 else if iR r then(s,eL r,true)
 else(s.aA G a 4,[],false)
def eC (s:Ps):Ps×List Rg×Bool:=
 let t:=s.next
 if G.length<=t.i then(t.aA G s.i 4,[],false)
 else if fI G t.i then(t.aA G t.i 4,[],false)
 else nv G t.next s.i (aN G t.i)
def cj (s:Ps):Ps×List Rg×Bool:=
 if fI G s.i then(s.aA G s.i 4,[],false)
 else
  let r:=aN G s.i
  if r=92 then eC G s
  else if r=91\/r=93\/r=45 then(s,[],false)
  else(s.next,[(r,r)],true)
def pR (l:List Rg):Int:=(l.getD 0 (0,0)).1
def kG (a:List Rg) (one:Bool) (c:Nat) (s:Ps):Ps×List Rg:=
 let b:=if s.i<G.length then cj G s else(s,[],false)
 let t:=if b.1.au=0/\(one=false\/b.2.2=false\/pR b.2.1<pR a) then b.1.aA G c 4 else b.1
 if t.au=0 then(t,[(pR a,pR b.2.1)]) else(t,[])
def eD (s:Ps):Ps×List Rg:=
 let a:=cj G s
 if a.1.au≠0 then(a.1,[])
 else if a.2.1=[] then(a.1.aA G s.i 4,[])
 else if bd G a.1 45 then kG G a.2.1 a.2.2 s.i a.1.next
 else(a.1,a.2.1)
def eh (a:Nat):Nat->Ps->List Rg->Bool->Ps×List Rg×Bool×Bool
 | 0,s,l,none_=>(s,l,none_,false)
 | n+1,s,l,none_=>
  if s.au=0/\bd G s 93=false then
   if G.length<=s.i then(s.aA G a 4,l,none_,true)
   else eh a n (eD G s).1 (l++(eD G s).2) false
  else(s,l,none_,false)
def tg (s:Ps):Ps×List Nd:=
 let neg:=bd G s.next 94
 let t:=bt G s.next 94
 let c:=eh G s.i (G.length+2-t.i) t [] true
 if c.2.2.2 then(c.1,[])
 else if c.1.au≠0 then(c.1,[])
 else if c.2.2.1 then(c.1.aA G s.i 4,[])
 else(c.1.next,[xZ (if neg then l9 (aY c.2.1) else aY c.2.1)])
def cB:Nat->Nat->List UInt8->Nat×List UInt8
 | 0,i,b=>(i,b)
 | n+1,i,b=>if i<G.length/\48<=aN G i/\aN G i<=57 then
   cB n (i+1) (if 48<aN G i\/b≠[] then b++[UInt8.ofNat (aN G i).toNat] else b) else(i,b)
def dK (s:Ps):Ps:={ s with i:=(cB G (G.length-s.i) s.i []).1 }
def ie (s:Ps):List UInt8:=(cB G (G.length-s.i) s.i []).2
def gZ (s:Ps):Bool:=decide (s.i<(cB G (G.length-s.i) s.i []).1)
end
def iS (a b:List UInt8):Bool:=decide (a.length<b.length)||(a.length==b.length&&Op.bytesLess a b)
def iy (l:List UInt8):Int:=l.foldl (λn c=>10*n+((c.toNat:Int) -48)) 0
def e_ (l:List UInt8):Int×Bool:=if 2<l.length then(0,false) else(iy l,decide (iy l<=30))
section
variable (G:List Gt)
def oz (a:Nat) (s:Ps) (m n:List UInt8) (ok en:Bool):Ps×Int×Int:=
 if ok=false then(s.aA G a 4,0,0)
 else if bd G s 125=false then(s.aA G a 4,0,0)
 else if en=false/\iS n m=true then(s.next.aA G a 4,0,0)
 else
  let lo:=e_ m
  let hi:=e_ (if en then[] else n)
  if lo.2=false\/hi.2=false then(s.next.aA G a 2,0,0)
  else(s.next,lo.1,if en then-1 else hi.1)
def gP (s:Ps):Ps×Int×Int:=
 let t:=dK G s.next
 let m:=ie G s.next
 let ok:=gZ G s.next
 if ok/\bd G t 44 then oz G s.i (dK G t.next) m (ie G t.next) ok (!gZ G t.next)
 else oz G s.i t m m ok false
def iH (ax:Ps->Ps×List Nd) (s:Ps):Ps×List Nd:=
 let free:=bd G s.next 63
 let c:=if free then s.next.next else s.next
 if free/\bd G c 58=false then(c.aA G s.i 4,[])
 else
  let s3:=if free then c.next else c
  if 20<=s3.an then(s3.aA G s.i 10,[])
  else if free=false/\4<=s3.ae then(s3.aA G s.i 13,[])
  else
   let d:Ps:=if free then s3 else { s3 with ae:=s3.ae+1 }
   let a:=ax { d with an:=d.an+1 }
   let b:Ps:={ a.1 with an:=a.1.an-1 }
   if b.au=0/\bd G b 41=false then(b.aA G s.i 4,[])
   else
    let e:Ps:=if b.au=0 then b.next else b
    if free then(e,a.2) else(e,{ nd 6 with cap:=d.ae,af:=1 }::a.2)
def jG (ax:Ps->Ps×List Nd) (s:Ps):Ps×List Nd:=
 if fI G s.i then(s.aA G s.i 4,[])
 else
  let r:=aN G s.i
  if r=40 then iH G ax s
  else if r=91 then tg G s
  else if r=92 then((eC G s).1,[xZ (eC G s).2.1])
  else if r=46 then(s.next,[xZ ZY])
  else if r=94 then(s.next,[nd 7])
  else if r=36 then(s.next,[nd 8])
  else if r=42\/r=43\/r=63\/r=41\/r=93\/r=123\/r=125\/r=124 then(s.aA G s.i 4,[])
  else(s.next,[xZ (eL r)])
def oA (s:Ps) (mn mx:Int) (x:List Nd):Ps×List Nd:=
 if s.au≠0 then(s,[])
 else(bt G s 63,{ nd 5 with mn:=mn,mx:=mx,lz:=bd G s 63,af:=1 }::x)
def fR (ax:Ps->Ps×List Nd) (s:Ps):Ps×List Nd:=
 let a:=jG G ax s
 if a.1.au≠0 then(a.1,[])
 else if bd G a.1 42 then oA G a.1.next 0 (-1) a.2
 else if bd G a.1 43 then oA G a.1.next 1 (-1) a.2
 else if bd G a.1 63 then oA G a.1.next 0 1 a.2
 else if bd G a.1 123 then oA G (gP G a.1).1 (gP G a.1).2.1 (gP G a.1).2.2 a.2
 else a
def ff (ax:Ps->Ps×List Nd):Nat->Ps->List (List Nd)->Ps×List (List Nd)
 | 0,s,a=>(s,a)
 | n+1,s,a=>
  if s.au=0/\s.i<G.length/\bd G s 124=false/\¬(bd G s 41/\0<s.an) then ff ax n (fR G ax s).1 (a++[(fR G ax s).2])
  else(s,a)
def nw (ax:Ps->Ps×List Nd) (s:Ps):Ps×List Nd:=
 let c:=ff G ax (G.length+2-s.i) s []
 (c.1,b9 3 c.2)
def gQ (ax:Ps->Ps×List Nd):Nat->Ps->List (List Nd)->Ps×List (List Nd)
 | 0,s,a=>(s,a)
 | n+1,s,a=>
  if s.au=0/\bd G s 124=true then gQ ax n (nw G ax s.next).1 (a++[(nw G ax s.next).2])
  else(s,a)
def E3 (ax:Ps->Ps×List Nd) (s:Ps):Ps×List Nd:=
 let c:=nw G ax s
 let d:=gQ G ax (G.length+2-c.1.i) c.1 [c.2]
 (d.1,b9 4 d.2)
def r6:Nat->Ps->Ps×List Nd
 | 0,s=>(s,[])
 | n+1,s=>E3 G (r6 n) s
def QX:Ps:=⟨0,0,0,0,0⟩
def x3:List Nd×Int×Int:=
 let a:=r6 G 21 QX
 let s:=if a.1.au=0/\a.1.i<G.length then a.1.aA G a.1.i 4 else a.1
 if s.au≠0 then([],s.au,s.wh) else(a.2,0,0)
end
section
variable {G:List Gt}
@[simp] theorem ZZ (s:Ps) (k:Nat) (e:Int):(s.aA G k e).i=s.i:=by grind [Ps.aA]
@[simp] theorem QdE (s:Ps) (k:Nat) (e:Int):(s.aA G k e).an=s.an:=by grind [Ps.aA]
@[simp] theorem CT (s:Ps) (k:Nat) (e:Int):(s.aA G k e).ae=s.ae:=by grind [Ps.aA]
theorem fJ (s:Ps) (k:Nat) {e:Int} (a:e≠0):(s.aA G k e).au≠0:=by
 grind [Ps.aA]
@[simp] theorem jO (s:Ps):s.next.i=s.i+1:=rfl
@[simp] theorem Qf4 (s:Ps):s.next.an=s.an:=rfl
@[simp] theorem QdF (s:Ps):s.next.ae=s.ae:=rfl
@[simp] theorem QjC (s:Ps):s.next.au=s.au:=rfl
theorem dy {s:Ps} {r:Int} (h:bd G s r):s.i<G.length:=by
 grind [bd]
structure gJ (G:List Gt) (s t:Ps):Prop where
 le:s.i<=t.i
 len:t.i<=G.length
 op:t.an=s.an
 gr:s.ae<=t.ae
 gm:t.ae<=4
variable {s Z:Ps}
def gJ.trans {u:Ps} (h:gJ G s Z) (a:gJ G Z u):gJ G s u:=
 ⟨Zav h.le a.le,a.len,a.op.trans h.op,Zav h.gr a.gr,a.gm⟩
theorem gJ.refl (h:s.i<=G.length) (a:s.ae<=4):gJ G s s:=⟨Zah _,h,rfl,Zah _,a⟩
theorem gJ.aA (h:gJ G s Z) (k:Nat) (e:Int):gJ G s (Z.aA G k e):=⟨by simpa using h.le,by simpa using h.len,by simpa using h.op,by simpa using h.gr,by simpa using h.gm⟩
theorem gJ.next (h:gJ G s Z) (hl:Z.i<G.length):gJ G s Z.next:=⟨by have:=h.le;simp;omega,by simp;omega,h.op,h.gr,h.gm⟩
def gJ.skip (h:gJ G s Z) (r:Int):gJ G s (bt G Z r):=by
 unfold bt;split
 ·rename_i a
  exact h.next (dy a)
 ·exact h
theorem SH (s:Ps) (a:Nat) (r:Int):(nv G s a r).1=s\/(nv G s a r).1=s.aA G a 4:=by
 grind [nv]
def qR (l:List Rg):(aY l).length<=2*l.length:=(eg l).2.2
theorem A7 (s:Ps) (a:Nat) (r:Int):(nv G s a r).2.1.length<=8:=by
 unfold nv
 repeat' split
 all_goals first | exact Zav (qR _) (by simp) | simp
theorem A8 (h:gJ G s Z) (hl:Z.i<G.length):gJ G s (eC G Z).1/\Z.i<(eC G Z).1.i/\(eC G Z).2.1.length<=8:=by
 unfold eC;simp only;split
 ·exact⟨(h.next hl).aA _ _,by simp,by simp⟩
 ·split
  ·exact⟨(h.next hl).aA _ _,by simp,by simp⟩
  ·have a:=(h.next hl).next ω;refine⟨?_,?_,A7 _ _ _⟩
   ·rcases SH (G:=G) Z.next.next Z.i (aN G Z.next.i) with e | e<;>rw[e]
    ·exact a
    ·exact a.aA _ _
   ·rcases SH (G:=G) Z.next.next Z.i (aN G Z.next.i) with e | e<;>rw[e]<;>simp<;>omega
theorem ny (h:gJ G s Z) (hl:Z.i<G.length):gJ G s (cj G Z).1/\((cj G Z).2.1≠[]->Z.i<(cj G Z).1.i)/\(cj G Z).2.1.length<=8:=by
 unfold cj;split
 ·exact⟨h.aA _ _,by simp,by simp⟩
 ·simp only;split
  ·grind [A8]
  ·split
   ·grind
   ·exact⟨h.next hl,λ_=>by simp,by simp⟩
theorem OB (h:gJ G s Z) (a:List Rg) (one:Bool) (c:Nat):gJ G s (kG G a one c Z).1/\Z.i<=(kG G a one c Z).1.i/\(kG G a one c Z).2.length<=8:=by
 have key:gJ G s (if Z.i<G.length then cj G Z else(Z,[],false)).1/\Z.i<=(if Z.i<G.length then cj G Z else(Z,[],false)).1.i:=by
  split
  ·rename_i hl
   refine⟨(ny h hl).1,?_⟩;exact((ny (gJ.refl (s:=Z) h.len h.gm) hl).1).le
  ·grind
 unfold kG;simp only;generalize (if Z.i<G.length then cj G Z else(Z,[],false))=b at key;have⟨k1,k2⟩:=key
 repeat' split
 all_goals first | exact⟨k1.aA _ _,by simp_all,by simp⟩ | exact⟨k1,k2,by simp⟩
theorem kY (h:gJ G s Z) (hl:Z.i<G.length):gJ G s (eD G Z).1/\((eD G Z).1.au=0->Z.i<(eD G Z).1.i)/\(eD G Z).2.length<=8:=by
 have⟨k1,k2,k3⟩:=ny h hl;unfold eD;simp only;split
 ·grind
 ·split
  ·exact⟨k1.aA _ _,λe=>absurd e (fJ _ _ (by decide)),by simp⟩
  ·rename_i _ a
   have k4:=k2 a;split
   ·rename_i c
    have⟨b,a2,a3⟩:=OB (k1.next (dy c)) (cj G Z).2.1 (cj G Z).2.2 Z.i;exact⟨b,λ_=>by simp at a2;omega,a3⟩
   ·grind
theorem A9 (a:Nat):∀(n:Nat) (t:Ps) (l:List Rg) (b:Bool),gJ G s t->gJ G s (eh G a n t l b).1/\t.i<=(eh G a n t l b).1.i
 | 0,t,l,b,h=>⟨h,Zah _⟩
 | n+1,t,l,b,h=>by
  unfold eh;split
  ·split
   ·exact⟨h.aA _ _,by simp⟩
   ·have hl:t.i<G.length:=ω;have c:=(kY (gJ.refl (s:=t) h.len h.gm) hl).1.le;have b:=A9 a n (eD G t).1 (l++(eD G t).2) false (kY h hl).1;grind
  ·grind
theorem uy (a:Nat):∀(n:Nat) (t:Ps) (l:List Rg) (b:Bool),t.i<=G.length->t.ae<=4->(G.length+1<n+t.i\/t.au≠0/\0<n)->(eh G a n t l b).1.au≠0\/bd G (eh G a n t l b).1 93
 | 0,t,l,b,h,d,e=>by omega
 | n+1,t,l,b,h,d,e=>by
  unfold eh;split
  ·split
   ·grind [fJ]
   ·have hl:t.i<G.length:=ω;have⟨c,a2,a3⟩:=kY (gJ.refl (s:=t) h d) hl;refine uy a n _ _ _ c.len c.gm ?_;omega
  ·grind
theorem kb:∀(n i:Nat) (b:List UInt8),i<=(cB G n i b).1/\((cB G n i b).1<=G.length\/(cB G n i b).1=i)/\(cB G n i b).2.length+i<=b.length+(cB G n i b).1
 | 0,i,b=>⟨Zah _,.inr rfl,Zah _⟩
 | n+1,i,b=>by
  unfold cB;split
  ·have⟨h1,a,c⟩:=kb n (i+1) (if 48<aN G i\/b≠[] then b++[UInt8.ofNat (aN G i).toNat] else b);grind
  ·grind
def ti (h:gJ G s Z):gJ G s (dK G Z)/\Z.i<=(dK G Z).i:=by
 have a:=kb (G:=G) (G.length-Z.i) Z.i [];have h1:=a.1;have b:(dK G Z).i<=G.length:=by
  rcases a.2.1 with e | e
  ·exact e
  ·show(cB G _ _ _).1<=_
   rw[e];exact h.len
 exact⟨⟨Zav h.le h1,b,h.op,h.gr,h.gm⟩,h1⟩
theorem x4 (h:gJ G s Z) (b:Nat) (m n:List UInt8) (ok en:Bool):gJ G s (oz G b Z m n ok en).1/\Z.i<=(oz G b Z m n ok en).1.i:=by
 unfold oz;split
 ·exact⟨h.aA _ _,by simp⟩
 ·split
  ·exact⟨h.aA _ _,by simp⟩
  ·rename_i c
   have a:=h.next (dy (by simpa using c));split
   ·exact⟨a.aA _ _,by simp⟩
   ·by_cases d:(e_ m).2=false\/(e_ (if en=true then[] else n)).2=false
    ·rw[Zac d];exact⟨a.aA _ _,by simp⟩
    ·simp_all
theorem x5 (h:gJ G s Z) (hl:Z.i<G.length):gJ G s (gP G Z).1/\Z.i<(gP G Z).1.i:=by
 have⟨a,a2⟩:=ti (h.next hl);simp only[jO] at a2;unfold gP;simp only;split
 ·rename_i b
  have⟨b1,c⟩:=ti (a.next (dy b.2));grind [jO,x4]
 ·grind [x4]
theorem SI (h:gJ G s Z) (hl:Z.i<G.length):gJ G s (tg G Z).1/\Z.i<(tg G Z).1.i/\(tg G Z).2.length<=1:=by
 have h1:=(h.next hl).skip 94;have d:Z.i<(bt G Z.next 94).i:=by unfold bt;split<;>simp<;>omega
 have⟨a,a2⟩:=A9 Z.i (G.length+2-(bt G Z.next 94).i) _ ([]:List Rg) true h1;have a3:=uy (G:=G) Z.i (G.length+2-(bt G Z.next 94).i) (bt G Z.next 94) [] true h1.len h1.gm ω;unfold tg;simp only;generalize eh G Z.i (G.length+2-(bt G Z.next 94).i) (bt G Z.next 94) [] true=c at a a2 a3;split
 ·grind
 ·split
  ·grind
  ·split
   ·exact⟨a.aA _ _,by simp;omega,by simp⟩
   ·have b:bd G c.1 93:=by grind
    exact⟨a.next (dy b),by simp;omega,by simp⟩
def nz (G:List Gt) (ax:Ps->Ps×List Nd):Prop:=∀s,s.i<=G.length->s.ae<=4->gJ G s (ax s).1/\(ax s).2.length<=3*((ax s).1.i-s.i)+1
variable {ax:Ps->Ps×List Nd}
variable {s:Ps}
theorem It (A:nz G ax) (hl:s.i<G.length) (u:s.ae<=4):gJ G s (iH G ax s).1/\((iH G ax s).1.au=0->s.i<(iH G ax s).1.i)/\(iH G ax s).2.length<=3*((iH G ax s).1.i-s.i):=by
 have h1:=(gJ.refl ω u).next hl;unfold iH;simp only;generalize c:bd G s.next 63=free;generalize o:(if free=true then s.next.next else s.next)=f;have h:gJ G s f/\s.i<f.i:=by
  subst o;split
  ·rename_i t
   subst t;exact⟨h1.next (dy c),by simp;omega⟩
  ·simp_all
 split
 ·exact⟨h.1.aA _ _,λe=>absurd e (fJ _ _ (by decide)),by simp⟩
 ·generalize p:(if free=true then f.next else f)=s3;have b:gJ G s s3/\s.i<s3.i:=by
   subst p;split
   ·have:bd G f 58:=by
     grind
    exact⟨h.1.next (dy this),by simp;omega⟩
   ·exact h
  split
  ·exact⟨b.1.aA _ _,λe=>absurd e (fJ _ _ (by decide)),by simp⟩
  ·split
   ·exact⟨b.1.aA _ _,λe=>absurd e (fJ _ _ (by decide)),by simp⟩
   ·generalize v:(if free=true then s3 else({ s3 with ae:=s3.ae+1 }:Ps))=s4;have j:s4.i=s3.i/\s4.an=s3.an/\s3.ae<=s4.ae/\s4.ae<=4:=by
     have:=b.1.gm;grind
    have r:=b.1.len;have⟨b1,q⟩:=A { s4 with an:=s4.an+1 } (by grind) j.2.2.2;generalize ax { s4 with an:=s4.an+1 }=a at b1 q;simp only[j.1] at q;have g:=b1.le;simp only[j.1] at g;have k:gJ G s ({ a.1 with an:=a.1.an-1 }:Ps):=by
     refine⟨?_,b1.len,?_,?_,b1.gm⟩
     ·have:=b.2;simp;omega
     ·have:=b1.op;have:=b.1.op;simp at*;omega
     ·have:=b1.gr;have:=b.1.gr;simp at*;omega
    split
    ·exact⟨k.aA _ _,λe=>absurd e (fJ _ _ (by decide)),by simp⟩
    ·rename_i d
     have l:gJ G s (if a.1.au=0 then({ a.1 with an:=a.1.an-1 }:Ps).next else({ a.1 with an:=a.1.an-1 }:Ps))/\a.1.i<=(if a.1.au=0 then({ a.1 with an:=a.1.an-1 }:Ps).next else({ a.1 with an:=a.1.an-1 }:Ps)).i/\(a.1.au=0->(if a.1.au=0 then({ a.1 with an:=a.1.an-1 }:Ps).next else({ a.1 with an:=a.1.an-1 }:Ps)).i=a.1.i+1):=by
      split
      ·rename_i n
       have m:bd G ({ a.1 with an:=a.1.an-1 }:Ps) 41:=by
        cases m:bd G ({ a.1 with an:=a.1.an-1 }:Ps) 41
        ·exact absurd ⟨n,m⟩ d
        ·rfl
       exact⟨k.next (dy m),by simp,λ_=>rfl⟩
      ·rename_i n
       exact⟨k,by simp,λe=>absurd e n⟩
     have hlen:a.2.length+1<=3*((if a.1.au=0 then({ a.1 with an:=a.1.an-1 }:Ps).next else({ a.1 with an:=a.1.an-1 }:Ps)).i-s.i):=by
      have:=l.2.1;have:=b.2;omega
     split
     ·exact⟨l.1,λ_=>by grind,by grind⟩
     ·exact⟨l.1,λ_=>by grind,by simp;omega⟩
theorem A' (A:nz G ax) (hl:s.i<G.length) (a:s.ae<=4):gJ G s (jG G ax s).1/\((jG G ax s).1.au=0->s.i<(jG G ax s).1.i)/\(jG G ax s).2.length<=3*((jG G ax s).1.i-s.i):=by
 have h0:=gJ.refl (Zcx hl) a;have h1:=h0.next hl;have hw:gJ G s (s.aA G s.i 4)/\((s.aA G s.i 4).au=0->s.i<(s.aA G s.i 4).i)/\([]:List Nd).length<=3*((s.aA G s.i 4).i-s.i):=⟨h0.aA _ _,λe=>absurd e (fJ _ _ (by decide)),by simp⟩;have b:∀x:Nd,gJ G s s.next/\(s.next.au=0->s.i<s.next.i)/\[x].length<=3*(s.next.i-s.i):=λx=>⟨h1,λ_=>by simp,by simp⟩
 unfold jG;grind [It,SI,A8]
theorem E4 {t:Ps} (h:gJ G s t) (mn mx:Int) (x:List Nd):gJ G s (oA G t mn mx x).1/\t.i<=(oA G t mn mx x).1.i/\(oA G t mn mx x).2.length<=x.length+1:=by
 unfold oA;split
 ·grind
 ·refine⟨h.skip 63,?_,by simp⟩;unfold bt;split<;>simp
theorem x6 (A:nz G ax) (hl:s.i<G.length) (d:s.ae<=4):gJ G s (fR G ax s).1/\((fR G ax s).1.au=0->s.i<(fR G ax s).1.i)/\(fR G ax s).2.length<=3*((fR G ax s).1.i-s.i):=by
 have⟨b,a2,a3⟩:=A' A hl d;unfold fR;simp only;generalize jG G ax s=a at b a2 a3;split
 ·grind
 ·rename_i g
  have key:∀(r mn mx:Int),bd G a.1 r->gJ G s (oA G a.1.next mn mx a.2).1/\((oA G a.1.next mn mx a.2).1.au=0->s.i<(oA G a.1.next mn mx a.2).1.i)/\(oA G a.1.next mn mx a.2).2.length<=3*((oA G a.1.next mn mx a.2).1.i-s.i):=λr mn mx c=>by
   have⟨b1,e,f⟩:=E4 (b.next (dy c)) mn mx a.2;grind [jO]
  grind [x5,dy,E4]
def total (a:List (List Nd)):Nat:=a.flatten.length
theorem gR (a:List (List Nd)) (x:List Nd):total (a++[x])=total a+x.length:=by simp[total]
theorem x7 (op:Int):∀a:List (List Nd),(b9 op a).length<=total a+1
 | []=>by grind [b9]
 | [x]=>by simp[b9,total]
 | x::y::a=>by simp[b9,total]
theorem A_ (A:nz G ax):∀(n:Nat) (t:Ps) (a:List (List Nd)),gJ G s t->total a<=3*(t.i-s.i)->gJ G s (ff G ax n t a).1/\total (ff G ax n t a).2<=3*((ff G ax n t a).1.i-s.i)
 | 0,t,a,h,c=>⟨h,c⟩
 | n+1,t,a,h,c=>by
  unfold ff;split
  ·rename_i d
   have⟨b,a2,a3⟩:=x6 A d.2.1 h.gm;have e:=b.le;have f:=h.le;refine A_ A n _ _ (h.trans b) ?_;rw[gR];omega
  ·grind
def nA (A:nz G ax) (hl:s.i<=G.length) (b:s.ae<=4):gJ G s (nw G ax s).1/\(nw G ax s).2.length<=3*((nw G ax s).1.i-s.i)+1:=by
 have⟨a,a2⟩:=A_ A (G.length+2-s.i) s [] (gJ.refl hl b) (by simp[total]);exact⟨a,Zav (x7 _ _) (by show total (ff G ax (G.length+2-s.i) s []).2+1<=_;exact ZcU a2)⟩
theorem Ba (A:nz G ax):∀(n:Nat) (t:Ps) (a:List (List Nd)),gJ G s t->0<a.length->total a+2*a.length<=3*(t.i-s.i)+3->gJ G s (gQ G ax n t a).1/\0<(gQ G ax n t a).2.length/\total (gQ G ax n t a).2+2*(gQ G ax n t a).2.length<=3*((gQ G ax n t a).1.i-s.i)+3
 | 0,t,a,h,h0,d=>⟨h,h0,d⟩
 | n+1,t,a,h,h0,d=>by
  unfold gQ;split
  ·rename_i e
   have b:=h.next (dy e.2);have⟨c,a2⟩:=nA A (s:=t.next) b.len b.gm;have f:=c.le;have g:=h.le;simp only[jO] at f a2;refine Ba A n _ _ (b.trans c) (by simp) ?_;grind [gR]
  ·grind
theorem vz (op:Int) (a:List (List Nd)) (h:0<a.length):(b9 op a).length+2<=total a+2*a.length:=by
 match a,h with
 | [x],_=>simp[b9,total]
 | x::y::a,_=>simp[b9,total];omega
theorem SJ (A:nz G ax) (hl:s.i<=G.length) (d:s.ae<=4):gJ G s (E3 G ax s).1/\(E3 G ax s).2.length<=3*((E3 G ax s).1.i-s.i)+1:=by
 have⟨a,a2⟩:=nA A (s:=s) hl d;unfold E3;generalize nw G ax s=c at a a2;have⟨b1,b,e⟩:=Ba A (G.length+2-c.1.i) c.1 [c.2] a (by simp) (by grind [total]);have:=vz 4 _ b;grind
theorem wL:∀n,nz G (r6 G n)
 | 0=>λs h a=>⟨gJ.refl h a,by simp[r6]⟩
 | n+1=>λs h a=>SJ (wL n) h a
end
section
variable (G:List Gt)
def tj (s:Ps) (a:Nat):Ps×List Rg:=
 if G.length<=s.i then(s.aA G a 4,[])
 else if fI G s.i then(s.aA G s.i 4,[])
 else
  let r:=aN G s.i
  if r=110 then(s.next,[(10,10)])
  else if r=116 then(s.next,[(9,9)])
  else if r=114 then(s.next,[(13,13)])
  else if r=100 then(s.next,[(48,57)])
  else if r=115 then(s.next,aY [(9,10),(13,13),(32,32)])
  else if r=119 then(s.next,aY [(48,57),(65,90),(95,95),(97,122)])
  else if iR r then(s.next,[(r,r)])
  else(s.next.aA G a 4,[])
def fK (s:Ps):Ps×List Rg:=
 if fI G s.i then(s.next.aA G s.i 4,[])
 else
  let r:=aN G s.i
  if r=92 then tj G s.next s.i
  else if r=91\/r=45 then(s.next.aA G s.i 4,[])
  else(s.next,[(r,r)])
def dH (l:List Rg):Bool:=decide (l.length=1)&&decide ((l.getD 0 (0,0)).1=(l.getD 0 (0,0)).2)
def lE (s:Ps) (c:Nat) (a l:List Rg):Ps×List Rg×Bool:=
 if s.au≠0\/bd G s 45=false then(s,l++a,false)
 else
  let t:=s.next
  if G.length<=t.i\/bd G t 93\/bd G t 91\/bd G t 45=true then(t.aA G c 4,l,true)
  else
   let b:=fK G t
   if b.1.au=0/\(dH a=false\/dH b.2=false\/pR b.2<pR a) then(b.1.aA G c 4,l,true)
   else if b.1.au=0 then(b.1,l++[(pR a,pR b.2)],false)
   else(b.1,l,false)
def dQ:Nat->Ps->List Rg->Bool->Ps×List Rg×Bool
 | 0,s,l,any=>(s,l,any)
 | n+1,s,l,any=>
  if s.au=0/\s.i<G.length/\bd G s 93=false then
   let m:=lE G (fK G s).1 s.i (fK G s).2 l
   if m.2.2 then(m.1,m.2.1,true) else dQ n m.1 m.2.1 true
  else(s,l,any)
def z_ (s:Ps) (a:Nat):Ps×List Rg:=
 let neg:=bd G s 94
 let t:=bt G s 94
 let c:=dQ G (G.length+2-t.i) t [] false
 let u:=if c.1.au=0/\(c.2.2=false\/bd G c.1 93=false) then c.1.aA G a 4 else c.1
 (u.next,if neg then l9 c.2.1 else aY c.2.1)
def ke (a:Nat) (s:Ps) (m n:List UInt8) (ok op:Bool):Ps×Int×Int:=
 let t:=if ok=false\/bd G s 125=false\/(op=false/\iS n m) then s.aA G a 4 else s
 let lo:=e_ m
 let hi:=if op then(-1,true) else e_ n
 let u:=if lo.2=false\/hi.2=false then t.next.aA G a 2 else t.next
 (u,lo.1,hi.1)
def eN (s:Ps):Ps×Int×Int:=
 let t:=dK G s.next
 let m:=ie G s.next
 let ok:=gZ G s.next
 if ok/\bd G t 44 then ke G s.i (dK G t.next) m (ie G t.next) ok (!gZ G t.next)
 else ke G s.i t m m ok false
def fE (s:Ps) (a:Nat):Ps:=
 (if s.au=0/\bd G s 41=false then s.aA G a 4 else s).next
def jP (ax:Ps->Ps×List Nd) (deep:Nat) (s:Ps) (a:Nat):Ps×List Nd:=
 let quiet:=bd G s 63
 if quiet/\bd G s.next 58=false then(s.aA G a 4,[])
 else if 20<=deep then(s.aA G a 10,[])
 else if quiet then(fE G (ax s.next.next).1 a,(ax s.next.next).2)
 else if 4<=s.ae then(s.aA G a 13,[])
 else
  let t:Ps:={ s with ae:=s.ae+1 }
  (fE G (ax t).1 a,{ nd 6 with cap:=t.ae,af:=1 }::(ax t).2)
def gE (ax:Ps->Ps×List Nd) (deep:Nat) (s:Ps):Ps×List Nd:=
 if fI G s.i then(s.next.aA G s.i 4,[])
 else
  let r:=aN G s.i
  if r=40 then jP G ax deep s.next s.i
  else if r=91 then((z_ G s.next s.i).1,[xZ (z_ G s.next s.i).2])
  else if r=46 then(s.next,[xZ (l9 [(10,10)])])
  else if r=94 then(s.next,[nd 7])
  else if r=36 then(s.next,[nd 8])
  else if r=92 then((tj G s.next s.i).1,[xZ (tj G s.next s.i).2])
  else if r=42\/r=43\/r=63\/r=123\/r=125\/r=93\/r=41\/r=124 then(s.next.aA G s.i 4,[])
  else(s.next,[xZ [(r,r)]])
def kg (s:Ps) (mn mx:Int) (x:List Nd):Ps×List Nd:=
 (bt G s 63,{ nd 5 with mn:=mn,mx:=mx,lz:=bd G s 63,af:=1 }::x)
def tk (ax:Ps->Ps×List Nd) (deep:Nat) (s:Ps):Ps×List Nd:=
 let a:=gE G ax deep s
 if a.1.au≠0\/G.length<=a.1.i then a
 else if bd G a.1 42 then kg G a.1.next 0 (-1) a.2
 else if bd G a.1 43 then kg G a.1.next 1 (-1) a.2
 else if bd G a.1 63 then kg G a.1.next 0 1 a.2
 else if bd G a.1 123 then kg G (eN G a.1).1 (eN G a.1).2.1 (eN G a.1).2.2 a.2
 else a
def eE (ax:Ps->Ps×List Nd) (deep:Nat):Nat->Ps->List (List Nd)->Ps×List (List Nd)
 | 0,s,a=>(s,a)
 | n+1,s,a=>
  if s.au=0/\s.i<G.length/\bd G s 124=false/\bd G s 41=false then eE ax deep n (tk G ax deep s).1 (a++[(tk G ax deep s).2])
  else(s,a)
def pr (ax:Ps->Ps×List Nd) (deep:Nat) (s:Ps):Ps×List Nd:=
 let c:=eE G ax deep (G.length+2-s.i) s []
 (c.1,b9 3 c.2)
def dZ (ax:Ps->Ps×List Nd) (deep:Nat):Nat->Ps->List (List Nd)->Ps×List (List Nd)
 | 0,s,a=>(s,a)
 | n+1,s,a=>
  if s.au=0/\bd G s 124=true then dZ ax deep n (pr G ax deep s.next).1 (a++[(pr G ax deep s.next).2])
  else(s,a)
def vA (ax:Ps->Ps×List Nd) (deep:Nat) (s:Ps):Ps×List Nd:=
 let c:=pr G ax deep s
 let d:=dZ G ax deep (G.length+2-c.1.i) c.1 [c.2]
 (d.1,b9 4 d.2)
def CU:Nat->Nat->Ps->Ps×List Nd
 | 0,_,s=>(s,[])
 | n+1,deep,s=>vA G (CU n (deep+1)) deep s
def Iu:List Nd×Int×Int:=
 let a:=CU G 21 0 QX
 let s:=if a.1.au=0/\a.1.i<G.length then a.1.aA G a.1.i 4 else a.1
 if s.au≠0 then([],s.au,s.wh) else(a.2,0,0)
end
section
variable {G:List Gt}
structure Fx (G:List Gt):Prop where
 one:∀i,i<G.length->eL (aN G i)=[(aN G i,aN G i)]
 n:eL 10=[(10,10)]
 t:eL 9=[(9,9)]
 r:eL 13=[(13,13)]
 d:aY [(48,57)]=[(48,57)]
 s:dH (aY [(9,10),(13,13),(32,32)])=false
 w:dH (aY [(48,57),(65,90),(95,95),(97,122)])=false
 s0:aY [(9,10),(13,13),(32,32)]≠[]
 w0:aY [(48,57),(65,90),(95,95),(97,122)]≠[]
 not:∀l,l9 (aY l)=l9 l
structure At (G:List Gt) (deep:Nat) (s t:Ps):Prop where
 e:s.au=0
 e2:t.au=0
 i:t.i=s.i
 g:t.ae=s.ae
 o:s.an=deep
 le:s.i<=G.length
variable {s:Ps} {e:Int}
def Rel {α:Type} (G:List Gt) (deep:Nat) (a b:Ps×α):Prop:=(At G deep a.1 b.1/\b.2=a.2)\/(a.1.au≠0/\b.1.au=a.1.au/\b.1.wh=a.1.wh)
theorem bW (h:s.au=0) (k:Nat) (e:Int):s.aA G k e={ s with au:=e,wh:=aq G k }:=by grind [Ps.aA]
theorem gp {α:Type} {deep k:Nat} {t:Ps} {x y:α} (hs:s.au=0) (ht:t.au=0) (a:e≠0):Rel G deep (s.aA G k e,x) (t.aA G k e,y):=by
 right;grind [bW]
theorem fW {t:Ps} (h:t.i=s.i) (r:Int):bd G t r=bd G s r:=by grind [bd]
theorem g_ (h:bd G s e):s.i<G.length:=by
 grind [bd]
theorem qS (h:s.i<G.length):bd G s e=(aN G s.i==e):=by
 grind [bd,aN]
variable {deep:Nat} {s t:Ps}
variable {x:Ps}
theorem At.next (h:At G deep s t) (hl:s.i<G.length):At G deep s.next t.next:=⟨h.e,h.e2,by show t.i+1=s.i+1;rw[h.i],h.g,h.o,hl⟩
def At.skip (h:At G deep s t) (r:Int):At G deep (bt G s r) (bt G t r):=by
 unfold bt;rw[fW h.i];split
 ·rename_i a;exact h.next (g_ a)
 ·exact h
def lF (r:Int):dH [(r,r)]:=by simp[dH]
theorem E5 (F:Fx G) (h:At G deep s t) (hl:s.i<G.length):Rel G deep ((eC G s).1,(eC G s).2.1) (tj G t.next s.i)/\((eC G s).1.au=0->(eC G s).2.2=dH (eC G s).2.1/\(eC G s).2.1≠[]):=by
 have c:=h.next hl;unfold eC tj;rw[c.i];by_cases h1:G.length<=s.next.i
 ·rw[Zac h1,Zac h1];exact⟨gp c.e c.e2 (by decide),λb=>by rw[bW c.e] at b;cases b⟩
 ·rw[Zaa h1,Zaa h1];by_cases f:fI G s.next.i
  ·rw[Zac f,Zac f];exact⟨gp c.e c.e2 (by decide),λb=>by rw[bW c.e] at b;cases b⟩
  ·rw[Zaa f,Zaa f];have g:=F.one s.next.i ω;have a:=c.next ω;generalize aN G s.next.i=r at g;unfold nv;by_cases c1:r=110
   ·rw[Zac c1,Zac c1,F.n];exact⟨.inl ⟨a,rfl⟩,λ_=>⟨(lF _).symm,by simp⟩⟩
   rw[Zaa c1,Zaa c1];by_cases c2:r=116
   ·rw[Zac c2,Zac c2,F.t];exact⟨.inl ⟨a,rfl⟩,λ_=>⟨(lF _).symm,by simp⟩⟩
   rw[Zaa c2,Zaa c2];by_cases c3:r=114
   ·rw[Zac c3,Zac c3,F.r];exact⟨.inl ⟨a,rfl⟩,λ_=>⟨(lF _).symm,by simp⟩⟩
   rw[Zaa c3,Zaa c3];by_cases c4:r=100
   ·rw[Zac c4,Zac c4,F.d];exact⟨.inl ⟨a,rfl⟩,λ_=>⟨by rfl,by simp⟩⟩
   rw[Zaa c4,Zaa c4];by_cases c5:r=115
   ·rw[Zac c5,Zac c5];exact⟨.inl ⟨a,rfl⟩,λ_=>⟨F.s.symm,F.s0⟩⟩
   rw[Zaa c5,Zaa c5];by_cases c6:r=119
   ·rw[Zac c6,Zac c6];exact⟨.inl ⟨a,rfl⟩,λ_=>⟨F.w.symm,F.w0⟩⟩
   rw[Zaa c6,Zaa c6];by_cases c7:iR r
   ·rw[Zac c7,Zac c7,g];exact⟨.inl ⟨a,rfl⟩,λ_=>⟨(lF _).symm,by simp⟩⟩
   ·rw[Zaa c7,Zaa c7];exact⟨gp a.e a.e2 (by decide),λb=>by rw[bW a.e] at b;cases b⟩
theorem E6 (F:Fx G) (h:At G deep s t) (hl:s.i<G.length) (a:bd G s 93=false):
  (Rel G deep ((cj G s).1,(cj G s).2.1) (fK G t)/\((cj G s).1.au=0->(cj G s).2.2=dH (cj G s).2.1/\(cj G s).2.1≠[]))\/
   (cj G s=(s,[],false)/\fI G s.i=false/\(aN G s.i=91\/aN G s.i=45)/\fK G t=(t.next.aA G s.i 4,[])):=by
 have d:=h.next hl;rw[qS hl] at a;unfold cj fK;rw[h.i];by_cases b:fI G s.i
 ·rw[Zac b,Zac b];exact .inl ⟨gp h.e d.e2 (by decide),λc=>by rw[bW h.e] at c;cases c⟩
 ·rw[Zaa b,Zaa b];generalize aN G s.i=r at a;by_cases c1:r=92
  ·grind [E5]
  ·rw[Zaa c1,Zaa c1];by_cases c2:r=91\/r=45
   ·grind
   ·have c3:¬r=93:=by grind
    rw[Zaa ω,Zaa c2];exact .inl ⟨.inl ⟨d,rfl⟩,λ_=>⟨(lF _).symm,by simp⟩⟩
theorem Qf5 {i:Nat} (hl:i<G.length) (h:aN G i≠65533):fI G i=false:=by
 grind [fI,aN]
theorem hI (hl:x.i<G.length) (h:aN G x.i=91\/aN G x.i=93\/aN G x.i=45):cj G x=(x,[],false):=by
 grind [cj,Qf5]
theorem Bb (a:List Rg) (one:Bool) (b:Nat) (c:x.au=0) (h:G.length<=x.i\/(x.i<G.length/\(aN G x.i=91\/aN G x.i=93\/aN G x.i=45))):kG G a one b x=(x.aA G b 4,[]):=by
 grind [hI,kG,bW]
def QqX (G:List Gt) (deep:Nat) (l:List Rg) (a:Ps×List Rg) (m:Ps×List Rg×Bool):Prop:=(At G deep a.1 m.1/\m.2=(l++a.2,false))\/(a.1.au≠0/\m.1.au=a.1.au/\m.1.wh=a.1.wh)
theorem SK {b:Nat} {a l:List Rg} (h:x.au≠0):lE G x b a l=(x,l++a,false):=by
 grind [lE]
theorem SM (F:Fx G) (h:At G deep s t) (hl:s.i<G.length) (C:bd G s 93=false) (l:List Rg):QqX G deep l (eD G s) (lE G (fK G t).1 t.i (fK G t).2 l):=by
 rcases E6 F h hl C with⟨w,H⟩ | ⟨w,R,S,hi⟩
 ·unfold eD;generalize cj G s=a at w H ⊢;have⟨j,a2,a3⟩:=a;generalize fK G t=b at w ⊢;have⟨b1,y⟩:=b;simp only at w H ⊢;rcases w with⟨p,v⟩ | ⟨v,x,d⟩
  ·simp only at p v;subst v;have⟨hs,E⟩:=H p.e;rw[Zaa (by rw[p.e];simp),Zaa E];by_cases m:bd G j 45
   ·rw[Zac m];have q:=p.next (g_ m);unfold lE;rw[Zaa (by rw[fW p.i,m,p.e2];simp)];simp only;have o:=q.i;rw[fW o,fW o,fW o,o,h.i];by_cases c1:G.length<=j.next.i
    ·rw[Zac (.inl c1),Bb y a3 s.i q.e (.inl c1),bW q.e,bW q.e2];exact .inr ⟨by simp,rfl,rfl⟩
    ·by_cases c2:bd G j.next 93\/bd G j.next 91\/bd G j.next 45
     ·rw[Zac (.inr c2)];have I:aN G j.next.i=91\/aN G j.next.i=93\/aN G j.next.i=45:=by
       grind [qS]
      rw[Bb y a3 s.i q.e (.inr ⟨ω,I⟩),bW q.e,bW q.e2];exact .inr ⟨by simp,rfl,rfl⟩
     ·rw[Zaa (by grind)];have z:bd G j.next 93=false:=by
       grind
      rcases E6 F q ω z with⟨n,u⟩ | ⟨n,L,O,M⟩
      ·unfold kG;rw[Zac (show j.next.i<G.length by omega)];generalize cj G j.next=c at n u ⊢;have⟨A,P,Q⟩:=c;generalize fK G b1.next=f at n ⊢;have⟨B,K⟩:=f;simp only at n u ⊢;rcases n with⟨g,d⟩ | ⟨d,r,D⟩
       ·subst d;have⟨J,_⟩:=u g.e;subst hs J;by_cases c3:dH y=false\/dH K=false\/pR K<pR y
        ·rw[Zac (⟨g.e,c3⟩:A.au=0/\_),Zac (⟨g.e2,c3⟩:B.au=0/\_),bW g.e,bW g.e2];exact .inr ⟨by simp,rfl,rfl⟩
        ·rw[Zaa (λk=>c3 k.2:¬(A.au=0/\_)),Zaa (λk=>c3 k.2:¬(B.au=0/\_)),Zac g.e,Zac g.e2];exact .inl ⟨g,rfl⟩
       ·rw[Zaa (λk=>d k.1:¬(A.au=0/\_)),Zaa d,Zaa (λk=>d (r▸k.1):¬(B.au=0/\_)),Zaa (λk=>d (r▸k))];exact .inr ⟨d,r,D⟩
      ·grind [qS]
   ·rw[Zaa m];unfold lE;rw[Zac (.inr (by rw[fW p.i];simpa using m))];exact .inl ⟨p,rfl⟩
  ·simp only at v x d;rw[Zac v,SK ω];exact .inr ⟨v,x,d⟩
 ·unfold eD;rw[w,hi];have N:=h.next hl;rw[Zaa (by rw[h.e];simp),bW h.e,bW N.e2];exact .inr ⟨by simp,rfl,rfl⟩
def QjD (G:List Gt) (deep c:Nat) (a:Ps×List Rg×Bool×Bool) (b:Ps×List Rg×Bool):Prop:=
 (At G deep a.1 b.1/\b.2.1=a.2.1/\b.2.2=!a.2.2.1/\a.2.2.2=false/\bd G a.1 93)\/
  (a.1.au≠0/\b.1.au=a.1.au/\b.1.wh=a.1.wh)\/(a.1.au=4/\a.1.wh=aq G c/\b.1.au=0/\bd G b.1 93=false)
theorem Bc (F:Fx G) (c:Nat):∀(n:Nat) (s t:Ps) (l:List Rg) (none_:Bool),At G deep s t->s.ae<=4->G.length+2<=n+s.i->QjD G deep c (eh G c n s l none_) (dQ G n t l (!none_))
 | 0,s,t,l,none_,h,r,w=>by have:=h.le;omega
 | n+1,s,t,l,none_,h,r,w=>by
  unfold eh dQ;by_cases b:bd G s 93=false
  ·rw[Zac ⟨h.e,b⟩];by_cases hl:G.length<=s.i
   ·rw[Zac hl,Zaa (by rw[h.i];omega),bW h.e];exact .inr (.inr ⟨rfl,rfl,h.e2,(fW h.i 93).trans b⟩)
   ·rw[Zaa hl,Zac ⟨h.e2,by rw[h.i];omega,by rw[fW h.i];exact b⟩];have hi:=SM F h ω b l;have f:=(kY (gJ.refl (G:=G) h.le r) ω).2.1;have p:=(kY (gJ.refl (G:=G) h.le r) ω).1.gm;generalize eD G s=a at hi f p ⊢;generalize lE G (fK G t).1 t.i (fK G t).2 l=m at hi ⊢;have⟨m1,m2,m3⟩:=m;have⟨q,a2⟩:=a;rcases hi with⟨u,g⟩ | ⟨g,d,j⟩
    ·obtain⟨rfl,rfl⟩:=g;exact Bc F c n q m1 _ false u p (by have:=f u.e;simp only at this;omega)
    ·simp only at g d j ⊢;have v:eh G c n q (l++a2) false=(q,l++a2,false,false):=by
      cases n with
      | zero=>rfl
      | succ n=>rw[eh,Zaa (λk=>g k.1)]
     rw[v];cases m3
     ·have e2:dQ G n m1 m2 true=(m1,m2,true):=by
       cases n with
       | zero=>rfl
       | succ n=>rw[dQ,Zaa (λk=>g (d▸k.1))]
      rw[e2];exact .inr (.inl ⟨g,d,j⟩)
     ·exact .inr (.inl ⟨g,d,j⟩)
  ·have o:bd G s 93:=by grind
   rw[Zaa (λk=>b k.2),Zaa (λk=>b ((fW h.i 93)▸k.2.2))];exact .inl ⟨h,rfl,rfl,rfl,o⟩
theorem Z0 (F:Fx G) (h:At G deep s t) (w:s.ae<=4) (hl:s.i<G.length):Rel G deep (tg G s) ((z_ G t.next s.i).1,[xZ (z_ G t.next s.i).2]):=by
 have r:=h.next hl;have hk:=r.skip 94;have l:(bt G s.next 94).ae<=4:=by unfold bt;split<;>exact w
 have n:QjD G deep s.i (eh G s.i (G.length+2-(bt G s.next 94).i) (bt G s.next 94) [] true) (dQ G (G.length+2-(bt G s.next 94).i) (bt G t.next 94) [] false):=Bc F s.i (G.length+2-(bt G s.next 94).i) _ _ [] true hk l ω;have j:=uy (G:=G) s.i (G.length+2-(bt G s.next 94).i) (bt G s.next 94) [] true hk.le l (.inl ω);unfold tg z_;simp only;rw[fW r.i,hk.i];generalize eh G s.i (G.length+2-(bt G s.next 94).i) (bt G s.next 94) [] true=a at n j ⊢;generalize dQ G (G.length+2-(bt G s.next 94).i) (bt G t.next 94) [] false=b at n ⊢;have⟨c,a2,a3,a4⟩:=a;have⟨b1,x,q⟩:=b;rcases n with⟨g,q1,u,v,f⟩ | ⟨m,d,o⟩ | ⟨m,hw,d,f⟩
 ·simp only at q1 u v;subst q1 u v;simp only[ZaE,Za0];rw[Zaa (by rw[g.e];simp)];cases a3
  ·have hu:(if b1.au=0/\((!false)=false\/bd G b1 93=false) then b1.aA G s.i 4 else b1)=b1:=Zaa (by rw[fW g.i,f];simp);rw[hu];refine .inl ⟨g.next (g_ f),?_⟩;simp only[F.not];rfl
  ·have hu:(if b1.au=0/\((!true)=false\/bd G b1 93=false) then b1.aA G s.i 4 else b1)=b1.aA G s.i 4:=Zac ⟨g.e2,.inl rfl⟩;rw[hu,bW g.e,bW g.e2];exact .inr ⟨by simp,rfl,rfl⟩
 ·have hu:(if b1.au=0/\(q=false\/bd G b1 93=false) then b1.aA G s.i 4 else b1)=b1:=Zaa (λk=>m (d▸k.1));rw[hu];have p:(if a4=true then(c,([]:List Nd)) else if c.au≠0 then(c,[]) else if a3=true then(c.aA G s.i 4,[]) else(c.next,[xZ (if bd G s.next 94=true then l9 (aY a2) else aY a2)]))=(c,[]):=by
   grind
  rw[p];exact .inr ⟨m,d,o⟩
 ·have hu:(if b1.au=0/\(q=false\/bd G b1 93=false) then b1.aA G s.i 4 else b1)=b1.aA G s.i 4:=Zac ⟨d,.inr f⟩;have p:(if a4=true then(c,([]:List Nd)) else if c.au≠0 then(c,[]) else if a3=true then(c.aA G s.i 4,[]) else(c.next,[xZ (if bd G s.next 94=true then l9 (aY a2) else aY a2)]))=(c,[]):=by
   grind
  rw[hu,bW d,p];exact .inr ⟨by grind,m.symm,hw.symm⟩
def Z1 (G:List Gt) (deep:Nat) (a b:Ps×Int×Int):Prop:=(At G deep a.1 b.1/\b.2=a.2)\/(a.1.au≠0/\b.1.au=a.1.au/\b.1.wh=a.1.wh)
theorem x8 (h:At G deep s t) (b:Nat) (m n:List UInt8) (ok en:Bool) (k:en->n=[]):Z1 G deep (oz G b s m n ok en) (ke G b t m n ok en):=by
 have key:∀(u:Ps) (c:Prop) [Decidable c] (z:Int×Int) (a:Ps×Int×Int),a.1.au≠0->u.au=a.1.au->u.wh=a.1.wh->Z1 G deep a ((if c then u.next.aA G b 2 else u.next),z):=by
  intro u c _ z a h1 g j;refine .inr ⟨h1,?_⟩;split
  ·have e:u.next.aA G b 2=u.next:=by unfold Ps.aA;rw[Zaa (by simp_all)]
   rw[e];exact⟨g,j⟩
  ·exact⟨g,j⟩
 have f:∀(x:Ps),x.au=0->(x.aA G b 4).au≠0:=λx l=>by grind [bW]
 have e2:∀(x y:Ps),x.au=0->y.au=0->(y.aA G b 4).au=(x.aA G b 4).au/\(y.aA G b 4).wh=(x.aA G b 4).wh:=λx y l p=>by grind [bW]
 unfold oz ke;rw[fW h.i];by_cases c1:ok=false
 ·rw[Zac c1];have ht:(if ok=false\/bd G s 125=false\/en=false/\iS n m=true then t.aA G b 4 else t)=t.aA G b 4:=Zac (.inl c1);rw[ht];exact key _ _ _ _ (f s h.e) (e2 s t h.e h.e2).1 (e2 s t h.e h.e2).2
 rw[Zaa c1];by_cases c2:bd G s 125=false
 ·rw[Zac c2];have ht:(if ok=false\/bd G s 125=false\/en=false/\iS n m=true then t.aA G b 4 else t)=t.aA G b 4:=Zac (.inr (.inl c2));rw[ht];exact key _ _ _ _ (f s h.e) (e2 s t h.e h.e2).1 (e2 s t h.e h.e2).2
 rw[Zaa c2];have d:=h.next (g_ (by simpa using c2));by_cases c3:en=false/\iS n m
 ·rw[Zac c3];have ht:(if ok=false\/bd G s 125=false\/en=false/\iS n m=true then t.aA G b 4 else t)=t.aA G b 4:=Zac (.inr (.inr c3));rw[ht];exact key _ _ _ _ (f s.next d.e) (e2 s.next t d.e h.e2).1 (e2 s.next t d.e h.e2).2
 have ht:(if ok=false\/bd G s 125=false\/en=false/\iS n m=true then t.aA G b 4 else t)=t:=Zaa (by grind);rw[Zaa c3,ht];have o:e_ []=(0,true):=by decide
 cases en
 ·simp only[ZaE,Za0];by_cases c4:(e_ m).2=false\/(e_ n).2=false
  ·rw[Zac c4,Zac c4,bW d.e,bW d.e2];exact .inr ⟨by simp,rfl,rfl⟩
  ·rw[Zaa c4,Zaa c4];exact .inl ⟨d,rfl⟩
 ·simp only[Zbv];by_cases c4:(e_ m).2=false
  ·rw[Zac (.inl c4),Zac (.inl c4),bW d.e,bW d.e2];exact .inr ⟨by simp,rfl,rfl⟩
  ·rw[Zaa (by grind),Zaa (by grind)];exact .inl ⟨d,rfl⟩
theorem Iw (h:t.i=s.i):ie G t=ie G s/\gZ G t=gZ G s/\(dK G t).i=(dK G s).i:=by
 grind [ie,gZ,dK]
def At.QjE (h:At G deep s t):At G deep (dK G s) (dK G t):=by
 have hle:=kb (G:=G) (G.length-s.i) s.i [];have:=h.le;refine⟨h.e,h.e2,(Iw h.i).2.2,h.g,h.o,?_⟩;show(cB G (G.length-s.i) s.i []).1<=_
 omega
theorem Ix:∀(n i:Nat) (b:List UInt8),(cB G n i b).1=i->(cB G n i b).2=b
 | 0,i,b,h=>rfl
 | n+1,i,b,h=>by
  grind [cB,kb]
theorem OC (h:gZ G x=false):ie G x=[]:=by
 grind [gZ,ie,Ix,kb]
theorem OD (h:At G deep s t) (hl:s.i<G.length):Z1 G deep (gP G s) (eN G t):=by
 have d:=h.next hl;have⟨e,f,l⟩:=Iw (G:=G) d.i;have b:=d.QjE;unfold gP eN;simp only;rw[e,f,fW b.i,h.i];by_cases a:gZ G s.next/\bd G (dK G s.next) 44
 ·rw[Zac a,Zac a];have c:=b.next (g_ a.2);have⟨g,j,m⟩:=Iw (G:=G) c.i;rw[g,j];exact x8 c.QjE _ _ _ _ _ λk=>OC (by grind)
 ·grind [x8]
variable {ax nD:Ps->Ps×List Nd}
variable {x:Ps} {Z:Nat} {a:List (List Nd)} {b:List Nd}
def Iy (G:List Gt) (deep:Nat) (ax a:Ps->Ps×List Nd):Prop:=∀s t,At G deep s t->s.ae<=4->Rel G deep (ax s) (a t)
def x9 (d:Nat) {a b:Ps×List Nd} (c:Nat) (h:Rel G (d+1) a b):
  let f:Ps:={ a.1 with an:=a.1.an-1 }
  (f.au=0/\bd G f 41=false->(f.aA G c 4).au≠0/\(fE G b.1 c).au=(f.aA G c 4).au/\(fE G b.1 c).wh=(f.aA G c 4).wh)/\
   (¬(f.au=0/\bd G f 41=false)->(At G d f.next (fE G b.1 c)/\f.au=0/\b.2=a.2)\/(f.au≠0/\(fE G b.1 c).au=f.au/\(fE G b.1 c).wh=f.wh)):=by
 unfold fE;rcases h with⟨h,s⟩ | ⟨p,n,q⟩
 ·have j:At G d { a.1 with an:=a.1.an-1 } b.1:=⟨h.e,h.e2,h.i,h.g,by show a.1.an-1=d;rw[h.o];omega,h.le⟩;refine⟨λm=>?_,λm=>?_⟩
  ·rw[Zac ⟨h.e2,(fW j.i 41).trans m.2⟩,bW j.e,bW h.e2];exact⟨by simp,rfl,rfl⟩
  ·have l:bd G { a.1 with an:=a.1.an-1 } 41:=by
    cases r:bd G { a.1 with an:=a.1.an-1 } 41
    ·exact absurd ⟨j.e,r⟩ m
    ·rfl
   rw[Zaa (by rw[(fW j.i 41).trans l];simp)];exact .inl ⟨j.next (g_ l),j.e,s⟩
 ·refine⟨λm=>absurd m.1 p,λ_=>?_⟩;rw[Zaa (λk=>p (n▸k.1))];exact .inr ⟨p,n,q⟩
theorem OE (A:Iy G (deep+1) ax nD) (h:At G deep s t) (n:s.ae<=4) (hl:s.i<G.length):Rel G deep (iH G ax s) (jP G nD deep t.next s.i):=by
 have a:=h.next hl;unfold iH jP;rw[fW a.i];cases l:bd G s.next 63
 ·simp only[ZaE,Za0,false_and];by_cases c1:20<=s.next.an
  ·rw[Zac c1,Zac (by have:=a.o;omega)];exact gp a.e a.e2 (by decide)
  rw[Zaa c1,Zaa (show ¬20<=deep by have:=a.o;omega)];by_cases c2:4<=s.next.ae
  ·rw[Zac (⟨trivial,c2⟩),Zac (by rw[a.g];exact c2)];exact gp a.e a.e2 (by decide)
  rw[Zaa (λk=>c2 k.2),Zaa (show ¬4<=t.next.ae by rw[a.g];exact c2)];have p:((t.next.ae+1:Nat):Int)=((s.next.ae+1:Nat):Int):=by rw[a.g]
  have⟨k1,k2⟩:=x9 deep s.i (A { { s.next with ae:=s.next.ae+1 } with an:=s.next.an+1 } { t.next with ae:=t.next.ae+1 } ⟨a.e,a.e2,a.i,by show t.next.ae+1=s.next.ae+1;rw[a.g],by show s.next.an+1=deep+1;rw[a.o],a.le⟩ (by grind));split
  ·rename_i f
   have⟨q1,b,c⟩:=k1 f;exact .inr ⟨q1,b,c⟩
  ·rename_i f
   rcases k2 f with⟨q1,b,c⟩ | ⟨q1,b,c⟩
   ·rw[Zac b];refine .inl ⟨q1,?_⟩;grind
   ·rw[Zaa q1];exact .inr ⟨q1,b,c⟩
 ·simp only[Zbv,Zal];have m:=a.next (g_ l);rw[fW m.i];by_cases c0:bd G s.next.next 58=false
  ·rw[Zac c0,Zac c0];exact gp m.e a.e2 (by decide)
  rw[Zaa c0,Zaa c0];have j:bd G s.next.next 58:=by grind
  have d:=m.next (g_ j);by_cases c1:20<=s.next.next.next.an
  ·rw[Zac c1,Zac (by have:=d.o;omega)];exact gp d.e a.e2 (by decide)
  rw[Zaa c1,Zaa (show ¬20<=deep by have:=d.o;omega),Zaa (by simp)];have⟨k1,k2⟩:=x9 deep s.i (A { s.next.next.next with an:=s.next.next.next.an+1 } t.next.next.next ⟨d.e,d.e2,d.i,d.g,by show s.next.next.next.an+1=deep+1;rw[d.o],d.le⟩ n);split
  ·rename_i f
   have⟨q1,b,c⟩:=k1 f;exact .inr ⟨q1,b,c⟩
  ·rename_i f
   rcases k2 f with⟨q1,b,c⟩ | ⟨q1,b,c⟩
   ·rw[Zac b];exact .inl ⟨q1,c⟩
   ·rw[Zaa q1];exact .inr ⟨q1,b,c⟩
theorem SN (F:Fx G) (A:Iy G (deep+1) ax nD) (h:At G deep s t) (k:s.ae<=4) (hl:s.i<G.length):Rel G deep (jG G ax s) (gE G nD deep t):=by
 have a:=h.next hl;have g:=F.one s.i hl;unfold jG gE;rw[h.i];by_cases b:fI G s.i
 ·rw[Zac b,Zac b];exact gp h.e a.e2 (by decide)
 rw[Zaa b,Zaa b];generalize aN G s.i=r at g ⊢;by_cases c1:r=40
 ·grind [OE]
 rw[Zaa c1,Zaa c1];by_cases c2:r=91
 ·grind [Z0]
 rw[Zaa c2,Zaa c2];by_cases c3:r=46
 ·subst c3;exact .inl ⟨a,rfl⟩
 rw[Zaa c3,Zaa c3];by_cases c4:r=94
 ·subst c4;exact .inl ⟨a,rfl⟩
 rw[Zaa c4,Zaa c4];by_cases c5:r=36
 ·subst c5;exact .inl ⟨a,rfl⟩
 rw[Zaa c5,Zaa c5];by_cases c6:r=92
 ·rw[Zac c6,Zac c6];have⟨hs,_⟩:=E5 F h hl;rcases hs with⟨j,f⟩ | ⟨f,c,d⟩
  ·refine .inl ⟨j,?_⟩;grind
  ·exact .inr ⟨f,c,d⟩
 rw[Zaa c6,Zaa c6];by_cases c7:r=42\/r=43\/r=63\/r=41\/r=93\/r=123\/r=125\/r=124
 ·rw[Zac c7,Zac ω];exact gp h.e a.e2 (by decide)
 ·rw[Zaa c7,Zaa ω,g];exact .inl ⟨a,rfl⟩
theorem tl {a b:Ps×Int×Int} (h:Z1 G deep a b) (x:List Nd):Rel G deep (oA G a.1 a.2.1 a.2.2 x) (kg G b.1 b.2.1 b.2.2 x):=by
 unfold oA kg;rcases h with⟨h,g⟩ | ⟨f,c,d⟩
 ·rw[Zaa (by rw[h.e];simp),g,fW h.i];exact .inl ⟨h.skip 63,rfl⟩
 ·rw[Zac f];refine .inr ⟨f,?_⟩;unfold bt;split<;>exact⟨c,d⟩
theorem Z2 (F:Fx G) (A:Iy G (deep+1) ax nD) (h:At G deep s t) (p:s.ae<=4) (hl:s.i<G.length):Rel G deep (fR G ax s) (tk G nD deep t):=by
 have l:=SN F A h p hl;unfold fR tk;generalize jG G ax s=a at l ⊢;generalize gE G nD deep t=b at l ⊢;have⟨d,a2⟩:=a;have⟨b1,j⟩:=b;rcases l with⟨c,f⟩ | ⟨f,m,n⟩
 ·simp only at c f ⊢;subst f;rw[Zaa (by rw[c.e];simp)];by_cases hle:G.length<=b1.i
  ·rw[Zac (show b1.au≠0\/G.length<=b1.i from .inr hle)];have g:∀r,bd G d r=false:=λr=>by
    cases q:bd G d r
    ·rfl
    ·have:=g_ q;have:=c.i;omega
   rw[g,g,g,g];exact .inl ⟨c,rfl⟩
  ·rw[Zaa (show ¬(b1.au≠0\/G.length<=b1.i) by rw[c.e2];simp;omega)];have o:d.i<G.length:=by have:=c.i;omega
   have k:=c.next o;rw[fW c.i,fW c.i,fW c.i,fW c.i];by_cases c1:bd G d 42
   ·rw[Zac c1,Zac c1];exact tl (a:=(d.next,0,-1)) (b:=(b1.next,0,-1)) (.inl ⟨k,rfl⟩) j
   rw[Zaa c1,Zaa c1];by_cases c2:bd G d 43
   ·rw[Zac c2,Zac c2];exact tl (a:=(d.next,1,-1)) (b:=(b1.next,1,-1)) (.inl ⟨k,rfl⟩) j
   rw[Zaa c2,Zaa c2];by_cases c3:bd G d 63
   ·rw[Zac c3,Zac c3];exact tl (a:=(d.next,0,1)) (b:=(b1.next,0,1)) (.inl ⟨k,rfl⟩) j
   rw[Zaa c3,Zaa c3];by_cases c4:bd G d 123
   ·grind [tl,OD]
   rw[Zaa c4,Zaa c4];exact .inl ⟨c,rfl⟩
 ·rw[Zac f,Zac (.inl ω)];exact .inr ⟨f,m,n⟩
def Iz {α:Type} (G:List Gt) (deep:Nat) (a b:Ps×α):Prop:=Rel G deep a b\/(deep=0/\a.1.au=4/\a.1.wh=aq G b.1.i/\b.1.au=0/\bd G b.1 41)
theorem Bd (h:x.au≠0):ff G ax Z x a=(x,a):=by
 cases Z with
 | zero=>rfl
 | succ Z=>rw[ff,Zaa (λk=>h k.1)]
theorem IA (h:x.au≠0):eE G nD deep Z x a=(x,a):=by
 cases Z with
 | zero=>rfl
 | succ Z=>rw[eE,Zaa (λk=>h k.1)]
theorem qT (h:x.au≠0):gQ G ax Z x a=(x,a):=by
 cases Z with
 | zero=>rfl
 | succ Z=>rw[gQ,Zaa (λk=>h k.1)]
theorem mv (h:x.au≠0\/bd G x 124=false):dZ G nD deep Z x a=(x,a):=by
 cases Z with
 | zero=>rfl
 | succ Z=>rw[dZ,Zaa (by grind)]
theorem Be (F:Fx G) (A:Iy G (deep+1) ax nD) (O:nz G ax):∀(n:Nat) (s t:Ps) (f:List (List Nd)),At G deep s t->s.ae<=4->Iz G deep (ff G ax n s f) (eE G nD deep n t f)
 | 0,s,t,f,h,m=>.inl (.inl ⟨h,rfl⟩)
 | n+1,s,t,f,h,m=>by
  unfold ff eE;rw[fW h.i,fW h.i,h.i];by_cases c1:s.i<G.length/\bd G s 124=false
  ·by_cases c2:bd G s 41
   ·rw[Zaa (λk:t.au=0/\_=>by grind)];by_cases c3:0<s.an
    ·rw[Zaa (λk=>k.2.2.2 ⟨c2,c3⟩)];exact .inl (.inl ⟨h,rfl⟩)
    ·rw[Zac ⟨h.e,c1.1,c1.2,λk=>c3 k.2⟩];have u:aN G s.i=41:=by grind [qS]
     have r:jG G ax s=(s.aA G s.i 4,[]):=by
      grind [jG]
     have er:fR G ax s=(s.aA G s.i 4,[]):=by
      unfold fR;simp only[r];rw[Zac (by rw[bW h.e];simp)]
     rw[er];rw[Bd (by rw[bW h.e];simp)];refine .inr ⟨by have:=h.o;omega,by rw[bW h.e],by rw[bW h.e];show _=aq G t.i;rw[h.i],h.e2,(fW h.i 41).trans c2⟩
   ·have g:bd G s 41=false:=by grind
    rw[Zac ⟨h.e,c1.1,c1.2,λk=>c2 k.1⟩,Zac ⟨h.e2,c1.1,c1.2,g⟩];have p:=Z2 F A h m c1.1;have c:=(x6 O c1.1 m).1.gm;generalize fR G ax s=a at p c ⊢;generalize tk G nD deep t=b at p ⊢;have⟨q,a2⟩:=a;have⟨b1,w⟩:=b;rcases p with⟨v,d⟩ | ⟨d,j,l⟩
    ·subst d;exact Be F A O n q b1 _ v c
    ·rw[Bd d,IA ω];exact .inl (.inr ⟨d,j,l⟩)
  ·rw[Zaa (λk=>c1 ⟨k.2.1,k.2.2.1⟩),Zaa (λk=>c1 ⟨k.2.1,k.2.2.1⟩)];exact .inl (.inl ⟨h,rfl⟩)
theorem E7 {α β:Type} {a b:Ps×α} (f:α->β) (h:Iz G deep a b):Iz G deep (a.1,f a.2) (b.1,f b.2):=by
 rcases h with(⟨h,c⟩ | h) | h
 ·exact .inl (.inl ⟨h,by grind⟩)
 ·exact .inl (.inr h)
 ·exact .inr h
def L9 (F:Fx G) (A:Iy G (deep+1) ax nD) (O:nz G ax) (h:At G deep s t) (a:s.ae<=4):Iz G deep (nw G ax s) (pr G nD deep t):=by
 unfold pr;rw[h.i];exact E7 (b9 3) (Be F A O _ s t [] h a)
theorem Bf (F:Fx G) (A:Iy G (deep+1) ax nD) (O:nz G ax):∀(n:Nat) (s t:Ps) (l:List (List Nd)),At G deep s t->s.ae<=4->Iz G deep (gQ G ax n s l) (dZ G nD deep n t l)
 | 0,s,t,l,h,m=>.inl (.inl ⟨h,rfl⟩)
 | n+1,s,t,l,h,m=>by
  unfold gQ dZ;rw[fW h.i];by_cases c1:bd G s 124
  ·rw[Zac ⟨h.e,c1⟩,Zac ⟨h.e2,c1⟩];have p:=h.next (g_ c1);have o:=L9 F A O p m;have j:=(nA O (s:=s.next) p.le m).1.gm;generalize nw G ax s.next=a at o j ⊢;generalize pr G nD deep t.next=b at o ⊢;have⟨q,a2⟩:=a;have⟨b1,u⟩:=b;rcases o with(⟨r,f⟩ | ⟨f,c,d⟩) | ⟨hd,f,c,d,he3⟩
   ·subst f;exact Bf F A O n q b1 _ r j
   ·rw[qT f,mv (.inl ω)];exact .inl (.inr ⟨f,c,d⟩)
   ·have g:bd G b1 124=false:=by
     grind [g_,qS]
    rw[qT ω,mv (.inr g)];exact .inr ⟨hd,f,c,d,he3⟩
  ·rw[Zaa (λk=>c1 k.2),Zaa (λk=>c1 k.2)];exact .inl (.inl ⟨h,rfl⟩)
theorem SO (F:Fx G) (A:Iy G (deep+1) ax nD) (O:nz G ax) (h:At G deep s t) (l:s.ae<=4):Iz G deep (E3 G ax s) (vA G nD deep t):=by
 have j:=L9 F A O h l;have g:=(nA O (s:=s) h.le l).1.gm;unfold E3 vA;simp only;generalize nw G ax s=a at j g ⊢;generalize pr G nD deep t=b at j ⊢;have⟨m,a2⟩:=a;have⟨b1,n⟩:=b;rcases j with(⟨k,e⟩ | ⟨e,c,d⟩) | ⟨hd,e,c,d,he3⟩
 ·subst e;rw[k.i];exact E7 (b9 4) (Bf F A O _ m b1 [n] k g)
 ·rw[qT e,mv (.inl ω)];exact .inl (.inr ⟨e,c,d⟩)
 ·have f:bd G b1 124=false:=by
   grind [g_,qS]
  rw[qT ω,mv (.inr f)];exact .inr ⟨hd,e,c,d,he3⟩
theorem L' (F:Fx G):∀(n deep:Nat) (s t:Ps),At G deep s t->s.ae<=4->Iz G deep (r6 G n s) (CU G n deep t)
 | 0,deep,s,t,h,a=>.inl (.inl ⟨h,rfl⟩)
 | n+1,deep,s,t,h,a=>by
  refine SO F (λs t h a=>?_) (wL n) h a;rcases L' F n (deep+1) s t h a with h1 | h1
  all_goals grind
def fin (G:List Gt) (a:Ps×List Nd):List Nd×Int×Int:=
 let s:=if a.1.au=0/\a.1.i<G.length then a.1.aA G a.1.i 4 else a.1
 if s.au≠0 then([],s.au,s.wh) else(a.2,0,0)
theorem x_ (a:x.au=0) (hi:x.i<G.length):fin G (x,b)=([],4,aq G x.i):=by grind [fin,Ps.aA]
theorem SP (a:x.au=0) (hi:¬x.i<G.length):fin G (x,b)=(b,0,0):=by grind [fin]
theorem L_ (a:x.au≠0):fin G (x,b)=([],x.au,x.wh):=by simp[fin,a]
theorem OF (F:Fx G):Iu G=x3 G:=by
 have h:=L' F 21 0 QX QX ⟨rfl,rfl,rfl,rfl,rfl,Zaj _⟩ (by decide);show fin G (CU G 21 0 QX)=fin G (r6 G 21 QX)
 generalize r6 G 21 QX=a at h ⊢;have⟨j,a2⟩:=a;rcases h with(⟨b,d⟩ | ⟨d,f,g⟩) | ⟨hd,d,f,g,he3⟩
 ·subst d;by_cases c:j.i<G.length
  ·rw[x_ b.e2 (by rw[b.i];exact c),x_ b.e c,b.i]
  ·rw[SP b.e2 (by rw[b.i];exact c),SP b.e c]
 ·grind [L_]
 ·grind [x_,g_,L_]
end
end syn
namespace sx
open Go Go.RowKit cls
open syn (Nd Gt)
noncomputable section
structure a7 where
 pc:Int
 c0:Int
 c1:Int
 c2:Int
 c3:Int
 c4:Int
 c5:Int
 c6:Int
 c7:Int
 c8:Int
 c9:Int
structure db where
 done:Bool
 c0:Int
 c1:Int
 c2:Int
 c3:Int
 c4:Int
 c5:Int
 c6:Int
 c7:Int
 c8:Int
 c9:Int
 aU:List a7
structure mw where
 name:List UInt8
 text:List UInt8
structure cH where
 kind:Int
 pos:Int
 Aa:Int
 c0:Int
 c1:Int
 c2:Int
 c3:Int
 c4:Int
 c5:Int
 c6:Int
 c7:Int
 c8:Int
 c9:Int
structure a8 where
 op:Int
 x:Int
 y:Int
 bz:List Rg
structure Z3 where
 c0:Int
 c1:Int
 c2:Int
 c3:Int
 c4:Int
 c5:Int
 c6:Int
 c7:Int
 c8:Int
 c9:Int
inductive ah where
 | mk (op:Int) (r:List Rg) (mn:Int) (mx:Int) (lz:Bool) (cap:Int) (nk:Int) (af:List ah)
def ah.op (x:ah):Int:=match x with
 | .mk a _ _ _ _ _ _ _=>a
def ah.r (x:ah):List Rg:=match x with
 | .mk _ a _ _ _ _ _ _=>a
def ah.mn (x:ah):Int:=match x with
 | .mk _ _ a _ _ _ _ _=>a
def ah.mx (x:ah):Int:=match x with
 | .mk _ _ _ a _ _ _ _=>a
def ah.lz (x:ah):Bool:=match x with
 | .mk _ _ _ _ a _ _ _=>a
def ah.cap (x:ah):Int:=match x with
 | .mk _ _ _ _ _ a _ _=>a
def ah.nk (x:ah):Int:=match x with
 | .mk _ _ _ _ _ _ a _=>a
def ah.af (x:ah):List ah:=match x with
 | .mk _ _ _ _ _ _ _ a=>a
structure Row where
 k:List UInt8
 v:Int
structure Item where
 i:Int
 x:Bool
structure mN where
 piece:List UInt8
 times:Int
 nE:Bool
def El (c:Nat):Type:=match c with
 | 0=>UInt8
 | 1=>a7
 | 2=>db
 | 3=>mw
 | 4=>cH
 | 5=>Int
 | 6=>Rg
 | 7=>Nd
 | 8=>a8
 | 9=>List Nd
 | 10=>List UInt8
 | 11=>Z3
 | 12=>List db
 | 13=>Gt
 | 14=>Int
 | 15=>ah
 | 16=>Row
 | 17=>Bool
 | 18=>Item
 | 19=>mN
 | _=>Unit
def szD (c:Nat):Nat:=match c with
 | 0=>1
 | 1=>11
 | 2=>12
 | 3=>2
 | 4=>13
 | 5=>1
 | 6=>2
 | 7=>7
 | 8=>4
 | 9=>1
 | 10=>1
 | 11=>10
 | 12=>1
 | 13=>2
 | 14=>1
 | 15=>8
 | 16=>2
 | 17=>1
 | 18=>2
 | 19=>3
 | _=>1
def eQ (c:Nat):El c->List (AV El):=match c with
 | 0=>λ(x:UInt8)=>[.int .u8 x.toNat]
 | 1=>λ(x:a7)=>[.int .i64 x.pc,.int .i64 x.c0,.int .i64 x.c1,.int .i64 x.c2,.int .i64 x.c3,.int .i64 x.c4,.int .i64 x.c5,.int .i64 x.c6,.int .i64 x.c7,.int .i64 x.c8,.int .i64 x.c9]
 | 2=>λ(x:db)=>[.bool x.done,.int .i64 x.c0,.int .i64 x.c1,.int .i64 x.c2,.int .i64 x.c3,.int .i64 x.c4,.int .i64 x.c5,.int .i64 x.c6,.int .i64 x.c7,.int .i64 x.c8,.int .i64 x.c9,.list 1 x.aU]
 | 3=>λ(x:mw)=>[.str x.name,.str x.text]
 | 4=>λ(x:cH)=>[.int .i64 x.kind,.int .i64 x.pos,.int .i64 x.Aa,.int .i64 x.c0,.int .i64 x.c1,.int .i64 x.c2,.int .i64 x.c3,.int .i64 x.c4,.int .i64 x.c5,.int .i64 x.c6,.int .i64 x.c7,.int .i64 x.c8,.int .i64 x.c9]
 | 5=>λ(x:Int)=>[.int .i64 x]
 | 6=>λ(x:Rg)=>[.int .i32 x.1,.int .i32 x.2]
 | 7=>λ(x:Nd)=>[.int .i64 x.op,.list 6 x.r,.int .i64 x.mn,.int .i64 x.mx,.bool x.lz,.int .i64 x.cap,.int .i64 x.af]
 | 8=>λ(x:a8)=>[.int .i64 x.op,.int .i64 x.x,.int .i64 x.y,.list 6 x.bz]
 | 9=>λ(x:List Nd)=>[.list 7 x]
 | 10=>λ(x:List UInt8)=>[.str x]
 | 11=>λ(x:Z3)=>[.int .i64 x.c0,.int .i64 x.c1,.int .i64 x.c2,.int .i64 x.c3,.int .i64 x.c4,.int .i64 x.c5,.int .i64 x.c6,.int .i64 x.c7,.int .i64 x.c8,.int .i64 x.c9]
 | 12=>λ(x:List db)=>[.list 2 x]
 | 13=>λ(x:Gt)=>[.int .i32 x.1,.int .i64 x.2]
 | 14=>λ(x:Int)=>[.int .i32 x]
 | 15=>λ(x:ah)=>[.int .i64 x.op,.list 6 x.r,.int .i64 x.mn,.int .i64 x.mx,.bool x.lz,.int .i64 x.cap,.int .i64 x.nk,.list 15 x.af]
 | 16=>λ(x:Row)=>[.str x.k,.int .i64 x.v]
 | 17=>λ(x:Bool)=>[.bool x]
 | 18=>λ(x:Item)=>[.int .i64 x.i,.bool x.x]
 | 19=>λ(x:mN)=>[.str x.piece,.int .i64 x.times,.bool x.nE]
 | _=>λ_=>[.int .i64 0]
def cT (k:IntKind) (v:AV El):Option Int:=match v with
 | .int a n=>oI (Cj k a) (some n)
 | .num a n=>oI (Cj k a) (some n)
 | _=>none
def E9 (v:AV El):Option Bool:=match v with
 | .bool b=>some b
 | .lit b=>some b
 | _=>none
def IB (v:AV El):Option (List UInt8):=match v with
 | .str s=>some s
 | _=>none
def Ma (c a:Nat) (xs:List (El a)):Option (List (El c)):=Decidable.rec (motive:=λ_=>Option (List (El c))) (λ_=>none) (λh=>some (Eq.rec (motive:=λc _=>List (El c)) xs h)) (Nat.decEq a c)
def CW (c:Nat) (v:AV El):Option (List (El c)):=match v with
 | .list a xs=>Ma c a xs
 | .grow a xs _=>Ma c a xs
 | .dc=>some []
 | _=>none
def b8 (n:Int):UInt8:=UInt8.ofNat n.toNat
def Qf6 (l:List (AV El)):Option (El 0):=match l with
 | [a0]=>oB (cT .u8 a0) λa0=>some (b8 a0)
 | _=>none
def OG (l:List (AV El)):Option (El 1):=match l with
 | [a0,b,a2,a3,a4,a5,c,d,e,a9,a]=>oB (cT .i64 a0) λa0=>oB (cT .i64 b) λb=>oB (cT .i64 a2) λa2=>oB (cT .i64 a3) λa3=>oB (cT .i64 a4) λa4=>oB (cT .i64 a5) λa5=>oB (cT .i64 c) λc=>oB (cT .i64 d) λd=>oB (cT .i64 e) λe=>oB (cT .i64 a9) λa9=>oB (cT .i64 a) λa=>some (a7.mk a0 b a2 a3 a4 a5 c d e a9 a)
 | _=>none
def OH (l:List (AV El)):Option (El 2):=match l with
 | [a0,c,a2,a3,a4,a5,d,e,f,a9,a,b]=>oB (E9 a0) λa0=>oB (cT .i64 c) λc=>oB (cT .i64 a2) λa2=>oB (cT .i64 a3) λa3=>oB (cT .i64 a4) λa4=>oB (cT .i64 a5) λa5=>oB (cT .i64 d) λd=>oB (cT .i64 e) λe=>oB (cT .i64 f) λf=>oB (cT .i64 a9) λa9=>oB (cT .i64 a) λa=>oB (CW 1 b) λb=>some (db.mk a0 c a2 a3 a4 a5 d e f a9 a b)
 | _=>none
def SQ (l:List (AV El)):Option (El 3):=match l with
 | [a0,a]=>oB (IB a0) λa0=>oB (IB a) λa=>some (mw.mk a0 a)
 | _=>none
def Qf7 (l:List (AV El)):Option (El 4):=match l with
 | [a0,c,a2,a3,a4,a5,d,e,f,a9,a,b,a12]=>oB (cT .i64 a0) λa0=>oB (cT .i64 c) λc=>oB (cT .i64 a2) λa2=>oB (cT .i64 a3) λa3=>oB (cT .i64 a4) λa4=>oB (cT .i64 a5) λa5=>oB (cT .i64 d) λd=>oB (cT .i64 e) λe=>oB (cT .i64 f) λf=>oB (cT .i64 a9) λa9=>oB (cT .i64 a) λa=>oB (cT .i64 b) λb=>oB (cT .i64 a12) λa12=>some (cH.mk a0 c a2 a3 a4 a5 d e f a9 a b a12)
 | _=>none
def Qf8 (l:List (AV El)):Option (El 5):=match l with
 | [a0]=>oB (cT .i64 a0) λa0=>some a0
 | _=>none
def Qf9 (l:List (AV El)):Option (El 6):=match l with
 | [a0,a]=>oB (cT .i32 a0) λa0=>oB (cT .i32 a) λa=>some (Prod.mk a0 a)
 | _=>none
def Qga (l:List (AV El)):Option (El 7):=match l with
 | [a0,a,a2,a3,a4,a5,b]=>oB (cT .i64 a0) λa0=>oB (CW 6 a) λa=>oB (cT .i64 a2) λa2=>oB (cT .i64 a3) λa3=>oB (E9 a4) λa4=>oB (cT .i64 a5) λa5=>oB (cT .i64 b) λb=>some (Nd.mk a0 a a2 a3 a4 a5 b)
 | _=>none
def Qgb (l:List (AV El)):Option (El 8):=match l with
 | [a0,a,a2,a3]=>oB (cT .i64 a0) λa0=>oB (cT .i64 a) λa=>oB (cT .i64 a2) λa2=>oB (CW 6 a3) λa3=>some (a8.mk a0 a a2 a3)
 | _=>none
def Qgc (l:List (AV El)):Option (El 9):=match l with
 | [a0]=>oB (CW 7 a0) λa0=>some a0
 | _=>none
def SR (l:List (AV El)):Option (El 10):=match l with
 | [a0]=>oB (IB a0) λa0=>some a0
 | _=>none
def SS (l:List (AV El)):Option (El 11):=match l with
 | [a0,a,a2,a3,a4,a5,b,c,d,a9]=>oB (cT .i64 a0) λa0=>oB (cT .i64 a) λa=>oB (cT .i64 a2) λa2=>oB (cT .i64 a3) λa3=>oB (cT .i64 a4) λa4=>oB (cT .i64 a5) λa5=>oB (cT .i64 b) λb=>oB (cT .i64 c) λc=>oB (cT .i64 d) λd=>oB (cT .i64 a9) λa9=>some (Z3.mk a0 a a2 a3 a4 a5 b c d a9)
 | _=>none
def SU (l:List (AV El)):Option (El 12):=match l with
 | [a0]=>oB (CW 2 a0) λa0=>some a0
 | _=>none
def SV (l:List (AV El)):Option (El 13):=match l with
 | [a0,a]=>oB (cT .i32 a0) λa0=>oB (cT .i64 a) λa=>some (Prod.mk a0 a)
 | _=>none
def SX (l:List (AV El)):Option (El 14):=match l with
 | [a0]=>oB (cT .i32 a0) λa0=>some a0
 | _=>none
def SY (l:List (AV El)):Option (El 15):=match l with
 | [a0,a,a2,a3,a4,a5,b,c]=>oB (cT .i64 a0) λa0=>oB (CW 6 a) λa=>oB (cT .i64 a2) λa2=>oB (cT .i64 a3) λa3=>oB (E9 a4) λa4=>oB (cT .i64 a5) λa5=>oB (cT .i64 b) λb=>oB (CW 15 c) λc=>some (ah.mk a0 a a2 a3 a4 a5 b c)
 | _=>none
def SZ (l:List (AV El)):Option (El 16):=match l with
 | [a0,a]=>oB (IB a0) λa0=>oB (cT .i64 a) λa=>some (Row.mk a0 a)
 | _=>none
def S0 (l:List (AV El)):Option (El 17):=match l with
 | [a0]=>oB (E9 a0) λa0=>some a0
 | _=>none
def S1 (l:List (AV El)):Option (El 18):=match l with
 | [a0,a]=>oB (cT .i64 a0) λa0=>oB (E9 a) λa=>some (Item.mk a0 a)
 | _=>none
def S2 (l:List (AV El)):Option (El 19):=match l with
 | [a0,a,a2]=>oB (IB a0) λa0=>oB (cT .i64 a) λa=>oB (E9 a2) λa2=>some (mN.mk a0 a a2)
 | _=>none
def QqZ (c:Nat) (l:List (AV El)):Option (El c):=match c with
 | 0=>Qf6 l
 | 1=>OG l
 | 2=>OH l
 | 3=>SQ l
 | 4=>Qf7 l
 | 5=>Qf8 l
 | 6=>Qf9 l
 | 7=>Qga l
 | 8=>Qgb l
 | 9=>Qgc l
 | 10=>SR l
 | 11=>SS l
 | 12=>SU l
 | 13=>SV l
 | 14=>SX l
 | 15=>SY l
 | 16=>SZ l
 | 17=>S0 l
 | 18=>S1 l
 | 19=>S2 l
 | _=>none
def Qq0 (c:Nat):El c:=match c with
 | 0=>(0:UInt8)
 | 1=>a7.mk 0 0 0 0 0 0 0 0 0 0 0
 | 2=>db.mk false 0 0 0 0 0 0 0 0 0 0 []
 | 3=>mw.mk [] []
 | 4=>cH.mk 0 0 0 0 0 0 0 0 0 0 0 0 0
 | 5=>(0:Int)
 | 6=>Prod.mk 0 0
 | 7=>Nd.mk 0 [] 0 0 false 0 0
 | 8=>a8.mk 0 0 0 []
 | 9=>([]:List Nd)
 | 10=>([]:List UInt8)
 | 11=>Z3.mk 0 0 0 0 0 0 0 0 0 0
 | 12=>([]:List db)
 | 13=>Prod.mk 0 0
 | 14=>(0:Int)
 | 15=>ah.mk 0 [] 0 0 false 0 0 []
 | 16=>Row.mk [] 0
 | 17=>(false:Bool)
 | 18=>Item.mk 0 false
 | 19=>mN.mk [] 0 false
 | (_+20)=>()
def D:Data:=⟨El,szD,eQ,QqZ,Qq0,0,λxs=>xs,λxs=>xs,0,λ_=>True,λ_ _ _ h=>h⟩
end
section
variable {M:Pm D} {v:AV D.E} {val:Value}
def aV {k:IntKind} {n:Int} (h:cT k v=some n) (c:VR M v val):VR M (.int k n:AV D.E) val/\lf k n:=by
 cases c<;>simp only[cT] at h<;>(try (cases h;done))
 case int d e a=>
  obtain⟨h1,b⟩:=mh.1 h;cases b;rw[gC.1 h1];exact⟨.int a,a⟩
 case num d e a=>
  obtain⟨h1,b⟩:=mh.1 h;cases b;rw[gC.1 h1];exact⟨.int a,a⟩
def qU {b:Bool} (h:E9 v=some b) (a:VR M v val):VR M (.bool b:AV D.E) val:=by
 cases a<;>simp only[E9] at h<;>(try (cases h;done))
 ·cases h;exact .bool _
 ·cases h;exact .bool _
def tm {s:List UInt8} (h:IB v=some s) (a:VR M v val):VR M (.str s:AV D.E) val:=by
 cases a<;>simp only[IB] at h<;>(try (cases h;done));cases h;exact .str (by assumption)
theorem ya {c a:Nat} {xs:List (El a)} {d:List (El c)} (h:Ma c a xs=some d):∃e:a=c,e▸xs=d:=by
 unfold Ma at h;cases b:Nat.decEq a c with
 | isFalse g=>rw[b] at h;cases h
 | isTrue f=>rw[b] at h;subst f;exact⟨rfl,ZbN h⟩
def oC {c:Nat} {xs:List (El c)} (h:CW c v=some xs) (a:VR M v val):VR M (.list c xs:AV D.E) val:=by
 cases v<;>simp only[CW] at h<;>(try (cases h;done))
 ·cases h;cases a;exact .fw
 ·obtain⟨rfl,rfl⟩:=ya h;cases a with
  | grow h e hl hz hs d b ht=>exact .list hs d b
  | kF h e=>exact .fw
 ·obtain⟨rfl,rfl⟩:=ya h;exact a
def pW {n:Int} (h:lf .u8 n):((b8 n).toNat:Int)=n:=by
 rw[cY] at h;simp only[D1,ue] at h;unfold b8;rw[UInt8.toNat_ofNat'];omega
def kh (row bm:List (AV D.E)):Prop:=row.length=bm.length/\∀(j:Nat) (a b:AV D.E),row[j]?=some a->bm[j]?=some b->∀(M:Pm D) (v:Value),VR M a v->VR (D:=D) M b v
theorem kh.nil:kh [] []:=⟨rfl,λj a b h=>by simp at h⟩
def kh.cons {a c:AV D.E} {r e:List (AV D.E)} (h:∀(M:Pm D) (v:Value),VR M a v->VR (D:=D) M c v) (d:kh r e):kh (a::r) (c::e):=
 ⟨by simp[d.1],λj x f b e2=>by
  cases j with
  | zero=>simp at b e2;subst b;subst e2;exact h
  | succ j=>exact d.2 j x f (by simpa using b) (by simpa using e2)⟩
end
variable {Z:List (AV El)}
def Z4 {x:El 0} (h:Qf6 Z=some x):kh Z (eQ 0 x):=by
 unfold Qf6 at h;split at h
 ·rename_i a0
  obtain⟨x0,a,h⟩:=aJ.1 h;cases h;exact .cons (λM v c=>by
   obtain⟨h1,b⟩:=aV a c;show VR M (.int .u8 ((b8 x0).toNat:Int)) v
   rw[pW b];exact h1) .nil
 ·cases h
def Z5 {x:El 1} (h:OG Z=some x):kh Z (eQ 1 x):=by
 unfold OG at h;split at h
 ·rename_i a0 n a2 a3 a4 a5 o p q a9 c
  obtain⟨x0,d,h⟩:=aJ.1 h;obtain⟨x1,e,h⟩:=aJ.1 h;obtain⟨r,e2,h⟩:=aJ.1 h;obtain⟨s,f,h⟩:=aJ.1 h;obtain⟨t,g,h⟩:=aJ.1 h;obtain⟨u,i,h⟩:=aJ.1 h;obtain⟨v,j,h⟩:=aJ.1 h;obtain⟨w,k,h⟩:=aJ.1 h;obtain⟨y,e8,h⟩:=aJ.1 h;obtain⟨z,l,h⟩:=aJ.1 h;obtain⟨m,b,h⟩:=aJ.1 h;cases h;exact .cons (λ_ _ a=>(aV d a).1) (.cons (λ_ _ a=>(aV e a).1) (.cons (λ_ _ a=>(aV e2 a).1) (.cons (λ_ _ a=>(aV f a).1) (.cons (λ_ _ a=>(aV g a).1) (.cons (λ_ _ a=>(aV i a).1) (.cons (λ_ _ a=>(aV j a).1) (.cons (λ_ _ a=>(aV k a).1) (.cons (λ_ _ a=>(aV e8 a).1) (.cons (λ_ _ a=>(aV l a).1) (.cons (λ_ _ a=>(aV b a).1) .nil))))))))))
 ·cases h
def Z6 {x:El 2} (h:OH Z=some x):kh Z (eQ 2 x):=by
 unfold OH at h;split at h
 ·rename_i a0 q a2 a3 a4 a5 r s t a9 d e
  obtain⟨x0,f,h⟩:=aJ.1 h;obtain⟨x1,g,h⟩:=aJ.1 h;obtain⟨u,e2,h⟩:=aJ.1 h;obtain⟨v,i,h⟩:=aJ.1 h;obtain⟨w,j,h⟩:=aJ.1 h;obtain⟨y,k,h⟩:=aJ.1 h;obtain⟨z,l,h⟩:=aJ.1 h;obtain⟨A,m,h⟩:=aJ.1 h;obtain⟨B,e8,h⟩:=aJ.1 h;obtain⟨C,n,h⟩:=aJ.1 h;obtain⟨o,b,h⟩:=aJ.1 h;obtain⟨p,c,h⟩:=aJ.1 h;cases h;exact .cons (λ_ _ a=>qU f a) (.cons (λ_ _ a=>(aV g a).1) (.cons (λ_ _ a=>(aV e2 a).1) (.cons (λ_ _ a=>(aV i a).1) (.cons (λ_ _ a=>(aV j a).1) (.cons (λ_ _ a=>(aV k a).1) (.cons (λ_ _ a=>(aV l a).1) (.cons (λ_ _ a=>(aV m a).1) (.cons (λ_ _ a=>(aV e8 a).1) (.cons (λ_ _ a=>(aV n a).1) (.cons (λ_ _ a=>(aV b a).1) (.cons (λ_ _ a=>oC c a) .nil)))))))))))
 ·cases h
def Z7 {x:El 3} (h:SQ Z=some x):kh Z (eQ 3 x):=by
 unfold SQ at h;split at h
 ·rename_i a0 d
  obtain⟨x0,b,h⟩:=aJ.1 h;obtain⟨x1,c,h⟩:=aJ.1 h;cases h;exact .cons (λ_ _ a=>tm b a) (.cons (λ_ _ a=>tm c a) .nil)
 ·cases h
def Z8 {x:El 4} (h:Qf7 Z=some x):kh Z (eQ 4 x):=by
 unfold Qf7 at h;split at h
 ·rename_i a0 s a2 a3 a4 a5 t u v a9 e f a12
  obtain⟨x0,g,h⟩:=aJ.1 h;obtain⟨x1,i,h⟩:=aJ.1 h;obtain⟨w,e2,h⟩:=aJ.1 h;obtain⟨y,j,h⟩:=aJ.1 h;obtain⟨z,k,h⟩:=aJ.1 h;obtain⟨A,l,h⟩:=aJ.1 h;obtain⟨B,m,h⟩:=aJ.1 h;obtain⟨C,n,h⟩:=aJ.1 h;obtain⟨D,e8,h⟩:=aJ.1 h;obtain⟨E,o,h⟩:=aJ.1 h;obtain⟨p,b,h⟩:=aJ.1 h;obtain⟨q,c,h⟩:=aJ.1 h;obtain⟨r,d,h⟩:=aJ.1 h;cases h;exact .cons (λ_ _ a=>(aV g a).1) (.cons (λ_ _ a=>(aV i a).1) (.cons (λ_ _ a=>(aV e2 a).1) (.cons (λ_ _ a=>(aV j a).1) (.cons (λ_ _ a=>(aV k a).1) (.cons (λ_ _ a=>(aV l a).1) (.cons (λ_ _ a=>(aV m a).1) (.cons (λ_ _ a=>(aV n a).1) (.cons (λ_ _ a=>(aV e8 a).1) (.cons (λ_ _ a=>(aV o a).1) (.cons (λ_ _ a=>(aV b a).1) (.cons (λ_ _ a=>(aV c a).1) (.cons (λ_ _ a=>(aV d a).1) .nil))))))))))))
 ·cases h
def Z9 {x:El 5} (h:Qf8 Z=some x):kh Z (eQ 5 x):=by
 unfold Qf8 at h;split at h
 ·rename_i a0
  obtain⟨x0,a,h⟩:=aJ.1 h;cases h;exact .cons (λ_ _ b=>(aV a b).1) .nil
 ·cases h
def Z' {x:El 6} (h:Qf9 Z=some x):kh Z (eQ 6 x):=by
 unfold Qf9 at h;split at h
 ·rename_i a0 d
  obtain⟨x0,b,h⟩:=aJ.1 h;obtain⟨x1,c,h⟩:=aJ.1 h;cases h;exact .cons (λ_ _ a=>(aV b a).1) (.cons (λ_ _ a=>(aV c a).1) .nil)
 ·cases h
def Z_ {x:El 7} (h:Qga Z=some x):kh Z (eQ 7 x):=by
 unfold Qga at h;split at h
 ·rename_i a0 i a2 a3 a4 a5 j
  obtain⟨x0,b,h⟩:=aJ.1 h;obtain⟨x1,c,h⟩:=aJ.1 h;obtain⟨k,e2,h⟩:=aJ.1 h;obtain⟨l,d,h⟩:=aJ.1 h;obtain⟨m,e,h⟩:=aJ.1 h;obtain⟨n,f,h⟩:=aJ.1 h;obtain⟨o,g,h⟩:=aJ.1 h;cases h;exact .cons (λ_ _ a=>(aV b a).1) (.cons (λ_ _ a=>oC c a) (.cons (λ_ _ a=>(aV e2 a).1) (.cons (λ_ _ a=>(aV d a).1) (.cons (λ_ _ a=>qU e a) (.cons (λ_ _ a=>(aV f a).1) (.cons (λ_ _ a=>(aV g a).1) .nil))))))
 ·cases h
def δ {x:El 8} (h:Qgb Z=some x):kh Z (eQ 8 x):=by
 unfold Qgb at h;split at h
 ·rename_i a0 e a2 a3
  obtain⟨x0,b,h⟩:=aJ.1 h;obtain⟨x1,c,h⟩:=aJ.1 h;obtain⟨f,e2,h⟩:=aJ.1 h;obtain⟨g,d,h⟩:=aJ.1 h;cases h;exact .cons (λ_ _ a=>(aV b a).1) (.cons (λ_ _ a=>(aV c a).1) (.cons (λ_ _ a=>(aV e2 a).1) (.cons (λ_ _ a=>oC d a) .nil)))
 ·cases h
def ε {x:El 9} (h:Qgc Z=some x):kh Z (eQ 9 x):=by
 unfold Qgc at h;split at h
 ·rename_i a0
  obtain⟨x0,a,h⟩:=aJ.1 h;cases h;exact .cons (λ_ _ b=>oC a b) .nil
 ·cases h
def S3 {x:El 10} (h:SR Z=some x):kh Z (eQ 10 x):=by
 unfold SR at h;split at h
 ·rename_i a0
  obtain⟨x0,a,h⟩:=aJ.1 h;cases h;exact .cons (λ_ _ b=>tm a b) .nil
 ·cases h
def S4 {x:El 11} (h:SS Z=some x):kh Z (eQ 11 x):=by
 unfold SS at h;split at h
 ·rename_i a0 k a2 a3 a4 a5 l m n a9
  obtain⟨x0,b,h⟩:=aJ.1 h;obtain⟨x1,c,h⟩:=aJ.1 h;obtain⟨o,e2,h⟩:=aJ.1 h;obtain⟨p,d,h⟩:=aJ.1 h;obtain⟨q,e,h⟩:=aJ.1 h;obtain⟨r,f,h⟩:=aJ.1 h;obtain⟨s,g,h⟩:=aJ.1 h;obtain⟨t,i,h⟩:=aJ.1 h;obtain⟨u,e8,h⟩:=aJ.1 h;obtain⟨v,j,h⟩:=aJ.1 h;cases h;exact .cons (λ_ _ a=>(aV b a).1) (.cons (λ_ _ a=>(aV c a).1) (.cons (λ_ _ a=>(aV e2 a).1) (.cons (λ_ _ a=>(aV d a).1) (.cons (λ_ _ a=>(aV e a).1) (.cons (λ_ _ a=>(aV f a).1) (.cons (λ_ _ a=>(aV g a).1) (.cons (λ_ _ a=>(aV i a).1) (.cons (λ_ _ a=>(aV e8 a).1) (.cons (λ_ _ a=>(aV j a).1) .nil)))))))))
 ·cases h
def S5 {x:El 12} (h:SU Z=some x):kh Z (eQ 12 x):=by
 unfold SU at h;split at h
 ·rename_i a0
  obtain⟨x0,a,h⟩:=aJ.1 h;cases h;exact .cons (λ_ _ b=>oC a b) .nil
 ·cases h
def S6 {x:El 13} (h:SV Z=some x):kh Z (eQ 13 x):=by
 unfold SV at h;split at h
 ·rename_i a0 d
  obtain⟨x0,b,h⟩:=aJ.1 h;obtain⟨x1,c,h⟩:=aJ.1 h;cases h;exact .cons (λ_ _ a=>(aV b a).1) (.cons (λ_ _ a=>(aV c a).1) .nil)
 ·cases h
def S7 {x:El 14} (h:SX Z=some x):kh Z (eQ 14 x):=by
 unfold SX at h;split at h
 ·rename_i a0
  obtain⟨x0,a,h⟩:=aJ.1 h;cases h;exact .cons (λ_ _ b=>(aV a b).1) .nil
 ·cases h
def S8 {x:El 15} (h:SY Z=some x):kh Z (eQ 15 x):=by
 unfold SY at h;split at h
 ·rename_i a0 j a2 a3 a4 a5 k l
  obtain⟨x0,b,h⟩:=aJ.1 h;obtain⟨x1,c,h⟩:=aJ.1 h;obtain⟨m,e2,h⟩:=aJ.1 h;obtain⟨n,d,h⟩:=aJ.1 h;obtain⟨o,e,h⟩:=aJ.1 h;obtain⟨p,f,h⟩:=aJ.1 h;obtain⟨q,g,h⟩:=aJ.1 h;obtain⟨r,i,h⟩:=aJ.1 h;cases h;exact .cons (λ_ _ a=>(aV b a).1) (.cons (λ_ _ a=>oC c a) (.cons (λ_ _ a=>(aV e2 a).1) (.cons (λ_ _ a=>(aV d a).1) (.cons (λ_ _ a=>qU e a) (.cons (λ_ _ a=>(aV f a).1) (.cons (λ_ _ a=>(aV g a).1) (.cons (λ_ _ a=>oC i a) .nil)))))))
 ·cases h
def S9 {x:El 16} (h:SZ Z=some x):kh Z (eQ 16 x):=by
 unfold SZ at h;split at h
 ·rename_i a0 d
  obtain⟨x0,b,h⟩:=aJ.1 h;obtain⟨x1,c,h⟩:=aJ.1 h;cases h;exact .cons (λ_ _ a=>tm b a) (.cons (λ_ _ a=>(aV c a).1) .nil)
 ·cases h
def S' {x:El 17} (h:S0 Z=some x):kh Z (eQ 17 x):=by
 unfold S0 at h;split at h
 ·rename_i a0
  obtain⟨x0,a,h⟩:=aJ.1 h;cases h;exact .cons (λ_ _ b=>qU a b) .nil
 ·cases h
def S_ {x:El 18} (h:S1 Z=some x):kh Z (eQ 18 x):=by
 unfold S1 at h;split at h
 ·rename_i a0 d
  obtain⟨x0,b,h⟩:=aJ.1 h;obtain⟨x1,c,h⟩:=aJ.1 h;cases h;exact .cons (λ_ _ a=>(aV b a).1) (.cons (λ_ _ a=>qU c a) .nil)
 ·cases h
def Ta {x:El 19} (h:S2 Z=some x):kh Z (eQ 19 x):=by
 unfold S2 at h;split at h
 ·rename_i a0 d a2
  obtain⟨x0,b,h⟩:=aJ.1 h;obtain⟨x1,c,h⟩:=aJ.1 h;obtain⟨e,e2,h⟩:=aJ.1 h;cases h;exact .cons (λ_ _ a=>tm b a) (.cons (λ_ _ a=>(aV c a).1) (.cons (λ_ _ a=>qU e2 a) .nil))
 ·cases h
def mP {l:List (AV D.E)} (h:j7 (λv=>one v&&nh (D:=D) v) l):∀v∈l,one v/\nh v:=λv a=>by
 have:=ew.1 h v a;simpa using this
theorem iX:bb D where
 len:=λc x=>by
  show(eQ c x).length=szD c
  match c,x with
  | 0,x=>rfl
  | 1,x=>rfl
  | 2,x=>rfl
  | 3,x=>rfl
  | 4,x=>rfl
  | 5,x=>rfl
  | 6,x=>rfl
  | 7,x=>rfl
  | 8,x=>rfl
  | 9,x=>rfl
  | 10,x=>rfl
  | 11,x=>rfl
  | 12,x=>rfl
  | 13,x=>rfl
  | 14,x=>rfl
  | 15,x=>rfl
  | 16,x=>rfl
  | 17,x=>rfl
  | 18,x=>rfl
  | 19,x=>rfl
  | _+20,x=>rfl
 one:=λc x=>by
  show ∀v∈eQ c x,one v/\nh (D:=D) v
  match c,x with
  | 0,x=>intro v a;exact mP (l:=eQ 0 x) (by rfl) v a
  | 1,x=>intro v a;exact mP (l:=eQ 1 x) (by rfl) v a
  | 2,x=>intro v a;exact mP (l:=eQ 2 x) (by rfl) v a
  | 3,x=>intro v a;exact mP (l:=eQ 3 x) (by rfl) v a
  | 4,x=>intro v a;exact mP (l:=eQ 4 x) (by rfl) v a
  | 5,x=>intro v a;exact mP (l:=eQ 5 x) (by rfl) v a
  | 6,x=>intro v a;exact mP (l:=eQ 6 x) (by rfl) v a
  | 7,x=>intro v a;exact mP (l:=eQ 7 x) (by rfl) v a
  | 8,x=>intro v a;exact mP (l:=eQ 8 x) (by rfl) v a
  | 9,x=>intro v a;exact mP (l:=eQ 9 x) (by rfl) v a
  | 10,x=>intro v a;exact mP (l:=eQ 10 x) (by rfl) v a
  | 11,x=>intro v a;exact mP (l:=eQ 11 x) (by rfl) v a
  | 12,x=>intro v a;exact mP (l:=eQ 12 x) (by rfl) v a
  | 13,x=>intro v a;exact mP (l:=eQ 13 x) (by rfl) v a
  | 14,x=>intro v a;exact mP (l:=eQ 14 x) (by rfl) v a
  | 15,x=>intro v a;exact mP (l:=eQ 15 x) (by rfl) v a
  | 16,x=>intro v a;exact mP (l:=eQ 16 x) (by rfl) v a
  | 17,x=>intro v a;exact mP (l:=eQ 17 x) (by rfl) v a
  | 18,x=>intro v a;exact mP (l:=eQ 18 x) (by rfl) v a
  | 19,x=>intro v a;exact mP (l:=eQ 19 x) (by rfl) v a
  | _+20,x=>intro v a;exact mP (l:=[.int .i64 0]) (by rfl) v a
 dec:=λc row x h=>by
  have key:kh row (eQ c x):=by
   match c,x,h with
   | 0,x,h=>exact Z4 h
   | 1,x,h=>exact Z5 h
   | 2,x,h=>exact Z6 h
   | 3,x,h=>exact Z7 h
   | 4,x,h=>exact Z8 h
   | 5,x,h=>exact Z9 h
   | 6,x,h=>exact Z' h
   | 7,x,h=>exact Z_ h
   | 8,x,h=>exact δ h
   | 9,x,h=>exact ε h
   | 10,x,h=>exact S3 h
   | 11,x,h=>exact S4 h
   | 12,x,h=>exact S5 h
   | 13,x,h=>exact S6 h
   | 14,x,h=>exact S7 h
   | 15,x,h=>exact S8 h
   | 16,x,h=>exact S9 h
   | 17,x,h=>exact S' h
   | 18,x,h=>exact S_ h
   | 19,x,h=>exact Ta h
   | _+20,x,h=>cases(show none=some x from h)
  have hl:(eQ c x).length=szD c:=by
   match c,x with
   | 0,x=>rfl
   | 1,x=>rfl
   | 2,x=>rfl
   | 3,x=>rfl
   | 4,x=>rfl
   | 5,x=>rfl
   | 6,x=>rfl
   | 7,x=>rfl
   | 8,x=>rfl
   | 9,x=>rfl
   | 10,x=>rfl
   | 11,x=>rfl
   | 12,x=>rfl
   | 13,x=>rfl
   | 14,x=>rfl
   | 15,x=>rfl
   | 16,x=>rfl
   | 17,x=>rfl
   | 18,x=>rfl
   | 19,x=>rfl
   | _+20,x=>rfl
  exact⟨key.1.trans hl,key.2⟩
 b1:=rfl
 bl:=λ_=>rfl
 be:=λ_ _ _=>rfl
 bo:=λ_=>rfl
end sx
namespace sx
open Go Go.RowKit
noncomputable section
def cdD (t:TypeId):Option Nat:=match t with
 | 5=>some 0
 | 240=>some 1
 | 113=>some 2
 | 63=>some 3
 | 54=>some 4
 | 3=>some 5
 | 278=>some 6
 | 149=>some 7
 | 146=>some 8
 | 87=>some 9
 | 9=>some 10
 | 40=>some 12
 | 135=>some 13
 | 21=>some 14
 | 152=>some 15
 | 164=>some 15
 | 201=>some 16
 | 4=>some 17
 | 289=>some 18
 | 61=>some 19
 | _=>none
def Qq1 (l:List Func):Bool:=j7 (λfn=>Bool.not (fn.name== "runtime.NumGoroutine" &&fn.body.isSome)) l
theorem OI {P:Program} (h:Qq1 P.funcs.toList):zY P:=λf fn a=>by
 have:=ew.1 h fn (ZaJ (i:=f) (by rw[ZaL];exact a));grind
def Mb:zY prog:=OI (by kernel_rfl)
def mixed:Tryz.prog.follows .mixedOrders:=by kernel_rfl
def IC (f:Func):Code:=match f.body with
 | some c=>c
 | none=>.skip
abbrev vU:=List (bp D)
def QjF (tab:vU) (fn:Func) (k:bp D) (a:k.Y->dj D) (y:k.Y):Prop:=Qdx prog D cdD (caT D tab) (a y) fn.ntmps k (IC fn) fn.results.toList y
abbrev Ok (k:bp D):Prop:=Sk prog D k
variable {Z:Func} {k:bp D} {Y:vU}
variable {a:k.Y->dj D} {V:k.Y->Prop}
def vc (tab:vU) (fn:Func) (k:bp D) (a:k.Y->dj D) (y:k.Y):Prop:=bif Nat.ble (l7 (k.args y)) fn.ntmps then QjF tab fn k a y else False
@[reducible] def Zi:vU->Prop
 | []=>True
 | [k]=>Ok k
 | k::l=>Ok k/\Zi l
theorem Zi.all:∀{l:vU},Zi l->∀k∈l,Ok k
 | [],_,k,hk=>nomatch hk
 | [a],h,k,hk=>by cases hk with
  | head=>exact h
  | tail _ hk=>cases hk
 | a::b::l,h,k,hk=>by cases hk with
  | head=>exact h.1
  | tail _ hk=>exact Zi.all h.2 k hk
theorem E' {α:Type} (l:List α):l7 l=l.length:=by
 induction l with
 | nil=>rfl
 | cons a l b=>show Nat.succ (l7 l)=_;rw[b];rfl
theorem okB {y:k.Y} (h:vc Y Z k a y):(k.args y).length<=Z.ntmps/\QjF Y Z k a y:=by
 unfold vc at h;rw[E'] at h;simp_all
theorem dB (h:Z.body.isSome):Z.body=some (IC Z):=by
 grind [IC]
def ch (j:∀y,V y=vc Y Z k a y) (ht:Zi Y) (h:∀y,k.pre y->V y)
  (b:Tryz.prog.funcs[k.f]?=some Z:=by kernel_rfl) (c:Z.body.isSome:=by kernel_rfl):Ok k:=by
 refine⟨⟨Z,_,b,dB c⟩,λy l=>?_⟩;obtain⟨h1,d⟩:=okB (Eq.mp (j y) (h y l));exact λM A w hl g i R e=>tc iX mixed Mb b (dB c) (Sn iX ht.all) h1 d M A w hl g i R e
def okZ (tab:vU) (fn:Func) (b:k.Y->dj D) (ht:Zi tab) (h:∀y,k.pre y->V y) (c:∀y,V y=vc tab fn k b y:=by intro y;kernel_rfl)
  (a:Tryz.prog.funcs[k.f]?=some fn:=by kernel_rfl) (d:fn.body.isSome:=by kernel_rfl):Ok k:=ch c ht h a d
theorem yb {g:Type} (l:List g) (k:g->bp D) (me:∀i,(k i).Y->Nat) {fn:g->Func} {tab:g->vU} {jE:∀i,(k i).Y->dj D} (ht:∀i,Zi (tab i)) (a:∀i,Tryz.prog.funcs[(k i).f]?=some (fn i)) (c:∀i,(fn i).body.isSome)
  (r:∀i y,(k i).pre y->vc (l.map (λj=>(k j).under (me j) (me i y))++tab i) (fn i) (k i) (jE i) y):∀i,Ok (k i):=by
 have key:∀n i,Ok ((k i).under (me i) n):=λn=>by
  induction n with
  | zero=>exact λi=>⟨⟨fn i,_,a i,dB (c i)⟩,λy b=>absurd b.2 (Zbo _)⟩
  | succ n s=>
   refine λi=>⟨⟨fn i,_,a i,dB (c i)⟩,λy b M A w hl o p R m=>?_⟩
   have u:∀j,Ok ((k j).under (me j) (me i y)):=λj=>⟨⟨fn j,_,a j,dB (c j)⟩,λt d=>(s j).2 t ⟨d.1,by have:=b.2;have:=d.2;omega⟩⟩
   obtain⟨h1,h⟩:=okB (r i y b.1);exact tc (k:=k i) iX mixed Mb (a i) (dB (c i)) (Sn iX λq e=>by
    rcases Zax.1 e with e | e
    ·grind
    ·exact(ht i).all q e) h1 h M A w hl o p R m
 exact λi=>⟨⟨fn i,_,a i,dB (c i)⟩,λy b=>(key (me i y+1) i).2 y ⟨b,Zbr _⟩⟩
def QY (me:k.Y->Nat) {fn:Func} {tab:vU} {jE:k.Y->dj D} (b:∀y,V y=vc (k.under me (me y)::tab) fn k jE y) (ht:Zi tab) (h:∀y,k.pre y->V y)
  (a:Tryz.prog.funcs[k.f]?=some fn:=by kernel_rfl) (c:fn.body.isSome:=by kernel_rfl):Ok k:=
 yb [()] (λ_=>k) (λ_=>me) (fn:=λ_=>fn) (tab:=λ_=>tab) (jE:=λ_=>jE) (λ_=>ht) (λ_=>a) (λ_=>c) (λ_ y d=>Eq.mp (b y) (h y d)) ()
abbrev By:=List UInt8
abbrev Qyy (n:Int):AV D.E:=.int .i64 n
def aa {α:Type} (l:List α) (p:Prop):Prop:=List.rec (motive:=λ_=>Prop) p (λa _ b=>a=a/\b) l
@[simp] theorem cE {α:Type} (l:List α) (p:Prop):aa l p=p:=by
 induction l with
 | nil=>rfl
 | cons a l b=>
  grind [aa]
def Tt (n:Nat) (p:Prop):Prop:=Nat.rec (motive:=λ_=>Prop) p (λ_ a=>true/\a) n
@[simp] theorem QdG (n:Nat) (p:Prop):Tt n p=p:=by
 induction n with
 | zero=>rfl
 | succ n a=>
  show(true/\Tt n p)=p
  rw[a];simp
def aj (b:Bool) (p q:Prop):Prop:=(b->p)/\(b=false->q)
@[simp] theorem lG (b:Bool) (p q:Prop):aj b p q=((b->p)/\(b=false->q)):=rfl
def pB:db:=⟨false,0,0,0,0,0,0,0,0,0,0,[]⟩
def gN {α:Type} (d:α) (l:List α) (x:Nat):α:=gt d l (Int.toNat (x:Int))
@[simp] theorem QxZ {α:Type} (d:α) (l:List α) (x:Nat):gN d l x=gt d l x:=rfl
def dk {α:Type} (_:α):dj D:=⟨[],[],[],[],1,[]⟩
end
end sx
namespace sx
open Go Go.RowKit Go.ChangeShapes Go.WideShapes Go.ChangeAt
inductive Lf where
 | int (k:IntKind)
 | bool
 | str
 | sl (e:TypeId)
def Mc (l:List Lf):Nat->List Lf
 | 0=>[]
 | n+1=>l++Mc l n
def OJ (P:Program) (g:TypeId->Option (List Lf)):List Field->Nat->Option (List Lf)
 | [],_=>some []
 | f::fs,o=>match g f.type with
  | some l=>if f.offset=o/\l.length=P.cellsOf f.type then(OJ P g fs (o+l.length)).map λr=>l++r else none
  | none=>none
def lvs (P:Program):Nat->TypeId->Option (List Lf)
 | 0,_=>none
 | n+1,t=>match P.underlying t with
  | some (.int k)=>some [.int k]
  | some .bool=>some [.bool]
  | some .string=>some [.str]
  | some (.slice e)=>some [.sl e]
  | some (.array m e)=>match lvs P n e with
   | some l=>if l.length=P.cellsOf e/\P.cellsOf t=m*l.length then some (Mc l m) else none
   | none=>none
  | some (.struct a)=>match OJ P (lvs P n) a.toList 0 with
   | some l=>if l.length=P.cellsOf t then some l else none
   | none=>none
  | _=>none
theorem vC {H:Type} (l:List (DataW H)):Rows.uptoBulkAll l=(l.map Rows.uptoBulk).sum:=by
 induction l with
 | nil=>simp[Rows.uptoBulkAll]
 | cons x r a=>simp only[Rows.uptoBulkAll,Zbl,Zco,a]
section
variable {H:Type} {bm:TypeId×Value->H} {P:Program} {W:World} {held:Bool}
abbrev Trd (bm:TypeId×Value->H) (P:Program) (W:World) (held:Bool):=DataW.trod bm P W 0 (λ_=>true) held
def OK (bm:TypeId×Value->H) (P:Program) (W:World) (held:Bool) (l:Lf) (v:Value) (w:Nat):Prop:=match l with
 | .int k=>∃n,v=.int k n/\(Lit.int k n).wf
 | .bool=>∃b,v=.bool b
 | .str=>∃s:ByteArray,v=.string s/\s.size<=maxLen/\s.data.toList.length<=w
 | .sl e=>v=.slice none 0 0\/∃a len cap n,v=.slice (some a) len cap/\len<=cap/\cap<=maxLen/\∃D:Nat->DataW H,((List.range len).map λi=>Rows.uptoBulk (D i)).sum<=w/\
   ∀i,i<len->∃cs p,W.cells? 0 (a.add (i*P.cellsOf e)) (P.cellsOf e)=some cs/\Trd bm P W held n e cs=some (D i,p)
inductive fx (bm:TypeId×Value->H) (P:Program) (W:World) (held:Bool):List Lf->List Value->Nat->Prop
 | nil (T:Nat):fx bm P W held [] [] T
 | cons {l:Lf} {ls:List Lf} {v:Value} {r:List Value} {w T T':Nat} (h:OK bm P W held l v w) (k:fx bm P W held ls r T) (e:w+T<=T'):fx bm P W held (l::ls) (v::r) T'
variable {c:List Value} {w:Nat} {a:List Lf}
theorem fx.mono {T:Nat} (h:fx bm P W held a c w) (b:w<=T):fx bm P W held a c T:=by
 cases h with
 | nil=>exact .nil T
 | cons h k e=>exact .cons h k ω
theorem fx.app {b:List Lf} {d:List Value} {T:Nat} (h:fx bm P W held a c w) (k:fx bm P W held b d T):fx bm P W held (a++b) (c++d) (w+T):=by
 induction h with
 | nil w=>exact k.mono ω
 | cons h _ e f=>exact .cons h f ω
theorem fx.len (h:fx bm P W held a c w):a.length=c.length:=by
 induction h with
 | nil=>rfl
 | cons _ _ _ b=>simp[b]
theorem fx.bJ {l:Lf} (h:fx bm P W held (l::a) c w):∃v r S T,c=v::r/\OK bm P W held l v S/\fx bm P W held a r T/\S+T<=w:=by
 cases h with
 | cons h k e=>exact⟨_,_,_,_,rfl,h,k,e⟩
def fx.mj (h:fx bm P W held [] c w):c=[]:=by cases h;rfl
def fx.one {l:Lf} {v:Value} (h:OK bm P W held l v w):fx bm P W held [l] [v] w:=.cons h (.nil 0) ω
theorem Md {g:TypeId->Option (List Lf)} {cs:List Value} (c:∀t l b m x,g t=some l->Trd bm P W held m t b=some x->fx bm P W held l b (Rows.uptoBulk x.1)):
  ∀(a:List Field) (xs:List (DataW H×List MemPlace)) (o:Nat) (l:List Lf),OJ P g a o=some l->xs.length=a.length->
   (∀(i:Nat) f x,a[i]?=some f->xs[i]?=some x->∃m,Trd bm P W held m f.type ((cs.drop f.offset).take (P.cellsOf f.type))=some x)->
   fx bm P W held l ((cs.drop o).take l.length) (xs.map λx=>Rows.uptoBulk x.1).sum
 | [],xs,o,l,h,_,_=>by cases h;simpa using fx.nil _
 | f::a,[],o,l,h,hl,_=>by simp at hl
 | f::a,x::xs,o,l,h,hlx,hx=>by
  unfold OJ at h;cases e:g f.type with
  | none=>rw[e] at h;cases h
  | some n=>
   rw[e] at h;simp only at h;split at h
   ·rename_i j
    obtain⟨k,hl⟩:=j;cases e2:OJ P g a (o+n.length) with
    | none=>rw[e2] at h;cases h
    | some s=>
     rw[e2] at h;cases h;obtain⟨m,h1⟩:=hx 0 f x rfl rfl;rw[k,<-hl] at h1;have k1:=c _ _ _ _ _ e h1;have k2:=Md c a xs _ _ e2 (by simpa using hlx) λi d r q p=>hx (i+1) d r (by simpa using q) (by simpa using p)
     rw[Zab,ZdW,ZbZ,Zbl,Zco];exact k1.app k2
   ·cases h
theorem E_ {l:List Lf} {cs:List Value}:∀(xs:List (DataW H×List MemPlace)) (o:Nat),(∀i x,xs[i]?=some x->fx bm P W held l ((cs.drop (o+i*l.length)).take l.length) (Rows.uptoBulk x.1))->
  fx bm P W held (Mc l xs.length) ((cs.drop o).take (xs.length*l.length)) (xs.map λx=>Rows.uptoBulk x.1).sum
 | [],o,_=>by simpa [Mc] using fx.nil _
 | x::xs,o,h=>by
  have h0:=h 0 x rfl;rw[ZbS,Zbn] at h0;have h1:=E_ xs (o+l.length) λi a hi=>by
   have:=h (i+1) a (by simpa using hi);rw[show o+(i+1)*l.length=o+l.length+i*l.length by rw[ZbL];omega] at this;exact this
  rw[Zae,ZbL,Nat.one_mul,Zc1 (xs.length*l.length),ZdW,ZbZ,Zbl,Zco];exact h0.app h1
def yc {xs:List (DataW H×List MemPlace)}:(xs.map λx=>Rows.uptoBulk x.1).sum<=Rows.uptoBulk (DataW.agg (xs.map (·.1))):=by
 simp only[Rows.uptoBulk,vC,Zdq];exact ZcR _
theorem r7:∀(n:Nat) (t:TypeId) (u:List Lf) (cs:List Value) (m:Nat) (x:DataW H×List MemPlace),lvs P n t=some u->Trd bm P W held m t cs=some x->fx bm P W held u cs (Rows.uptoBulk x.1)
 | 0,t,u,cs,m,x,h,_=>by cases h
 | n+1,t,u,cs,m,x,h,c=>by
  unfold lvs at h;cases hu:P.underlying t with
  | none=>rw[hu] at h;cases h
  | some d=>
   rw[hu] at h;cases d<;>simp only at h<;>(try (cases h;done))
   case bool=>
    cases h;obtain⟨b,rfl,_⟩:=DataW.trod_bool hu c;have:fx bm P W held [.bool] [.bool b] 0:=.one ⟨b,rfl⟩;exact this.mono (Zaj _)
   case int k=>
    cases h;obtain⟨v,rfl,_,hw⟩:=DataW.trod_int hu c;have:fx bm P W held [.int k] [.int k v] 0:=.one ⟨v,rfl,hw⟩;exact this.mono (Zaj _)
   case string=>
    cases h;obtain⟨s,rfl,rfl,hs⟩:=DataW.trod_string hu c;refine .one ⟨s,rfl,hs,?_⟩;simp only[Rows.uptoBulk];exact ZcR _
   case slice e=>
    cases h;rcases Go.Deep.open_slice hu c with⟨rfl,_⟩ | ⟨a,len,cap,q,G,D,I,rfl,_,hl,F,r,rfl,C⟩
    ·exact .one (.inl rfl)
    ·simp only[Zbv] at r;subst r;refine .one (.inr ⟨a,len,q,G,rfl,hl,F,D,?_,λi hi=>?_⟩)
     ·simp only[Rows.uptoBulk,vC,Zdq];show((List.range len).map (Rows.uptoBulk∘D)).sum<=_
      omega
     ·obtain⟨j,h1,o⟩:=C i ω;exact⟨j,_,h1,o⟩
   case array q e=>
    cases hl:lvs P n e with
    | none=>rw[hl] at h;cases h
    | some l=>
     rw[hl] at h;simp only at h;split at h
     ·rename_i A
      cases h;obtain⟨xs,B,_,rfl,h1,o,w⟩:=DataW.trod_array hu c;subst o;have:=E_ (bm:=bm) (P:=P) (W:=W) (held:=held) (l:=l) (cs:=cs) xs 0 λi x hi=>by
       have y:i<xs.length:=(Zam.1 hi).1;have p:=w i y;rw[hi] at p;rw[Za6,A.1];exact r7 n e l _ _ _ hl p
      rw[ZbQ,ZaA ω] at this;exact this.mono yc
     ·cases h
   case struct z=>
    cases hl:OJ P (lvs P n) z.toList 0 with
    | none=>rw[hl] at h;cases h
    | some l=>
     rw[hl] at h;simp only at h;split at h
     ·rename_i A
      cases h;obtain⟨xs,B,_,rfl,h1,o,w⟩:=DataW.trod_struct hu c;have:=Md (bm:=bm) (P:=P) (W:=W) (held:=held) (g:=lvs P n) (cs:=cs) (λt l j m x=>r7 n t l j m x) z.toList xs 0 u hl (by simpa using o) λi f x E c=>by
       have p:=w i f (by simpa using E);rw[c] at p;exact⟨B,p⟩
      rw[ZbQ,ZaA ω] at this;exact this.mono yc
     ·cases h
end
end sx
namespace sx
open Go Go.RowKit
variable {x b:Int} {k:IntKind} {m:Nat}
def gg {a b:Int}:aM a b↔a<=b:=by simp[aM]
def QjG {a b:Int}:aM a b=false↔b<a:=by simp[aM]
def gF {a b:Int}:aD a b↔a<b:=by simp[aD]
def iz {a b:Int}:aD a b=false↔b<=a:=by simp[aD]
def ib {a b:Int}:aE a b↔a=b:=by simp[aE]
def iA {a b:Int}:aE a b=false↔a≠b:=by simp[aE]
def yd {a b:By}:seq a b↔a=b:=by simp[seq]
def bq:ba x m↔x*m<=140737488355328:=by simp[ba]
theorem Fa:lf .i64 x↔-9223372036854775808<=x/\x<=9223372036854775807:=by rw[cY];simp only[D1,ue]
def Qge:lf .u64 x↔0<=x/\x<=18446744073709551615:=by rw[cY];simp only[D1,ue]
theorem bA {a:Int} (h1: -9223372036854775808<=a+b) (c:a+b<=9223372036854775807):ay .i64 a b=a+b:=dW (Fa.2 ⟨h1,c⟩)
theorem ye {a:Int} (h1: -9223372036854775808<=a-b) (c:a-b<=9223372036854775807):dE .i64 a b=a-b:=dW (Fa.2 ⟨h1,c⟩)
theorem QjH (h1:0<=x) (b:x<=18446744073709551615):xf .u64 x=x:=dW (Qge.2 ⟨h1,b⟩)
theorem aw {α:Type} (l:List α):ab l=(l.length:Int):=rfl
theorem a_ {α:Type} (a b:List α):bn a b=a++b:=rfl
theorem CX (h1: -9223372036854775808<=x*b) (c:x*b<=9223372036854775807):jx .i64 x b=x*b:=dW (Fa.2 ⟨h1,c⟩)
theorem my (s:By):fo s=(s.length:Int):=rfl
def ζ (k:IntKind):ue k<(vP k:Int):=by cases k<;>decide
theorem Tb (k:IntKind):D1 k<=0:=by cases k<;>decide
def wM (h:(m:Int)<=ue k):D' k (m:Int)=m:=by
 have:=ζ k;show Nat.mod m (vP k)=m
 exact Zdr ω
theorem Fb (h:(m:Int)<=ue k):k.wrap (m:Int)=m:=dW (cY.2 ⟨by grind [Tb],h⟩)
def Me {n:Nat} (a:(m:Int)<=ue k) (b:((2 ^ n-1:Nat):Int)<=ue k):rC k (m:Int) ((2 ^ n-1:Nat):Int)=((m % 2 ^ n:Nat):Int):=by
 unfold rC;rw[wM a,wM b];have e:Nat.land m (2 ^ n-1)=m % 2 ^ n:=Nat.and_two_pow_sub_one_eq_mod m n;rw[e];exact Fb (m:=m % 2 ^ n) ω
def Tc (h0:0<=x) (h1:x<=ue k):rC k x 63=x % 64:=by
 obtain⟨m,rfl⟩:=Zau h0;exact(Me (n:=6) h1 (by cases k<;>decide)).trans (by simp)
def Td (h0:0<=x) (h1:x<=ue k):rC k x 31=x % 32:=by
 obtain⟨m,rfl⟩:=Zau h0;exact(Me (n:=5) h1 (by cases k<;>decide)).trans (by simp)
def Te (h0:0<=x) (h1:x<=ue k):rC k x 15=x % 16:=by
 obtain⟨m,rfl⟩:=Zau h0;exact(Me (n:=4) h1 (by cases k<;>decide)).trans (by simp)
def QdI (h0:0<=x) (h1:x<=ue k):rC k x 7=x % 8:=by
 obtain⟨m,rfl⟩:=Zau h0;exact(Me (n:=3) h1 (by cases k<;>decide)).trans (by simp)
def QjI {a b n:Nat} (c:b<2 ^ n) (h:((2 ^ n*a+b:Nat):Int)<=ue k):QP k ((2 ^ n*a:Nat):Int) (b:Int)=((2 ^ n*a+b:Nat):Int):=by
 unfold QP;rw[wM ω,wM ω];have e:Nat.lor (2 ^ n*a) b=2 ^ n*a+b:=(Nat.two_pow_add_eq_or_of_lt c a).symm;rw[e];exact Fb h
def QdJ (a:m<=k.bits) (h0:0<=x) (h1:x*2 ^ m<=ue k):ud k x (m:Int)=x*2 ^ m:=by
 unfold ud;rw[Zad,Zbj a];exact dW (cY.2 ⟨by have:=Tb k;have:=Int.mul_nonneg h0 (show(0:Int)<=2 ^ m from ZdZ (Int.pow_pos (by decide)));omega,h1⟩)
theorem six (h0:0<=x) (h1:x<33554432) (d:0<=b) (b1:b<64):QP .i32 (ud .i32 x 6) b=x*64+b:=by
 have e:ud .i32 x ((6:Nat):Int)=x*2 ^ 6:=QdJ (by decide) h0 (by show x*2 ^ 6<=2147483647;omega);rw[show(6:Int)=((6:Nat):Int) from rfl,e];obtain⟨m,rfl⟩:=Zau h0;obtain⟨c,rfl⟩:=Zau d;have:=QjI (k:=.i32) (a:=m) (b:=c) (n:=6) ω (by show _<=(2147483647:Int);omega);grind
def wN (h0:D1 k<=x) (h1:x<=ue k):xf k x=x:=dW (cY.2 ⟨h0,h1⟩)
attribute [grind=] bA ye CX aw a_ my cE QdG lG
@[grind=] theorem Qx1 (a b:Int):aD a b=decide (a<b):=rfl
@[grind=] theorem QjJ (a b:Int):aM a b=decide (a<=b):=rfl
@[grind=] theorem vD (a b:Int):aE a b=decide (a=b):=rfl
@[grind=] theorem Qq2 (a:Int) (n:Nat):ba a n=decide (a*n<=140737488355328):=rfl
@[grind=] theorem dL {α:Type} (d:α) (l:List α) (n:Nat):gt d l n=l.getD n d:=rfl
@[grind=] theorem Qx2 (a b:By):seq a b=decide (a=b):=rfl
@[grind=] theorem cC (p:Prop):Iv p=p:=propext ⟨λh=>h.out,λh=>⟨h⟩⟩
def ej:=And.intro @cE (And.intro @QdG (And.intro @lG Zai))
def bj:=And.intro ej (And.intro @cC Zal)
def bN:=And.intro @ib (And.intro @iA (And.intro @gg (And.intro @QjG (And.intro @gF @iz))))
end sx
namespace syn
open Go Go.RowKit cls
variable {l:List UInt8} {i:Nat}
def Fc {G:List Gt} (h:i<G.length):G[i]?=some (G.getD i (0,0)):=getD_eq h _
theorem lH {m:List Rg} (h:cls.Good m):aY m=m:=E1 h λr=>by
 cases a:bh m r
 ·simp
 ·obtain⟨p,b,h1,c⟩:=(te m r).1 a;have:=h.1 p b;grind [gY,vw]
theorem qV {r:Int} (h:f_ r):eL r=[(r,r)]:=by
 have b:=(gY r).1 h;refine lH ⟨λp a=>?_,by simp⟩;grind [vw]
def ck (c:Nat):Int×Nat×Nat:=
 if c<128 then(0,0,0) else if c<194 then(-1,0,0) else if c<224 then(1,128,191) else if c=224 then(2,160,191) else if c=237 then(2,128,159)
 else if c<240 then(2,128,191) else if c=240 then(3,144,191) else if c<244 then(3,128,191) else if c=244 then(3,128,143) else(-1,0,0)
def dM:Nat->Int->Nat->Nat->List UInt8->Option Int
 | 0,r,_,_,_=>some r
 | _+1,_,_,_,[]=>none
 | k+1,r,lo,hi,b::t=>if b.toNat<lo\/hi<b.toNat then none else dM k (r*64+b.toNat % 64) 128 191 t
def start (k:Int) (c:Nat):Int:=if k=0 then c else if k=1 then(c % 32:Nat) else if k=2 then(c % 16:Nat) else(c % 8:Nat)
def bK:List UInt8->Int×Int
 | []=>(0,0)
 | c::t=>if (ck c.toNat).1<0 then(0,0) else match dM (ck c.toNat).1.toNat (start (ck c.toNat).1 c.toNat) (ck c.toNat).2.1 (ck c.toNat).2.2 t with
  | some r=>(r,(ck c.toNat).1+1)
  | none=>(0,0)
def jQ (c:Nat):((ck c).1= -1\/(ck c).1=0\/(ck c).1=1\/(ck c).1=2\/(ck c).1=3)/\(ck c).2.1<256/\(ck c).2.2<256:=by
 unfold ck
 repeat' split
 all_goals simp
theorem vE (x:UInt8) (t:List UInt8) {n:Nat} {k:Int} {lo hi:Nat} (b:x.toNat=n) (a:ck n=(k,lo,hi)):bK (x::t)=if k<0 then(0,0) else match dM k.toNat (start k n) lo hi t with
  | some r=>(r,k+1)
  | none=>(0,0):=by
 grind [bK]
def jk:Nat->List UInt8->List Gt
 | 0,_=>[]
 | n+1,l=>if l=[] then[] else if (bK l).2=0 then(65533,1)::jk n (l.drop 1) else bK l::jk n (l.drop (bK l).2.toNat)
def bk (l:List UInt8):List Gt:=jk l.length l
theorem r8:∀(k:Nat) (r:Int) (lo hi:Nat) (t:List UInt8) (x:Int),dM k r lo hi t=some x->k<=t.length
 | 0,_,_,_,_,_,_=>Zaj _
 | k+1,r,lo,hi,[],x,h=>by cases h
 | k+1,r,lo,hi,b::t,x,h=>by
  rw[dM] at h;split at h
  ·cases h
  ·have:=r8 k _ _ _ t x h;simp;omega
theorem jR (l:List UInt8):(bK l).2=0\/∃n:Nat,(bK l).2=n/\1<=n/\n<=l.length/\n<=4:=by
 rcases l with _ | ⟨c,t⟩
 ·exact .inl rfl
 ·have d:=(jQ c.toNat).1;obtain⟨m,b⟩:∃m,ck c.toNat=m:=⟨_,rfl⟩;obtain⟨k,lo,hi⟩:=m;rw[vE c t rfl b];rw[b] at d;split
  ·omega
  ·cases a:dM k.toNat (start k c.toNat) lo hi t with
   | none=>exact .inl rfl
   | some r=>
    have:=r8 _ _ _ _ _ _ a;refine .inr ⟨k.toNat+1,?_,?_,?_,?_⟩
    ·grind
    ·omega
    ·grind
    ·omega
theorem nF (n:Nat):jk n []=[]:=by cases n<;>rfl
theorem nG (h:l≠[]) (h0:(bK l).2=0):jk (i+1) l=(65533,1)::jk i (l.drop 1):=by grind [jk]
theorem pY (h:l≠[]) {m:Nat} (h0:(bK l).2=m) (a:1<=m):jk (i+1) l=bK l::jk i (l.drop m):=by
 grind [jk]
theorem r9:∀(n k:Nat) (l:List UInt8),l.length<=n->l.length<=k->jk n l=jk k l
 | 0,k,l,h,_=>by
  grind [nF]
 | n+1,0,l,_,h=>by
  grind [nF]
 | n+1,k+1,l,h,b=>by
  by_cases hl:l=[]
  ·grind [nF]
  ·rcases jR l with h0 | ⟨m,a,h1,c,_⟩
   ·rw[nG hl h0,nG hl h0,r9 n k _ (by grind) (by grind)]
   ·rw[pY hl a h1,pY hl a h1,r9 n k _ (by grind) (by grind)]
theorem OG {r lo hi x} (h:dM 1 r lo hi l=some x):∃b:Nat,lo<=b/\b<=hi/\x=r*64+(b % 64:Nat):=by
 cases l with
 | nil=>cases h
 | cons b l=>
  grind [dM]
theorem OH {r lo hi x} (h:dM 2 r lo hi l=some x):∃b d:Nat,lo<=b/\b<=hi/\128<=d/\d<=191/\x=(r*64+(b % 64:Nat))*64+(d % 64:Nat):=by
 cases l with
 | nil=>cases h
 | cons b l=>
  rw[dM] at h;split at h
  ·cases h
  ·obtain⟨d,h1,a,c⟩:=OG h;exact⟨b.toNat,d,ω,ω,h1,a,by assumption⟩
theorem SQ {r lo hi x} (h:dM 3 r lo hi l=some x):∃b d f:Nat,lo<=b/\b<=hi/\128<=d/\d<=191/\128<=f/\f<=191/\x=((r*64+(b % 64:Nat))*64+(d % 64:Nat))*64+(f % 64:Nat):=by
 cases l with
 | nil=>cases h
 | cons b l=>
  rw[dM] at h;split at h
  ·cases h
  ·obtain⟨d,f,h1,a,c,e,g⟩:=OH h;exact⟨b.toNat,d,f,ω,ω,h1,a,c,e,by assumption⟩
def ID (n:Nat):(n<128/\ck n=(0,0,0))\/ck n=(-1,0,0)\/(194<=n/\n<224/\ck n=(1,128,191))\/(n=224/\ck n=(2,160,191))\/(n=237/\ck n=(2,128,159))\/
  (225<=n/\n<240/\n≠237/\ck n=(2,128,191))\/(n=240/\ck n=(3,144,191))\/(241<=n/\n<244/\ck n=(3,128,191))\/(n=244/\ck n=(3,128,143)):=by
 unfold ck
 repeat' split
 all_goals simp
 all_goals omega
theorem Fe:∀l:List UInt8,(bK l).2≠0->f_ (bK l).1
 | [],h=>absurd rfl h
 | c::t,h=>by
  have d:=λ{k:Int} {lo hi:Nat}=>vE c t (n:=c.toNat) (k:=k) (lo:=lo) (hi:=hi) rfl
  rw[gY];rcases ID c.toNat with⟨h1,a⟩ | a | ⟨h1,b,a⟩ | ⟨h1,a⟩ | ⟨h1,a⟩ | ⟨h1,b,e,a⟩ | ⟨h1,a⟩ | ⟨h1,b,a⟩ | ⟨h1,a⟩
  all_goals grind [dM,start,OG,OH,SQ]
theorem pZ:∀(n:Nat) (l:List UInt8),∀g∈jk n l,f_ g.1
 | 0,l,g,h=>by cases h
 | n+1,l,g,h=>by
  by_cases hl:l=[]
  ·grind [nF]
  ·rcases jR l with h0 | ⟨m,a,h1,b,c⟩
   ·rw[nG hl h0] at h;rcases Zbf.1 h with rfl | h
    ·decide
    ·exact pZ n _ g h
   ·rw[pY hl a h1] at h;rcases Zbf.1 h with rfl | h
    ·grind [Fe]
    ·exact pZ n _ g h
theorem yf (h:i<(bk l).length):f_ (aN (bk l) i):=
 pZ _ _ _ (ZaJ (Fc h))
theorem Mf (l:List UInt8) (i:Nat):0<=aN (bk l) i:=by
 grind [gY,yf,aN]
def s3:aY [(9,10),(13,13),(32,32)]=[(9,10),(13,13),(32,32)]:=lH ⟨by simp[vw],by simp⟩
def w4:aY [(48,57),(65,90),(95,95),(97,122)]=[(48,57),(65,90),(95,95),(97,122)]:=lH ⟨by simp[vw],by simp⟩
theorem IE (l:List UInt8):Fx (bk l) where
 one i h:=qV (yf h)
 n:=qV (by decide)
 t:=qV (by decide)
 r:=qV (by decide)
 d:=lH ⟨by simp[vw],by simp⟩
 s:=by rw[s3];rfl
 w:=by rw[w4];rfl
 s0:=by rw[s3];simp
 w0:=by rw[w4];simp
 not l:=by
  show aY (iQ 0 (aY (aY l)))=aY (iQ 0 (aY l))
  rw[lH (eg l).1]
theorem IF (l:List UInt8):Iu (bk l)=x3 (bk l):=OF (IE l)
end syn
set_option maxRecDepth 100000
set_option maxHeartbeats 4000000
namespace sx
noncomputable section
open Go Go.RowKit cls syn
def ki:Nat->Nat->Nat->By->Bool
 | 0,_,_,_=>false
 | _+1,_,_,[]=>true
 | k+1,lo,hi,b::t=>if b.toNat<lo\/hi<b.toNat then false else ki k 128 191 t
def mo (y:By):Int×Nat×Nat:=ck (y.getD 0 0).toNat
def gy (y:By):Bool:=decide (y≠[])&&decide (0<=(mo y).1)&&ki (mo y).1.toNat (mo y).2.1 (mo y).2.2 (y.drop 1)
def in1 (args:List (AV D.E)):C Int:=match args with
 | [a]=>aP (cQ a) λ_ n=>.ret n
 | _=>.fail
def Tf (args:List (AV D.E)) (s:St D.E):C By:=match args with
 | [a]=>aB (aW D s 0 a) λl=>.ret (l:By)
 | _=>.fail
def IG (y:Int):Prop:=0<=y/\y<256
abbrev cq (f:FuncId) (Y:Type) (zL:List (AV D.E)->St D.E->C Y) (pre:Y->Prop) (args:Y->List (AV D.E)) (res:Y->AV D.E):bp D:=⟨f,Y,zL,pre,args,λ_=>[],res,λ_=>[],0,0⟩
def Bg:bp D:=cq 121 Int (λa _=>in1 a) IG (λy=>[.int .u8 y]) λy=>.tuple [Qyy (ck y.toNat).1,.int .u8 ((ck y.toNat).2.1:Nat),.int .u8 ((ck y.toNat).2.2:Nat)]
def QjL (_:Bg.Y):dj D:=dk ()
def r_:bp D:=cq 86 By Tf (λ_=>True) (λy=>[.list 0 y]) λy=>.tuple [.int .i32 (bK y).1,Qyy (bK y).2,.bool (gy y)]
def vV (y:By) (i:Nat):Int:=if i=1 then((mo y).2.1:Nat) else 128
def uz (y:By) (i:Nat):Int:=if i=1 then((mo y).2.2:Nat) else 191
def vW (y:By):Int:=syn.start (mo y).1 (y.getD 0 0).toNat
def yg (y:By) (i:Nat) (r:Int):Prop:=1<=i/\(i:Int)<=(mo y).1+1/\0<=r/\r<128*64 ^ (i-1)/\dM (mo y).1.toNat (vW y) (mo y).2.1 (mo y).2.2 (y.drop 1)=dM ((mo y).1.toNat+1-i) r (vV y i).toNat (uz y i).toNat (y.drop i)/\
 ki (mo y).1.toNat (mo y).2.1 (mo y).2.2 (y.drop 1)=ki ((mo y).1.toNat+1-i) (vV y i).toNat (uz y i).toNat (y.drop i)
def Qgf (y:r_.Y):dj D:=⟨[],[],[(1018,⟨Nat×Int,[0,5],λx=>[(2,.int .i32 x.2),(6,.int .u8 (vV y x.1)),(7,.int .u8 (uz y x.1)),(8,Qyy x.1)],[],λ_=>[],0,λx=>yg y x.1 x.2,λx=>5-x.1⟩)],
 [(63,⟨Unit,[0,5,6,7],λ_=>[(2,.int .i32 (vW y))],[],λ_=>[],0,λ_=>True,λ_=>0⟩)],1,[]⟩
def IH:bp D:=cq 50 By Tf (λy=>y.length<=1000000) (λy=>[.list 0 y]) λy=>.list 13 (bk y)
def Qq3 (y:IH.Y):dj D:=⟨[],[],[(28,⟨By×List Gt,[],λx=>[(0,.list 0 x.1),(3,.grow 13 x.2 0)],[],λ_=>[(0,.tok 13 135)],1,λx=>x.2++bk x.1=bk y/\x.1.length+x.2.length<=y.length,λx=>x.1.length⟩)],[],1,[]⟩
structure jb where
 pl:List Int
 us:List Item
def spO (b n m:Nat) (y:jb):List (Nat×AO D.E):=[(b,.cells [.own n 1 (ab y.pl),.own m 2 (ab y.us)] 250 false),(n,.arr 5 y.pl 3 false),(m,.arr 18 y.us 289 false)]
def η (v:AV D.E) (s:St D.E):C jb:=match v with
 | .ptr b _=>aB (dg (s.h.get b)) λo=>match o with
  | .cells cs _ _=>match cs with
   | [p,l]=>aB (aW D s 5 p) λp=>aB (aW D s 18 l) λl=>.ret ⟨p,l⟩
   | _=>.fail
  | _=>.fail
 | _=>.fail
def θ (y:jb):Prop:=y.pl.length<=4096/\y.us.length<=4096/\∀v∈y.pl,(0:Int)<=v
def it0:Item:=⟨0,false⟩
def gI:List Item:=[]
def rE (n:Int):List Int:=List.replicate n.toNat 0
def tn (y:jb) (i:Int):Bool:=decide (0<=i)&&decide (i<y.pl.length)&&decide (y.pl.getD i.toNat 0<y.us.length)&&decide ((y.us.getD (y.pl.getD i.toNat 0).toNat it0).i=i)
def ga (y:jb) (i:Int):Bool:=decide (0<=i)&&decide (i<y.pl.length)&&!tn y i
def dU (y:jb) (i:Int) (x:Bool):jb:=if ga y i=true then⟨y.pl.set i.toNat y.us.length,y.us++[⟨i,x⟩]⟩ else y
def ι:bp D:=⟨197,jb×Int,λa s=>match a with
 | [p,i]=>aB (η p s) λy=>aP (cQ i) λ_ i=>.ret (y,i)
 | _=>.fail,λy=>θ y.1,λy=>[.ptr 0 0,Qyy y.2],λy=>spO 0 1 2 y.1,λy=>.bool (tn y.1 y.2),λy=>spO 0 1 2 y.1,3,3⟩
def Tg:bp D:=⟨169,jb×Int×Bool,λa s=>match a with
 | [p,i,x]=>aB (η p s) λy=>aP (cQ i) λ_ i=>aP (xg x) λx _=>.ret (y,i,x)
 | _=>.fail,λy=>θ y.1/\y.1.us.length<4096,λy=>[.ptr 0 0,Qyy y.2.1,.bool y.2.2],λy=>spO 0 1 2 y.1,λy=>.bool (ga y.1 y.2.1),λy=>spO 0 1 3 (dU y.1 y.2.1 y.2.2),3,4⟩
def Th:bp D:=⟨167,jb,λa s=>match a with
 | [p]=>η p s
 | _=>.fail,λ_=>True,λ_=>[.ptr 0 0],λy=>spO 0 1 2 y,λ_=>.tuple [],λy=>spO 0 1 3 ⟨y.pl,gI⟩,3,4⟩
def Ti:bp D:=⟨116,Int,λa _=>match a with
 | [n]=>aP (cQ n) λ_ n=>.ret n
 | _=>.fail,λy=>0<=y/\y<=4096,λy=>[Qyy y],λ_=>[],λ_=>.tuple [.ptr 0 0,.num .i64 0],λy=>spO 0 1 2 ⟨rE y,gI⟩,0,3⟩
structure Ff where
 n:Int
 l:Bool
def lnO (y:Ff):List (Nat×AO D.E):=[(0,.cells [.int .i64 y.n,.bool y.l] 177 false)]
def Fh:bp D:=⟨33,Ff,λa _=>match a with
 | [n,l]=>aP (cQ n) λ_ n=>aP (xg l) λl _=>.ret ⟨n,l⟩
 | _=>.fail,λy=>0<=y.n/\y.n<=200/\(y.l->y.n=0),λy=>[Qyy y.n,.bool y.l],λ_=>[],λ_=>.tuple [.ptr 0 0,.num .i64 0],lnO,0,1⟩
def II (y:Ff) (c:Int):Int:=if c=10 then(if y.l=true then 5 else 2) else if y.l=true then 4 else if 200<=y.n then 3 else 1
def κ (y:Ff) (c:Int):Ff:=if c=10 then⟨0,false⟩ else if y.l=true then y else if 200<=y.n then⟨0,true⟩ else⟨y.n+1,y.l⟩
def Fi:bp D:=⟨34,Ff×Int,λa s=>match a with
 | [p,c]=>match p with
  | .ptr b _=>aB (dg (s.h.get b)) λo=>match o with
   | .cells cs _ _=>match cs with
    | [n,l]=>aP (cQ n) λ_ n=>aP (xg l) λl _=>aP (cQ c) λ_ c=>.ret (⟨n,l⟩,c)
    | _=>.fail
   | _=>.fail
  | _=>.fail
 | _=>.fail,λy=>0<=y.1.n/\y.1.n<=200,λy=>[.ptr 0 0,.int .u8 y.2],λy=>lnO y.1,λy=>Qyy (II y.1 y.2),λy=>lnO (κ y.1 y.2),1,1⟩
abbrev RAR {T0 T1 T2 T3:Type} (a:T0) (b:T1) (c:T2) (d:T3) (p:Prop):Prop:=aa [a] (aa [b] (aa [c] (aa [d] p)))
def QdM (y:jb×Int):Prop:=let c:=ab y.1.pl;let q1:=ab y.1.us;let a:=gt 0 y.1.pl y.2.toNat;let b:Prop:=(RAR c q1 y.1.pl y.1.us (True));aj (aD y.2 0) (false=tn y.1 y.2/\b) (aj (aM c y.2) (false=tn y.1 y.2/\b) (aM 0 y.2=true/\aD y.2 c=true/\aj (aD a q1) (aM 0 a=true/\aD a q1=true/\aE (gt (Item.mk 0 false) y.1.us a.toNat).i y.2=tn y.1 y.2/\b) (false=tn y.1 y.2/\b)))
abbrev RAQ {T0 T1 T2:Type} (a:T0) (b:T1) (c:T2) (p:Prop):Prop:=aa [a] (aa [b] (aa [c] p))
abbrev RA9 (v:jb) (p:Prop):Prop:=aa [v.us] (aa [v.pl] p)
def QdN (y:jb×Int×Bool):Prop:=let a:=y.2.1;let q1:=ab y.1.pl;let c:=ab y.1.us;let b:=dU y.1 a y.2.2;let d:=bn y.1.us [Item.mk a y.2.2];let e:Prop:=(false=ga y.1 a/\q1=ab b.pl/\c=ab b.us/\y.1.us=b.us/\y.1.pl=b.pl/\True);aj (aD a 0) (e) (aj (aM q1 a) (e) (Iv (θ y.1)/\RAQ a q1 c (RA9 y.1 (aj (tn y.1 a) (e) (aM 0 a=true/\aD a q1=true/\aa [q1,c] (ba (ab d) 16=true/\true=ga y.1 a/\q1=ab b.pl/\ab d=ab b.us/\d=b.us/\dh y.1.pl a.toNat c=b.pl/\True))))))
def QdO (y:jb):Prop:=Tt 1 (aM 0 (ab y.us)/\aa [ab y.pl] (0=ab gI/\c_ (Ax y.us 0 (ab y.us) (pq (ab y.us) (Item.mk 0 false))) 0=gI/\aa [y.pl] (True)))
def Tj (y:Int):Prop:=aj (aD y 0) (False) (aj (aD 4096 y) (False) (aM 0 y/\aM y y/\ba y 8/\ab (pq y (0:Int))=ab (rE y)/\0=ab gI/\[]=gI/\pq y 0=rE y/\True))
abbrev RAP {T0 T1:Type} (a:T0) (b:T1) (p:Prop):Prop:=aa [a] (aa [b] p)
def QdP (y:Ff):Prop:=let a:Prop:=(RAP y.n y.l (True));aj (aD y.n 0) (False) (aj (aD 200 y.n) (False) (aj y.l (aj (!(aE y.n 0)) (False) (a)) (a)))
def QdQ (y:Ff×Int):Prop:=let a:=II y.1 y.2;let q1:Prop:=(y.1.l=(κ y.1 y.2).l/\True);let b:Prop:=(0=(κ y.1 y.2).n/\false=(κ y.1 y.2).l/\True);aj (aE y.2 10) (aj y.1.l (5=a/\b) (2=a/\b)) (aj y.1.l (4=a/\y.1.n=(κ y.1 y.2).n/\q1) (aj (aM 200 y.1.n) (3=a/\0=(κ y.1 y.2).n/\true=(κ y.1 y.2).l/\True) (1=a/\ay .i64 y.1.n 1=(κ y.1 y.2).n/\q1)))
theorem QjN:Ok ι:=okZ (V:=QdM) [] f197 (λ_=>dk ()) trivial λy a=>by
 unfold QdM;simp only[bN,bj,aw,dL];obtain⟨h1,b,c⟩:θ y.1:=a;grind [tn]
theorem QdR:Ok Tg:=okZ (V:=QdN) [ι] f169 (λ_=>dk ()) QjN λy b=>by
 unfold QdN;simp only[bN,bj,aw,bq,a_,dh];obtain⟨a,c⟩:θ y.1/\y.1.us.length<4096:=b;have no:ga y.1 y.2.1=false->false=ga y.1 y.2.1/\(y.1.pl.length:Int)=(dU y.1 y.2.1 y.2.2).pl.length/\(y.1.us.length:Int)=(dU y.1 y.2.1 y.2.2).us.length/\y.1.us=(dU y.1 y.2.1 y.2.2).us/\y.1.pl=(dU y.1 y.2.1 y.2.2).pl:=λh=>by
  grind [dU]
 refine⟨λk1=>no ?_,λk1=>⟨λk2=>no ?_,λk2=>⟨a,λk3=>no ?_,λk3=>⟨k1,k2,?_⟩⟩⟩⟩
 ·grind [ga]
 ·grind [ga]
 ·grind [ga]
 ·grind [ga,dU]
def QdS:Ok Th:=okZ (V:=QdO) [] f167 (λ_=>dk ()) trivial λy a=>by
 unfold QdO;simp only[bN,bj,aw];exact⟨ω,rfl,rfl⟩
def Qrc (y:Int) (a:0<=y/\y<=4096):Tj y:=by
 unfold Tj;simp only[bN,bj,aw,bq];exact⟨λh=>ω,λ_=>⟨λh=>ω,λ_=>⟨a.1,ZaQ _,ω,rfl,rfl,rfl,rfl⟩⟩⟩
def QdT:Ok Ti:=okZ [] f116 (λ_=>dk ()) trivial Qrc
theorem Tk:Ok Fh:=okZ (V:=QdP) [] f33 (λ_=>dk ()) trivial λy a=>by
 unfold QdP;simp only[bN,bj,aw,Zan,Zao];obtain⟨h1,b,c⟩:0<=y.n/\y.n<=200/\(y.l->y.n=0):=a;grind
theorem Tm:Ok Fi:=okZ (V:=QdQ) [] f34 (λ_=>dk ()) trivial λy a=>by
 unfold QdQ;simp only[bN,bj];obtain⟨h1,b⟩:0<=y.1.n/\y.1.n<=200:=a;unfold II κ;grind
def OL:bp D:=⟨118,Unit,λ_ _=>.ret (),λ_=>True,λ_=>[],λ_=>[],λ_=>.agg [Qyy (-1),Qyy (-1),Qyy (-1),Qyy (-1),Qyy (-1),Qyy (-1),Qyy (-1),Qyy (-1),Qyy (-1),Qyy (-1)],λ_=>[],0,0⟩
structure iY where
 ag:List a8
 ai:List Int
def Mg (y:iY):Prop:=y.ag.length<=1000/\y.ai.length<=1000/\∀x∈y.ag,x.bz.length<=1000000
def Fj (y:iY):AV D.E:=.agg [.list 8 y.ag,.list 5 y.ai]
def IJ (v:AV D.E) (s:St D.E):C iY:=aB (asAgg v) λcs=>match cs with
 | [c,l]=>aB (aW D s 8 c) λc=>aB (aW D s 5 l) λl=>.ret ⟨c,l⟩
 | _=>.fail
def OM:bp D:=⟨117,iY,λa s=>match a with
 | [p]=>IJ p s
 | _=>.fail,Mg,λy=>[Fj y],λ_=>[],Fj,λ_=>[],0,0⟩
def QjO (y:OM.Y):dj D:=⟨[],[],[(58,⟨Nat,[2,11,12],λk=>[(3,.ptr 3 0),(13,Qyy k)],[1],λk=>[(3,.cells [.grow 8 (y.ag.take k) 4,.list 5 y.ai] 69 false),(4,.tok 8 146)],5,λk=>k<=y.ag.length,λk=>y.ag.length-k⟩)],[],1,[]⟩
structure iB where
 p:iY
 aq:Int
 L:List db
 s:jb
variable {y:By} {i:Nat}
def CY (b m n:Nat) (y:iB):List (Nat×AO D.E):=(b,.cells [.list 8 y.p.ag,.list 5 y.p.ai,.int .i64 y.aq,.own n 12 (ab y.L),.ptr (b+1) 0] 189 false)::(spO (b+1) (b+2) m y.s++[(n,.arr 2 y.L 113 false)])
def Fl (b:Nat) (y:iB):List (Nat×AO D.E):=CY b (b+3) (b+4) y
def IK (v:AV D.E) (s:St D.E):C iB:=match v with
 | .ptr b _=>aB (dg (s.h.get b)) λo=>match o with
  | .cells cs _ _=>match cs with
   | [c,l,n,x,q]=>aB (aW D s 8 c) λc=>aB (aW D s 5 l) λl=>aP (cQ n) λ_ n=>aB (aW D s 2 x) λx=>aB (η q s) λq=>.ret ⟨⟨c,l⟩,n,x,q⟩
   | _=>.fail
  | _=>.fail
 | _=>.fail
def ON (a:List (AV D.E)) (s:St D.E):C iB:=match a with
 | [p]=>IK p s
 | _=>.fail
def jH:List db:=[]
def Tn:bp D:=⟨145,iB,ON,λy=>y.p.ag.length<=4096,λ_=>[.ptr 0 0],Fl 0,λ_=>.ptr 5 0,λy=>Fl 0 y++Fl 5 ⟨y.p,0,jH,⟨rE y.p.ag.length,gI⟩⟩,5,10⟩
def fL (s:Int):db:=⟨false,-1,-1,-1,-1,-1,-1,-1,-1,-1,-1,[⟨s,-1,-1,-1,-1,-1,-1,-1,-1,-1,-1⟩]⟩
def OO (y:iB) (k:Nat):iB:={ y with L:=y.L++(y.p.ai.take k).map fL }
def OP:bp D:=⟨108,iB,ON,λy=>y.p.ai.length+y.L.length<=1000000,λ_=>[.ptr 0 0],Fl 0,λ_=>.tuple [],λy=>CY 0 3 5 (OO y y.p.ai.length),5,6⟩
def Qrg (y:OP.Y):dj D:=⟨[],[],[(6,⟨Nat,[0,8,9],λk=>[(10,Qyy k)],[],λk=>CY 0 3 5 (OO y k),6,λk=>k<=y.p.ai.length,λk=>y.p.ai.length-k⟩)],[],1,[]⟩
def QdU (y:Unit):Prop:=aa ([-1,-1,-1,-1,-1,-1,-1,-1,-1,-1]:List Int) (True)
abbrev RAO {T0:Type} (a:T0) (p:Prop):Prop:=aa [a] p
def Mh (y:iY):Prop:=let a:=y.ag.length;let q1:=ab y.ag;ba (ab y.ai) 8=true/\(∃z:Nat,RAP y.ag q1 (0=(z:Int)/\[]=List.take z y.ag/\aa [y.ai] ((Iv (z<=a)))))/\(∀x:Nat,let b:=List.take x y.ag;let c:=gt (a8.mk 0 0 0 []) y.ag (x:Int).toNat;(Iv (x<=a))->aj (aD (x:Int) q1) (aM 0 (x:Int)=true/\aD (x:Int) q1=true/\ba (ab c.bz) 8=true/\ba (ab (bn b [c])) 48=true/\∃z:Nat,RAP y.ag q1 (ay .i64 (x:Int) 1=(z:Int)/\bn b [c]=List.take z y.ag/\aa [y.ai] ((Iv (z<=a/\(a-z)<(a-x)))))) (b=y.ag/\RAO y.ai (True)))
abbrev RA2 (v:iY) (p:Prop):Prop:=aa [v.ag] (aa [v.ai] p)
abbrev RAG (p:Prop):Prop:=aa ([0]:List Int) p
def QdV (y:iB):Prop:=let a:=ab y.p.ag;let q1:=rE (y.p.ag.length:Int);Iv (0<=a/\a<=4096)/\RAO a (RA2 y.p (RAG (0=ab jH/\ab (rE a)=ab q1/\aa [ab gI] (aa [gI] (rE a=q1/\[]=jH/\aa [y.p.ag] (aa [y.p.ai] (aa [y.aq,ab y.L,ab y.s.pl,ab y.s.us] (aa [y.s.pl] (aa [y.s.us] (aa [y.L] (True)))))))))))
def QdW (y:iB):Prop:=let a:=ab y.p.ai;let q1:=y.p.ai.length;let d:=λp:Prop=>RA2 y.p (RAO y.aq p);let e:=λp:Prop=>RAR (ab y.s.pl) (ab y.s.us) y.s.pl y.s.us p;let u:=λz:Nat=>y.L++List.map fL (List.take z y.p.ai);let A:=λx:Nat=>y.L++List.map fL (List.take x y.p.ai);let B:=y.L++List.map fL (List.take q1 y.p.ai);(∃z:Nat,RAP y.p.ai a (0=(z:Int)/\d (ab y.L=ab (u z)/\y.L=(u z)/\e ((Iv (z<=q1))))))/\(∀x:Nat,let b:=ab (A x);let c:=bn (A x) [db.mk false (-1) (-1) (-1) (-1) (-1) (-1) (-1) (-1) (-1) (-1) [a7.mk (gt 0 y.p.ai (x:Int).toNat) (-1) (-1) (-1) (-1) (-1) (-1) (-1) (-1) (-1) (-1)]];(Iv (x<=q1))->aj (aD (x:Int) a) (aM 0 (x:Int)/\aD (x:Int) a/\Iv True/\Iv True/\ba (ab c) 112/\RAQ b b b (∃z:Nat,aa [y.p.ai] (aa [a] (ay .i64 (x:Int) 1=(z:Int)/\d (ab c=ab (u z)/\c=(u z)/\e ((Iv (z<=q1/\(q1-z)<(q1-x))))))))) (d (b=ab B/\(A x)=B/\e (True))))
theorem To:Ok OL:=okZ (V:=QdU) [] f118 (λ_=>⟨[],[],[],[],11,[]⟩) trivial λy a=>by
 grind [QdU]
theorem QjP (y:iY) (a:Mg y):Mh y:=by
 unfold Mh;simp only[bN,bj,aw,bq,a_,dL,Zad];obtain⟨h1,b,c⟩:y.ag.length<=1000/\y.ai.length<=1000/\∀x∈y.ag,x.bz.length<=1000000:=a;grind [List.take_append_getElem]
def QjQ:Ok OM:=okZ [] f117 QjO trivial QjP
def QdX:Ok Tn:=okZ (V:=QdV) [Ti] f145 (λ_=>dk ()) QdT λy a=>by
 unfold QdV;simp only[bN,bj,aw];have h:y.p.ag.length<=4096:=a;exact⟨⟨ω,ω⟩,rfl,rfl⟩
theorem Tp (L:List db) {l:List Int} (h:i<l.length):L++(l.take i).map fL++[fL (l.getD i 0)]=L++(l.take (i+1)).map fL:=by
 grind [List.take_append_getElem]
theorem QdY:Ok OP:=okZ (V:=QdW) [OL] f108 Qrg To λy a=>by
 unfold QdW;simp only[bN,bj,aw,bq,a_,dL,Zad];have h:y.p.ai.length+y.L.length<=1000000:=a;refine⟨⟨0,rfl,by simp,by simp,Zaj _⟩,λx b=>⟨λk=>?_,λk=>?_⟩⟩
 ·have hk:x<y.p.ai.length:=ω;have e:=Tp y.L hk;have hl:(y.L++(y.p.ai.take (x+1)).map fL).length<=1000001:=by
   grind
  refine⟨ω,k,?_,x+1,bA ω ω,ZaR (λl:List db=>(l.length:Int)) e,e,ω,ω⟩;grind
 ·grind
def IL (y:Int):Prop:=let c:=(ck y.toNat).2;let q1:=(ck y.toNat).1;let a:=(c.2:Int);let b:=(c.1:Int);let d:Prop:=((-1)=q1/\0=b/\0=a/\True);aj (aD y 128) (0=q1/\0=b/\0=a/\True) (aj (aD y 194) (d) (aj (aD y 224) (1=q1/\128=b/\191=a/\True) (aj (aE y 224) (2=q1/\160=b/\191=a/\True) (aj (aE y 237) (2=q1/\128=b/\159=a/\True) (aj (aD y 240) (2=q1/\128=b/\191=a/\True) (aj (aE y 240) (3=q1/\144=b/\191=a/\True) (aj (aD y 244) (3=q1/\128=b/\191=a/\True) (aj (aE y 244) (3=q1/\128=b/\143=a/\True) (d)))))))))
def CZ (y:List UInt8):Prop:=let c:=ab y;let q1:=((gt 0 y 0).toNat:Int);let a:=(ck q1.toNat).1;let i:=(ck q1.toNat).2;let f:=(i.2:Int);let g:=(i.1:Int);let d:Prop:=(0=(bK y).1/\0=(bK y).2/\false=gy y/\True);aj (aE c 0) (d) (Tt 1 (aD 0 c/\Iv (IG q1)/\RAO q1 (aj (aD a 0) (d) (Tt 1 (aD 0 c/\(aj (aD 0 a) (Tt 1 (aD 0 c/\aM 0 (xf .u64 a)/\Tt 1 (∃z:Unit,aa [y] (aa [a,g,f] (rC .i32 (xf .i32 q1) (QiX .i32 63 (xf .u64 a))=vW y/\(Iv True)))))) (∃z:Unit,aa [y] (aa [a,g,f] (xf .i32 q1=vW y/\(Iv True)))))/\(∀x:Unit,(Iv True)->(∃z:Nat×Int,aa [y] (aa [a] (vW y=z.2/\g=vV y z.1/\f=uz y z.1/\1=(z.1:Int)/\(Iv (yg y z.1 z.2)))))/\(∀x1:Nat×Int,let b:=(x1.1:Int);let h:=((gt 0 y b.toNat).toNat:Int);let j:=aD (uz y x1.1) h;let e:=aD h (vV y x1.1);(Iv (yg y x1.1 x1.2))->aj (aM b a) (aj (aM c b) (0=(bK y).1/\0=(bK y).2/\true=gy y/\True) (aM 0 b/\aD b c/\aj e (d) (aM 0 b/\aD b c/\aj j (d) (Tt 1 (aM 0 b/\aD b c/\∃z:Nat×Int,aa [y] (aa [a] (QP .i32 (ud .i32 x1.2 6) (xf .i32 (rC .u8 h 63))=z.2/\128=vV y z.1/\191=uz y z.1/\ay .i64 b 1=(z.1:Int)/\(Iv (yg y z.1 z.2/\(5-z.1)<(5-x1.1)))))))))) (x1.2=(bK y).1/\ay .i64 a 1=(bK y).2/\false=gy y/\True))))))))
def Tr (y:List UInt8):Prop:=let u:=λz:(List UInt8)×(List (Int×Int))=>(z.2++bk z.1)=bk y/\(z.1.length+z.2.length)<=y.length;(∃z:(List UInt8)×(List (Int×Int)),y=z.1/\[]=z.2/\(Iv (u z)))/\(∀x:(List UInt8)×(List (Int×Int)),let a:=(bK x.1).2;let q1:=bn x.2 [(65533,1)];let b:=bn x.2 [((bK x.1).1,a)];(Iv ((x.2++bk x.1)=bk y/\(x.1.length+x.2.length)<=y.length))->aj (aD 0 (ab x.1)) (Iv True/\RAO x.1 (aj (aE a 0) (ba (ab q1) 16/\Tt 1 (aM 1 (ab x.1)/\∃z:(List UInt8)×(List (Int×Int)),o_ x.1 1=z.1/\q1=z.2/\(Iv ((u z)/\z.1.length<x.1.length)))) (ba (ab b) 16/\aM 0 a/\aM a (ab x.1)/\∃z:(List UInt8)×(List (Int×Int)),o_ x.1 a=z.1/\b=z.2/\(Iv ((u z)/\z.1.length<x.1.length))))) (x.2=bk y/\True))
theorem QjR (y:Int) (a:Bg.pre y):IL y:=by
 obtain⟨h1,b⟩:IG y:=a;obtain⟨n,rfl⟩:=Zau h1;unfold IL;simp only[bN,ej,Zad];refine⟨λh=>?_,λh=>⟨λh=>?_,λh=>⟨λh=>?_,λh=>⟨λh=>?_,λh=>⟨λh=>?_,λh=>⟨λh=>?_,λh=>⟨λh=>?_,λh=>⟨λh=>?_,λh=>⟨λh=>?_,λh=>?_⟩⟩⟩⟩⟩⟩⟩⟩⟩
 all_goals
  grind [ck]
def Qgh:Ok Bg:=okZ [] f121 QjL trivial QjR
def nH (y:By) (i:Nat):((y.getD i 0).toNat:Int)<256:=by have:=(y.getD i 0).toNat_lt;omega
theorem qW (h:y≠[]):bK y=if (mo y).1<0 then(0,0) else match dM (mo y).1.toNat (vW y) (mo y).2.1 (mo y).2.2 (y.drop 1) with
  | some r=>(r,(mo y).1+1)
  | none=>(0,0):=by
 cases y with
 | nil=>exact absurd rfl h
 | cons c t=>rfl
theorem Qgi {y:By}:0<=vW y/\vW y<256:=by
 have:=nH y 0;grind [vW,syn.start]
theorem Qgj (h:0<=(mo y).1):vW y<128:=by
 have:=nH y 0;unfold vW syn.start mo at*
 repeat' split
 all_goals grind [ck]
theorem Qgk (y:By) (n:r_.pre y):CZ y:=by
 have m:=(jQ (y.getD 0 0).toNat).1;have g:=(jQ (y.getD 0 0).toNat).2;have l:ck (y.getD 0 0).toNat=mo y:=rfl;rw[l] at m g;have B:=nH y 0;unfold CZ;simp only[bN,ej,aw,gt,Zad,l];have hl:(y.length:Int)≠0->y≠[]:=λh e=>h (by grind)
 refine⟨λh=>?_,λh=>⟨ω,⟨by grind [IG]⟩,λj=>?_,λj=>⟨ω,⟨λp=>⟨ω,?_,?_⟩,λp=>⟨(),?_,⟨trivial⟩⟩⟩,λ_ _=>⟨⟨(1,vW y),rfl,by rfl,by rfl,rfl,⟨?_⟩⟩,λx A=>?_⟩⟩⟩⟩
 ·obtain rfl:y=[]:=Zap ω;exact⟨rfl,rfl,rfl⟩
 ·grind [qW,gy]
 ·grind [QjH]
 ·refine⟨(),?_,⟨trivial⟩⟩;rw[wN (k:=.i32) (by show(-2147483648:Int)<=_;omega) (by show _<=(2147483647:Int);omega),QjH ω ω];unfold vW syn.start;rcases m with e | e | e | e | e
  ·omega
  ·omega
  ·rw[e];exact Td (k:=.i32) ω (by show _<=(2147483647:Int);omega)
  ·rw[e];exact Te (k:=.i32) ω (by show _<=(2147483647:Int);omega)
  ·rw[e];exact QdI (k:=.i32) ω (by show _<=(2147483647:Int);omega)
 ·rw[wN (k:=.i32) (by show(-2147483648:Int)<=_;omega) (by show _<=(2147483647:Int);omega)];grind [vW,syn.start]
 ·have:=@Qgi y;refine⟨Zah _,ω,this.1,by have:=Qgj j;simpa using this,?_,?_⟩
  ·rfl
  ·rfl
 ·obtain⟨i,r⟩:=x;obtain⟨i1,i2,i3,i4,i5,i6⟩:yg y i r:=A.out;have f:=hl h;have b:=qW f;rw[Zaa ω] at b;have hk:i<=4:=ω;have bi:=nH y i;have a:gy y=ki (mo y).1.toNat (mo y).2.1 (mo y).2.2 (y.drop 1):=by grind [gy]
  simp only at*
  rw[i5] at b;rw[i6] at a;refine⟨λq=>?_,λq=>?_⟩
  ·obtain⟨d,c⟩:∃d,(mo y).1.toNat+1-i=d+1:=⟨(mo y).1.toNat-i,ω⟩;rw[c] at b a;refine⟨λs=>?_,λs=>⟨ω,ω,?_⟩⟩
   ·have e:y.drop i=[]:=Zbu ω;rw[e] at b a;rw[b,a];exact⟨rfl,rfl,rfl⟩
   ·have e:y.drop i=y.getD i 0::y.drop (i+1):=by
     simp_all
    rw[e] at b a;simp only[dM,ki] at b a;have z:0<=vV y i:=by grind [vV]
    have w:0<=uz y i:=by unfold uz;split<;>omega
    have bad:((y.getD i 0).toNat:Int)<vV y i\/uz y i<((y.getD i 0).toNat:Int)->bK y=(0,0)/\gy y=false:=λv=>by
     grind
    refine⟨λt=>?_,λt=>⟨ω,ω,λu=>?_,λu=>⟨ω,ω,?_⟩⟩⟩
    ·grind
    ·grind
    ·rw[Tc (k:=.u8) ω (by show _<=(255:Int);omega),wN (k:=.i32) (by show(-2147483648:Int)<=_;omega) (by show _<=(2147483647:Int);omega)];have v:r<524288:=by
      have hi:i=1\/i=2\/i=3:=ω;grind
     rw[six i3 ω ω ω];refine⟨(i+1,r*64+((y.getD i 0).toNat:Int) % 64),rfl,by simp[vV];omega,by simp[uz];omega,bA ω ω,⟨⟨ω,ω,ω,?_,?_,?_⟩,ω⟩⟩
     ·have hi:i=1\/i=2\/i=3:=ω;grind
     ·rw[i5,c,e];simp only[dM];rw[Zaa ω];have o:vV y (i+1)=128:=by grind [vV]
      have e2:uz y (i+1)=191:=by unfold uz;rw[Zaa ω]
      grind
     ·rw[i6,c,e];simp only[ki];rw[Zaa ω];have o:vV y (i+1)=128:=by grind [vV]
      have e2:uz y (i+1)=191:=by unfold uz;rw[Zaa ω]
      grind
  ·rw[show(mo y).1.toNat+1-i=0 by omega] at b a;grind [dM,ki]
def C0:Ok r_:=okZ [Bg] f86 Qgf Qgh Qgk
theorem Fp (h:y≠[]) (h0:(bK y).2=0):bk y=(65533,1)::bk (y.drop 1):=by
 have b:=Zbe.2 h;unfold bk;obtain⟨n,a⟩:∃n,y.length=n+1:=⟨y.length-1,ω⟩;grind [nG]
theorem Mi (h:y≠[]) (h0:(bK y).2=i) (a:1<=i):bk y=bK y::bk (y.drop i):=by
 have c:=Zbe.2 h;unfold bk;obtain⟨n,b⟩:∃n,y.length=n+1:=⟨y.length-1,ω⟩;grind [pY,r9]
theorem Qri (y:By) (b:IH.pre y):Tr y:=by
 have b:y.length<=1000000:=b;unfold Tr;simp only[bN,ej,aw,a_,bq];refine⟨⟨(y,[]),rfl,rfl,⟨rfl,by simp⟩⟩,λx f=>?_⟩;obtain⟨l,out⟩:=x;obtain⟨h1,g⟩:=f.out;simp only at*
 refine⟨λh=>⟨⟨trivial⟩,λc=>?_,λc=>?_⟩,λh=>?_⟩
 ·have a:l≠[]:=λe=>by grind
  refine⟨by grind,ω,(l.drop 1,out++[(65533,1)]),rfl,rfl,⟨⟨?_,by grind⟩,by grind⟩⟩;grind [Fp]
 ·have a:l≠[]:=λe=>by grind
  rcases jR l with h0 | ⟨m,d,m1,m2,_⟩
  ·omega
  ·refine⟨by grind,ω,ω,(l.drop m,out++[bK l]),?_,rfl,⟨⟨?_,by grind⟩,by grind⟩⟩
   ·rw[d];rfl
   ·grind [Mi]
 ·obtain rfl:l=[]:=Zap ω;grind [bk,jk]
def QjS:Ok IH:=okZ [r_] f50 Qq3 C0 Qri
def in2 (args:List (AV D.E)):C (Int×Int):=match args with
 | [a,b]=>aP (cQ a) λ_ m=>aP (cQ b) λ_ n=>.ret (m,n)
 | _=>.fail
def Bh:bp D:=cq 160 Int (λa _=>in1 a) IG (λy=>[.int .u8 y]) λy=>Qyy ((ck y.toNat).1+1)
def QjT (_:Bh.Y):dj D:=dk ()
def OS (c d:Int):Bool:=if c=224 then decide (160<=d)&&decide (d<=191) else if c=237 then decide (128<=d)&&decide (d<=159) else if c=240 then decide (144<=d)&&decide (d<=191)
 else if c=244 then decide (128<=d)&&decide (d<=143) else decide (128<=d)&&decide (d<=191)
def OT:bp D:=cq 161 (Int×Int) (λa _=>in2 a) (λ_=>True) (λy=>[.int .u8 y.1,.int .u8 y.2]) λy=>.bool (OS y.1 y.2)
def Qrj (_:OT.Y):dj D:=dk ()
def rV (y:By):Option Int:=dM (mo y).1.toNat (vW y) (mo y).2.1 (mo y).2.2 (y.drop 1)
def yh (y:By):Bool:=ki (mo y).1.toNat (mo y).2.1 (mo y).2.2 (y.drop 1)
def fX (y:By):Int×Int:=if y=[]\/(mo y).1<0 then(0,0) else if (rV y).isSome then((mo y).1+1,(mo y).1+1) else if yh y then(y.length,(mo y).1+1) else(0,0)
def Bi:bp D:=cq 136 By Tf (λ_=>True) (λy=>[.list 0 y]) λy=>.tuple [Qyy (fX y).1,Qyy (fX y).2]
def vF (y:By) (i:Nat):Prop:=1<=i/\(i:Int)<=(mo y).1+1/\i<=y.length/\(∃r,rV y=dM ((mo y).1.toNat+1-i) r (vV y i).toNat (uz y i).toNat (y.drop i))/\yh y=ki ((mo y).1.toNat+1-i) (vV y i).toNat (uz y i).toNat (y.drop i)
def QjV (y:Bi.Y):dj D:=⟨[],[],[(122,⟨Nat,[0,4],λx=>[(5,Qyy x)],[],λ_=>[],0,λx=>vF y x,λx=>5-x⟩)],[],1,[]⟩
def vX (y:By):Gt:=if (bK y).2=0 then(65533,1) else bK y
def Bj:bp D:=cq 98 By Tf (λ_=>True) (λy=>[.list 0 y]) λy=>.agg (eQ 13 (vX y))
def QjX (y:Bj.Y):dj D:=⟨[],[],[],[(31,⟨Unit,[0,2,4],λ_=>[(5,.int .i32 (vX y).1)],[0],λ_=>[],1,λ_=>True,λ_=>0⟩)],1,[]⟩
def yi:bp D:={ IH with f:=61 }
def QjZ (y:yi.Y):dj D:=⟨[],[],[(28,⟨By×List Gt,[],λx=>[(0,.list 0 x.1),(3,.grow 13 x.2 0)],[],λ_=>[(0,.tok 13 135)],1,λx=>x.2++bk x.1=bk y/\x.1.length+x.2.length<=y.length,λx=>x.1.length⟩)],[],1,[]⟩
def IM (y:Int):Prop:=let a:Prop:=(0=((ck y.toNat).1+1)/\True);let q1:Prop:=(aj (aM 240 y) (aj (aM y 244) (4=((ck y.toNat).1+1)/\True) (a)) (a));let b:Prop:=(aj (aM 224 y) (aj (aM y 239) (3=((ck y.toNat).1+1)/\True) (q1)) (q1));aj (aD y 128) (1=((ck y.toNat).1+1)/\True) (aj (aM 194 y) (aj (aM y 223) (2=((ck y.toNat).1+1)/\True) (b)) (b))
def Tu (y:Int×Int):Prop:=let a:=OS y.1 y.2;aj (aE y.1 224) (aj (aM 160 y.2) (aM y.2 191=a/\True) (false=a/\True)) (aj (aE y.1 237) (aj (aM 128 y.2) (aM y.2 159=a/\True) (false=a/\True)) (aj (aE y.1 240) (aj (aM 144 y.2) (aM y.2 191=a/\True) (false=a/\True)) (aj (aE y.1 244) (aj (aM 128 y.2) (aM y.2 143=a/\True) (false=a/\True)) (aj (aM 128 y.2) (aM y.2 191=a/\True) (false=a/\True)))))
def IN (y:List UInt8):Prop:=let c:=ab y;let q1:=(fX y).1;let f:=((gt 0 y 1).toNat:Int);let b:=((gt 0 y 0).toNat:Int);let l:=aD c ((ck b.toNat).1+1);let m:=aE ((ck b.toNat).1+1) 0;let k:=λp:Prop=>RAP y ((ck b.toNat).1+1) p;let e:Prop:=(0=q1/\0=(fX y).2/\True);let i:Prop:=(((ck b.toNat).1+1)=(fX y).2/\True);let j:Prop:=(aj l (c=q1/\i) (((ck b.toNat).1+1)=q1/\i));aj (aE c 0) (e) (Tt 1 (aD 0 c/\Iv (IG b)/\RAO b (aj m (e) (Tt 1 (aD 0 c/\Iv (IG b)/\aa [b] ((∃z:Nat,k (1=(z:Int)/\(Iv (vF y z))))/\(∀x:Nat,let a:=((gt 0 y (x:Int).toNat).toNat:Int);let g:=aD (x:Int) ((ck b.toNat).1+1);let d:Prop:=(∃z:Nat,k (ay .i64 (x:Int) 1=(z:Int)/\(Iv (vF y z/\(5-z)<(5-x)))));let h:Prop:=(aa [a,a] (aj (aD 191 a) (e) (d)));(Iv (vF y x))->aj g (aj (aD (x:Int) c) (aj (aE (x:Int) 1) (Tt 1 (aD 0 c/\Tt 1 (aD 1 c/\Iv True/\aa [b,f] (aj (!(OS b f)) (aa [b,f] (e)) (aj (aD 1 (x:Int)) (aM 0 (x:Int)/\aD (x:Int) c/\aj (aD a 128) (aa [b,f,a] (e)) (aM 0 (x:Int)/\aD (x:Int) c/\aa [b,f,a,a] (aj (aD 191 a) (e) (d)))) (aa [b,f] (d))))))) (aj (aD 1 (x:Int)) (aM 0 (x:Int)/\aD (x:Int) c/\aj (aD a 128) (aa [a] (e)) (aM 0 (x:Int)/\aD (x:Int) c/\h)) (d))) (j)) (j))))))))
def IP (y:List UInt8):Prop:=let c:=(fX y).2;let q1:=(vX y).1;let j:=aE (fX y).1 0;let k:=aD (fX y).1 c;let h:=((gt 0 y 3).toNat:Int);let f:=((gt 0 y 2).toNat:Int);let b:=((gt 0 y 0).toNat:Int);let e:=((gt 0 y 1).toNat:Int);let i:=xf .i32 (rC .u8 f 63);let g:=xf .i32 (rC .u8 e 63);let a:=λp:Prop=>RAP y c p;let d:Prop:=(65533=q1/\1=(vX y).2/\True);Iv True/\RAO y (aj j (d) (aj k (d) (Tt 1 (aD 0 (ab y)/\(aj (aE c 2) (Tt 1 (aD 0 (ab y)/\Tt 2 (aD 1 (ab y)/\aa [b,e] (∃z:Unit,a (QP .i32 (ud .i32 (xf .i32 (rC .u8 b 31)) 6) g=q1/\(Iv True)))))) (aj (aE c 3) (Tt 1 (aD 0 (ab y)/\Tt 2 (aD 1 (ab y)/\Tt 2 (aD 2 (ab y)/\aa [b,e,f] (∃z:Unit,a (QP .i32 (QP .i32 (ud .i32 (xf .i32 (rC .u8 b 15)) 12) (ud .i32 g 6)) i=q1/\(Iv True))))))) (aj (aE c 4) (Tt 1 (aD 0 (ab y)/\Tt 2 (aD 1 (ab y)/\Tt 2 (aD 2 (ab y)/\Tt 2 (aD 3 (ab y)/\aa [b,e,f,h] (∃z:Unit,a (QP .i32 (QP .i32 (QP .i32 (ud .i32 (xf .i32 (rC .u8 b 7)) 18) (ud .i32 g 12)) (ud .i32 i 6)) (xf .i32 (rC .u8 h 63))=q1/\(Iv True)))))))) (∃z:Unit,a (xf .i32 b=q1/\(Iv True))))))/\(∀x:Unit,(Iv True)->aa [q1] (c=(vX y).2/\True))))))
def IQ (y:List UInt8):Prop:=(∃z:(List UInt8)×(List (Int×Int)),y=z.1/\[]=z.2/\(Iv ((z.2++bk z.1)=bk y/\(z.1.length+z.2.length)<=y.length)))/\(∀x:(List UInt8)×(List (Int×Int)),let a:=(vX x.1).2;let q1:=bn x.2 [((vX x.1).1,a)];(Iv ((x.2++bk x.1)=bk y/\(x.1.length+x.2.length)<=y.length))->aj (aD 0 (ab x.1)) (Iv True/\RAO x.1 (ba (ab q1) 16/\aM 0 a/\aM a (ab x.1)/\∃z:(List UInt8)×(List (Int×Int)),o_ x.1 a=z.1/\q1=z.2/\(Iv (((z.2++bk z.1)=bk y/\(z.1.length+z.2.length)<=y.length)/\z.1.length<x.1.length)))) (x.2=bk y/\True))
theorem Qj1 (y:Int) (a:Bh.pre y):IM y:=by
 grind [ck,IM]
def Qgl:Ok Bh:=okZ [] f160 QjT trivial Qj1
theorem Qrl (y:Int×Int) (a:OT.pre y):Tu y:=by
 grind [Tu,OS]
def Qj2:Ok OT:=okZ [] f161 Qrj trivial Qrl
theorem Ty (h:1<=(mo y).1) (d:Int):OS ((y.getD 0 0).toNat:Int) d=(decide (((mo y).2.1:Int)<=d)&&decide (d<=((mo y).2.2:Int))):=by
 unfold mo at*
 generalize (y.getD 0 0).toNat=n at*
 have a:((n=224/\ck n=(2,160,191))\/(n=237/\ck n=(2,128,159))\/(n=240/\ck n=(3,144,191))\/(n=244/\ck n=(3,128,143))\/(n≠224/\n≠237/\n≠240/\n≠244/\(ck n).2=(128,191))):=by
  unfold ck at h ⊢
  repeat' split at h
  all_goals grind
 grind [OS]
theorem Bk (h:vF y i) (h1:(i:Int)<(mo y).1+1) (g:i<y.length):
  (((y.getD i 0).toNat:Int)<vV y i\/uz y i<((y.getD i 0).toNat:Int)->fX y=(0,0))/\(¬(((y.getD i 0).toNat:Int)<vV y i\/uz y i<((y.getD i 0).toNat:Int))->vF y (i+1)):=by
 have⟨i1,i2,i3,⟨r,i4⟩,i5⟩:=h;obtain⟨d,b⟩:∃d,(mo y).1.toNat+1-i=d+1:=⟨(mo y).1.toNat-i,ω⟩;have e:y.drop i=y.getD i 0::y.drop (i+1):=by
  simp_all
 have c:0<=uz y i:=by unfold uz;split<;>omega
 have f:vV y (i+1)=128:=by grind [vV]
 have e2:uz y (i+1)=191:=by unfold uz;rw[Zaa ω]
 rw[b,e] at i4 i5;simp only[dM,ki] at i4 i5;refine⟨λa=>?_,λa=>⟨ω,ω,ω,⟨r*64+(y.getD i 0).toNat % 64,?_⟩,?_⟩⟩
 ·grind [fX]
 all_goals grind
theorem Tz (a:y≠[]) (h0:0<=(mo y).1) (h:vF y i) (h1:(mo y).1+1<=i\/y.length<=i):fX y=(min (y.length:Int) ((mo y).1+1),(mo y).1+1):=by
 have⟨i1,i2,i3,⟨r,i4⟩,i5⟩:=h;unfold fX;rw[Zaa (λh=>h.elim a ω)];by_cases hk:(mo y).1+1<=i
 ·rw[show(mo y).1.toNat+1-i=0 by omega] at i4;rw[i4];show(if (true:Bool)=true then _ else _)=_
  grind
 ·obtain⟨d,b⟩:∃d,(mo y).1.toNat+1-i=d+1:=⟨(mo y).1.toNat-i,ω⟩;rw[b,Zbu ω] at i4 i5;rw[i4,i5,show min (y.length:Int) ((mo y).1+1)=y.length by omega];rfl
theorem Qj3 (y:By) (m:Bi.pre y):IN y:=by
 have t:=(jQ (y.getD 0 0).toNat).1;have l:ck (y.getD 0 0).toNat=mo y:=rfl;rw[l] at t;have w:=nH y 0;have hl:(y.length:Int)≠0->y≠[]:=λh e=>h (by grind)
 unfold IN;simp only[bN,ej,aw,gt,Zad,l,Zan,Zao];refine⟨λh=>?_,λh=>⟨ω,⟨by grind [IG]⟩,λo=>?_,λo=>⟨ω,⟨by grind [IG]⟩,⟨1,rfl,?_⟩,λi hi=>?_⟩⟩⟩
 ·obtain rfl:y=[]:=Zap ω;exact⟨rfl,rfl⟩
 ·grind [fX]
 ·exact⟨Zah _,ω,ω,⟨vW y,by rfl⟩,by rfl⟩
 ·have hi:=hi.out;have j:=hl h;have r:=hi.1;have s:=hi.2.1;have step:(i:Int)<(mo y).1+1->(i:Int)<y.length->¬(((y.getD i 0).toNat:Int)<vV y i\/uz y i<((y.getD i 0).toNat:Int))->∃z:Nat,ay .i64 (i:Int) 1=(z:Int)/\Iv (vF y z/\5-z<5-i):=λa b c=>
   ⟨i+1,bA ω ω,(Bk hi a ω).2 c,ω⟩
  have stop:(i:Int)<(mo y).1+1->(i:Int)<y.length->(((y.getD i 0).toNat:Int)<vV y i\/uz y i<((y.getD i 0).toNat:Int))->(0:Int)=(fX y).1/\(0:Int)=(fX y).2:=λa b c=>by
   rw[(Bk hi a ω).1 c];exact⟨rfl,rfl⟩
  have en:(mo y).1+1<=i\/(y.length:Int)<=i->fX y=(min (y.length:Int) ((mo y).1+1),(mo y).1+1):=λa=>Tz j ω hi ω
  have u:i=1->vV y i=(mo y).2.1/\uz y i=(mo y).2.2:=λe=>by subst e;exact⟨rfl,rfl⟩
  have v:i≠1->vV y i=128/\uz y i=191:=λe=>by unfold vV uz;rw[Zaa e,Zaa e];exact⟨rfl,rfl⟩
  have fin:(mo y).1+1<=i\/(y.length:Int)<=i->(((y.length:Int)<(mo y).1+1->(y.length:Int)=(fX y).1/\(mo y).1+1=(fX y).2)/\((mo y).1+1<=(y.length:Int)->(mo y).1+1=(fX y).1/\(mo y).1+1=(fX y).2)):=λa=>by
   rw[en a];exact⟨λb=>⟨ω,rfl⟩,λb=>⟨ω,rfl⟩⟩
  refine⟨λd=>⟨λf=>⟨λp=>⟨ω,ω,⟨trivial⟩,?_⟩,λp=>?_⟩,λf=>fin (.inr f)⟩,λd=>fin (.inl d)⟩
  ·obtain rfl:i=1:=ω;rw[Ty ω];have⟨n,e2⟩:=u rfl;have st:=stop d f;have sp:=step d f;simp only[Zbz,ZaW,ZaP,Zbi];refine⟨λg=>st ω,λg=>⟨λk=>ω,λ_=>sp ω⟩⟩
  ·have⟨n,e2⟩:=v ω;have st:=stop d f;have sp:=step d f;refine⟨λg=>⟨ω,ω,λk=>st ω,λk=>⟨ω,ω,λq=>st ω,λq=>sp ω⟩⟩,λg=>ω⟩
def Qgm:Ok Bi:=okZ [Bh,OT] f136 QjV ⟨Qgl,Qj2⟩ Qj3
theorem OU (h:yh y):rV y=none:=by
 have key:∀(k lo hi:Nat) (r:Int) (t:By),ki k lo hi t->dM k r lo hi t=none:=λk=>by
  induction k with
  | zero=>intro lo hi r t h;cases h
  | succ k a=>
   intro lo hi r t h;cases t with
   | nil=>rfl
   | cons b t=>
    grind [ki,dM]
 exact key _ _ _ _ _ h
theorem TB (h:yh y):y.length<(mo y).1+1:=by
 have key:∀(k lo hi:Nat) (t:By),ki k lo hi t->t.length<k:=λk=>by
  induction k with
  | zero=>intro lo hi t h;cases h
  | succ k a=>
   intro lo hi t h;cases t with
   | nil=>simp
   | cons b t=>
    grind [ki]
 have:=key _ _ _ _ h;grind
theorem OV (a:y≠[]) (h0:0<=(mo y).1) (h:(rV y).isSome):(mo y).1+1<=y.length:=by
 cases e:rV y with
 | none=>rw[e] at h;cases h
 | some r=>
  have:=r8 _ _ _ _ _ _ e;grind [List.length_pos_iff]
theorem IS (y:By):(fX y=(0,0)/\gy y=false/\(bK y).2=0)\/(∃k:Int,y≠[]/\fX y=((y.length:Int),k)/\(y.length:Int)<k/\gy y/\(bK y).2=0)\/
  (∃r,y≠[]/\0<=(mo y).1/\rV y=some r/\(mo y).1+1<=y.length/\fX y=((mo y).1+1,(mo y).1+1)/\gy y=false/\bK y=(r,(mo y).1+1)):=by
 by_cases a:y=[]
 ·subst a;exact .inl ⟨rfl,rfl,rfl⟩
 by_cases h0:(mo y).1<0
 ·grind [fX,gy,qW]
 have b:=qW a;rw[Zaa h0] at b;have c:gy y=yh y:=by unfold gy;rw[ZaK a,ZaK (p:=0<=(mo y).1) ω];rfl
 have ht:fX y=if (rV y).isSome then((mo y).1+1,(mo y).1+1) else if yh y then((y.length:Int),(mo y).1+1) else(0,0):=by
  grind [fX]
 have b:bK y=match rV y with
  | some r=>(r,(mo y).1+1)
  | none=>(0,0):=b
 cases hs:yh y with
 | true=>
  grind [OU,TB]
 | false=>
  rw[hs] at c ht;cases d:rV y with
  | none=>rw[d] at b ht;exact .inl ⟨ht,c,by rw[b]⟩
  | some r=>rw[d] at b ht;exact .inr (.inr ⟨r,a,ω,rfl,OV a ω (by grind),ht,c,b⟩)
theorem Fq {x:Int} (h0:0<=x) (h1:x<2147483648):xf .i32 x=x:=wN (by show(-2147483648:Int)<=_;omega) (by show _<=(2147483647:Int);omega)
def b63 (n:UInt8):xf .i32 (rC .u8 (n.toNat:Int) 63)=(n.toNat:Int) % 64:=by
 have:=n.toNat_lt;rw[Tc (k:=.u8) ω (by show _<=(255:Int);omega),Fq ω ω]
def lay {a b n:Nat} (c:b<2 ^ n) (h:2 ^ n*a+b<2147483648):QP .i32 ((2 ^ n*a:Nat):Int) (b:Int)=((2 ^ n*a+b:Nat):Int):=QjI c (by show _<=(2147483647:Int);omega)
theorem Ft {a n:Nat} (b:n<=32) (h:2 ^ n*a<2147483648):ud .i32 (a:Int) ((n:Nat):Int)=((2 ^ n*a:Nat):Int):=by
 rw[QdJ (k:=.i32) b ω (by show _<=(2147483647:Int);have:((a:Int)*2 ^ n)=((2 ^ n*a:Nat):Int):=(by grind);omega)];grind
theorem Qj4 (y:By) (m:Bj.pre y):IP y:=by
 unfold IP;simp only[bN,ej,aw,gt,b63];unfold vX;rcases IS y with⟨j,e2,l⟩ | ⟨k,h0,j,h1,e2,l⟩ | ⟨r,h0,h1,c,B,j,e2,l⟩
 ·grind
 ·grind
 ·rw[j,Zaa (by grind),l];have t:=(jQ (y.getD 0 0).toNat).1;have s:ck (y.getD 0 0).toNat=mo y:=rfl;rw[s] at t;have A:=(y.getD 0 0).toNat_lt;have cell:∀i:Nat,i<y.length->y.drop i=y.getD i 0::y.drop (i+1):=λi hi=>by
   simp_all
  unfold rV at c;refine⟨⟨trivial⟩,λh=>absurd h ω,λ_=>⟨λh=>absurd h ω,λ_=>⟨ω,⟨λo=>⟨ω,ω,(),?_,⟨trivial⟩⟩,λo=>⟨λp=>⟨ω,ω,ω,(),?_,⟨trivial⟩⟩,λp=>⟨λq=>⟨ω,ω,ω,ω,(),?_,⟨trivial⟩⟩,λq=>⟨(),?_,⟨trivial⟩⟩⟩⟩⟩,λ_ _=>rfl⟩⟩⟩
  ·have hk:(mo y).1=1:=ω;have e:vW y=((y.getD 0 0).toNat:Int) % 32:=by unfold vW syn.start;rw[hk];rfl
   rw[hk,cell 1 ω] at c;simp only[show Int.toNat 1=1 from rfl,show Int.toNat 2=2 from rfl,show Int.toNat 3=3 from rfl,dM,e] at c;split at c
   ·cases c
   ·rw[Td (k:=.u8) ω (by show _<=(255:Int);omega),Fq ω ω,six ω ω ω ω];grind
  ·have hk:(mo y).1=2:=ω;have e:vW y=((y.getD 0 0).toNat:Int) % 16:=by unfold vW syn.start;rw[hk];rfl
   rw[hk,cell 1 ω,cell 2 ω] at c;simp only[show Int.toNat 1=1 from rfl,show Int.toNat 2=2 from rfl,show Int.toNat 3=3 from rfl,dM,e] at c;split at c
   ·cases c
   split at c
   ·cases c
   rw[<-ZbN c,Te (k:=.u8) ω (by show _<=(255:Int);omega),Fq ω ω];generalize (y.getD 0 0).toNat=d at*
   generalize (y.getD 1 0).toNat=f at*
   generalize (y.getD 2 0).toNat=g at*
   have x:=Ft (a:=d % 16) (n:=12) ω ω;have z:=Ft (a:=f % 64) (n:=6) ω ω;have u:=lay (a:=d % 16) (b:=2 ^ 6*(f % 64)) (n:=12) ω ω;have v:=lay (a:=d % 16*64+f % 64) (b:=g % 64) (n:=6) ω ω;grind
  ·have hk:(mo y).1=3:=ω;have e:vW y=((y.getD 0 0).toNat:Int) % 8:=by unfold vW syn.start;rw[hk];rfl
   rw[hk,cell 1 ω,cell 2 ω,cell 3 ω] at c;simp only[show Int.toNat 1=1 from rfl,show Int.toNat 2=2 from rfl,show Int.toNat 3=3 from rfl,dM,e] at c;split at c
   ·cases c
   split at c
   ·cases c
   split at c
   ·cases c
   rw[<-ZbN c,QdI (k:=.u8) ω (by show _<=(255:Int);omega),Fq ω ω];generalize (y.getD 0 0).toNat=d at*
   generalize (y.getD 1 0).toNat=f at*
   generalize (y.getD 2 0).toNat=g at*
   generalize (y.getD 3 0).toNat=w at*
   have x:=Ft (a:=d % 8) (n:=18) ω ω;have z:=Ft (a:=f % 64) (n:=12) ω ω;have s3:=Ft (a:=g % 64) (n:=6) ω ω;have u:=lay (a:=d % 8) (b:=2 ^ 12*(f % 64)) (n:=18) ω ω;have v:=lay (a:=d % 8*64+f % 64) (b:=2 ^ 6*(g % 64)) (n:=12) ω ω;have C:=lay (a:=(d % 8*64+f % 64)*64+g % 64) (b:=w % 64) (n:=6) ω ω;grind
  ·have hk:(mo y).1=0:=ω;rw[hk] at c;have e:vW y=((y.getD 0 0).toNat:Int):=by grind [vW,syn.start]
   have c:some (vW y)=some r:=c;grind [Fq]
def Qgn:Ok Bj:=okZ [Bi] f98 QjX Qgm Qj4
theorem Δ (h:y≠[]):∃m:Nat,(vX y).2=m/\1<=m/\m<=y.length/\bk y=vX y::bk (y.drop m):=by
 grind [vX,jR,Fp,Mi]
theorem Qj5 (y:By) (b:yi.pre y):IQ y:=by
 have b:y.length<=1000000:=b;unfold IQ;simp only[bN,ej,aw,a_,bq];refine⟨⟨(y,[]),rfl,rfl,rfl,by simp⟩,λx d=>?_⟩;have⟨l,out⟩:=x;simp only at*
 refine⟨λh=>?_,λh=>?_⟩
 ·have a:l≠[]:=λe=>by grind
  have⟨m,c,m1,m2,e⟩:=Δ a;refine⟨⟨trivial⟩,by grind,ω,ω,(l.drop m,out++[vX l]),?_,rfl,⟨?_,by grind⟩,by grind⟩
  ·rw[c];rfl
  ·grind
 ·obtain rfl:l=[]:=Zap ω;grind [bk,jk]
def Qgo:Ok yi:=okZ [Bj] f61 QjZ Qgn Qj5
def Fu (args:List (AV D.E)) (s:St D.E):C (List Rg):=match args with
 | [a]=>aB (aW D s 6 a) λl=>.ret (l:List Rg)
 | _=>.fail
def Qj6 (args:List (AV D.E)) (s:St D.E):C (List Rg×Int):=match args with
 | [a,b]=>aB (aW D s 6 a) λl=>aP (cQ b) λ_ n=>.ret ((l:List Rg),n)
 | _=>.fail
def Qgp (args:List (AV D.E)) (s:St D.E):C (List Rg×List Rg):=match args with
 | [a,b]=>aB (aW D s 6 a) λl=>aB (aW D s 6 b) λm=>.ret ((l:List Rg),(m:List Rg))
 | _=>.fail
def cW:bp D:=cq 156 (List Rg) Fu (λy=>y.length<=100000000) (λy=>[.list 6 y]) λy=>.list 6 (aY y)
def at_ (l:List Rg) (i:Nat):Rg:=l.getD i (0,0)
def IT:bp D:=cq 199 (List Rg) Fu (λy=>y.length<=1000000) (λy=>[.list 6 y]) λy=>.list 6 (l9 y)
def Qrm (y:IT.Y):dj D:=⟨[],[],[(122,⟨Nat×List Rg×Int,[8,9],λx=>[(3,.grow 6 x.2.1 0),(4,.int .i32 x.2.2),(10,Qyy x.1)],[],λ_=>[(0,.tok 6 278)],1,λx=>x.2.1++iQ x.2.2 ((aY y).drop x.1)=iQ 0 (aY y)/\x.1<=(aY y).length/\x.2.1.length=x.1,λx=>(aY y).length-x.1⟩)],[],1,[]⟩
def Fv:bp D:=cq 181 (List Rg×List Rg) Qgp (λ_=>True) (λy=>[.list 6 y.1,.list 6 y.2]) λy=>.bool (decide (y.1=y.2))
def Qro (y:Fv.Y):dj D:=⟨[(0,.fact 0)],[],[(58,⟨Nat,[0,1,12],λx=>[(13,Qyy x)],[],λ_=>[],0,λx=>x<=y.1.length/\y.1.take x=y.2.take x,λx=>y.1.length-x⟩)],[],1,[]⟩
def Fw:bp D:=cq 154 (List Rg) Fu (λy=>y.length<=100000000) (λy=>[.list 6 y]) λy=>.bool (decide (y=aY y))
def Qrq (_:Fw.Y):dj D:=dk ()
def IU:bp D:=cq 168 (List Rg×Int) Qj6 (λ_=>True) (λy=>[.list 6 y.1,.int .i32 y.2]) λy=>.bool (bh y.1 y.2)
def Qrs (y:IU.Y):dj D:=⟨[(0,.fact 0)],[],[(26,⟨Nat,[1,7,8],λx=>[(9,Qyy x)],[],λ_=>[],0,λx=>x<=y.1.length/\bh y.1 y.2=bh (y.1.drop x) y.2,λx=>y.1.length-x⟩)],[],1,[]⟩
def yj:bp D:={ IU with f:=195 }
def Qj7 (y:yj.Y):dj D:=⟨[(0,.fact 0)],[],[(26,⟨Nat,[0,1],λx=>[(5,Qyy x)],[],λ_=>[],0,λx=>x<=y.1.length/\bh y.1 y.2=bh (y.1.drop x) y.2,λx=>y.1.length-x⟩)],[],1,[]⟩
def Mj (m:List Int):List Int:=m.mergeSort λa b=>decide (a<=b)
def bs (l:List Rg):List Int:=Mj (dx l)
def lI:bp D:=cq 194 (List Rg) Fu (λy=>y.length<=2000000) (λy=>[.list 6 y]) λy=>.list 14 (bs y)
def arI (b:Nat) (m:List Int):List (Nat×AO D.E):=[(b,.arr 14 m 21 false)]
def d_ (l:List Rg) (i:Nat):List Int:=[0,55296,57344,1114112]++(l.take i).flatMap mr
def Qj9 (y:lI.Y):dj D:=⟨[],[1],[(58,⟨Nat,[0],λi=>[(3,.own 0 1 (ab (d_ y i))),(4,Qyy i)],[],λi=>arI 0 (d_ y i),1,λi=>i<=y.length,λi=>y.length-i⟩),
 (122,⟨Nat×List Int,[],λx=>[(3,.own 0 1 (ab x.2)),(5,Qyy x.1)],[],λx=>arI 0 x.2,1,λx=>1<=x.1/\x.1<=x.2.length/\x.2.Perm (dx y)/\EX x.2 x.1,λx=>(dx y).length-x.1⟩)],
 [],1,[(7826,⟨Nat×List Int,λx=>⟨Nat×List Int,[5],λz=>[(3,.own 0 1 (ab z.2)),(6,Qyy z.1)],[],λz=>arI 0 z.2,1,λz=>z.1<=x.1/\x.1<z.2.length/\z.2.Perm (dx y)/\pV z.2 z.1 x.1,λz=>z.1⟩,none⟩)]⟩
def arR (b:Nat) (m:List Rg):List (Nat×AO D.E):=[(b,.arr 6 m 278 false)]
def Θ (l:List Rg):Prop:=l.length<=100000000/\∀r∈l,-10<=r.2/\r.2<=1114111
def IV:bp D where
 f:=196
 Y:=List Rg×Int×Int
 zL:=λargs s=>match args with
  | [a,b,c]=>aB (aW D s 6 a) λl=>aP (cQ b) λ_ m=>aP (cQ c) λ_ n=>.ret ((l:List Rg),m,n)
  | _=>.fail
 pre:=λy=>Θ y.1
 args:=λy=>[.own 0 2 (ab y.1),.int .i32 y.2.1,.int .i32 y.2.2]
 heap:=λy=>arR 0 y.1
 res:=λy=>.own 1 2 (ab (cA y.1 y.2.1 y.2.2))
 jf:=λy=>arR 1 (cA y.1 y.2.1 y.2.2)
 pA:=1
 D2:=2
def Qrw (_:IV.Y):dj D:=dk ()
def Qkb (y:List Rg) (c:Int->Bool):List (Nat×ir D):=[(122,⟨Nat,[0,3],λi=>[(4,.own 0 2 (ab (dR c (bs y) i))),(5,.int .i64 i)],[],λi=>arR 0 (dR c (bs y) i),1,λi=>i+1<=(bs y).length,λi=>(bs y).length-i⟩)]
def mz:bp D:=cq 165 (List Rg) Fu (λy=>y.length<=2000000) (λy=>[.list 6 y]) λy=>.list 6 (aY y)
def Qkc (y:mz.Y):dj D:=⟨[],[],Qkb y (bh y),[],1,[]⟩
def p_:bp D:=cq 189 (List Rg) Fu (λy=>y.length<=2000000) (λy=>[.list 6 y]) λy=>.list 6 (l9 y)
def Qke (y:p_.Y):dj D:=⟨[],[],Qkb y (λr=>!bh y r),[],1,[]⟩
def Bl:bp D:={ Fw with f:=164,pre:=λy=>y.length<=2000000 }
def Qkg (y:Bl.Y):dj D:=⟨[],[],[(122,⟨Nat,[0,3],λi=>[(4,Qyy i)],[],λ_=>[],0,λi=>i<=y.length/\(aY y).take i=y.take i,λi=>y.length-i⟩)],[],1,[]⟩
def TC (y:List (Int×Int)):Prop:=let a:=aY y;Iv (y.length<=100000000)/\aa [y] ((∃z:Nat×(List (Int×Int))×Int,aa [a] (aa [ab a] ([]=z.2.1/\0=z.2.2/\0=(z.1:Int)/\(Iv ((z.2.1++iQ z.2.2 (List.drop z.1 a))=iQ 0 a/\z.1<=a.length/\z.2.1.length=z.1)))))/\(∀x:Nat×(List (Int×Int))×Int,let q1:=a.length;let b:=(x.1:Int);let d:=gt (0,0) a b.toNat;let c:=bn x.2.1 [(x.2.2,1114111)];let e:=bn x.2.1 [(x.2.2,dE .i32 d.1 1)];(Iv ((x.2.1++iQ x.2.2 (List.drop x.1 a))=iQ 0 a/\x.1<=q1/\x.2.1.length=x.1))->aj (aD b (ab a)) (aM 0 b/\aD b (ab a)/\ba (ab e) 8/\∃z:Nat×(List (Int×Int))×Int,aa [a] (aa [ab a] (e=z.2.1/\ay .i32 d.2 1=z.2.2/\ay .i64 b 1=(z.1:Int)/\(Iv (((z.2.1++iQ z.2.2 (List.drop z.1 a))=iQ 0 a/\z.1<=q1/\z.2.1.length=z.1)/\(q1-z.1)<(q1-x.1)))))) (ba (ab c) 8/\Iv (c.length<=100000000)/\aa [c] (aY c=l9 y/\True))))
def TD (y:(List (Int×Int))×(List (Int×Int))):Prop:=let a:=ab y.1;let q1:=y.1.length;let e:=!(aE a (ab y.2));let d:=decide (y.1=y.2);(aM a 9223372036854775807)->aj e (false=d/\True) ((∃z:Nat,aa [y.1,y.2] (aa [a] (0=(z:Int)/\(Iv (z<=q1/\List.take z y.1=List.take z y.2)))))/\(∀x:Nat,let b:=gt (0,0) y.1 (x:Int).toNat;let c:=gt (0,0) y.2 (x:Int).toNat;let f:=!((aE b.1 c.1)&&(aE b.2 c.2));(Iv (x<=q1/\List.take x y.1=List.take x y.2))->aj (aD (x:Int) a) (aM 0 (x:Int)/\aD (x:Int) a/\aM 0 (x:Int)/\aD (x:Int) (ab y.2)/\aa [b.1,b.2,c.1,c.2] (aj f (false=d/\True) (∃z:Nat,aa [y.1,y.2] (aa [a] (ay .i64 (x:Int) 1=(z:Int)/\(Iv ((z<=q1/\List.take z y.1=List.take z y.2)/\(q1-z)<(q1-x)))))))) (true=d/\True)))
def TE (y:List (Int×Int)):Prop:=let a:=decide (y=aY y);Iv (y.length<=100000000)/\aa [y] (Iv True/\aa [y] (aa [aY y] (aa [a] (True))))
def Ml (y:(List (Int×Int))×Int):Prop:=let a:=y.1.length;let q1:=ab y.1;let b:=bh y.1 y.2;let e:=λp:Prop=>aa [y.2] (aa [y.1] (aa [q1] p));(aM q1 9223372036854775807)->(∃z:Nat,e (0=(z:Int)/\(Iv (z<=a/\b=bh (List.drop z y.1) y.2))))/\(∀x:Nat,let c:=gt (0,0) y.1 (x:Int).toNat;let d:Prop:=(∃z:Nat,e (ay .i64 (x:Int) 1=(z:Int)/\(Iv ((z<=a/\b=bh (List.drop z y.1) y.2)/\(a-z)<(a-x)))));(Iv (x<=a/\b=bh (List.drop x y.1) y.2))->aj (aD (x:Int) q1) (aM 0 (x:Int)/\aD (x:Int) q1/\aj (aM c.1 y.2) (aj (aM y.2 c.2) (true=b/\True) (d)) (d)) (false=b/\True))
def IW (y:(List (Int×Int))×Int):Prop:=let a:=y.1.length;let q1:=ab y.1;let b:=bh y.1 y.2;let e:=λp:Prop=>aa [y.1] (aa [y.2] p);(aM q1 9223372036854775807)->(∃z:Nat,e (0=(z:Int)/\(Iv (z<=a/\b=bh (List.drop z y.1) y.2))))/\(∀x:Nat,let c:=gt (0,0) y.1 (x:Int).toNat;let d:Prop:=(∃z:Nat,e (ay .i64 (x:Int) 1=(z:Int)/\(Iv ((z<=a/\b=bh (List.drop z y.1) y.2)/\(a-z)<(a-x)))));(Iv (x<=a/\b=bh (List.drop x y.1) y.2))->aj (aD (x:Int) q1) (aM 0 (x:Int)/\aD (x:Int) q1/\aj (aM c.1 y.2) (aM 0 (x:Int)/\aD (x:Int) q1/\aj (aM y.2 c.2) (true=b/\True) (d)) (d)) (false=b/\True))
def IX (y:List (Int×Int)):Prop:=let u:=(dx y).length;let q1:=y.length;let f:=ab y;let r:=λp:Prop=>aa [y] p;(∃z:Nat,r (ab [0,55296,57344,1114112]=ab (d_ y z)/\0=(z:Int)/\[0,55296,57344,1114112]=d_ y z/\(Iv (z<=q1))))/\(∀x:Nat,let m:=d_ y x;let a:=gt (0,0) y (x:Int).toNat;let q:=bn m [a.1];let s:=([ay .i32 a.2 1]:List Int);let v:=ab (bn m s);let w:=ab (bn q s);let n:=λp:Prop=>aa [a.1,a.2] p;let j:Prop:=(∃z:Nat,r (ab m=ab (d_ y z)/\ay .i64 (x:Int) 1=(z:Int)/\m=d_ y z/\(Iv (z<=q1/\(q1-z)<(q1-x)))));let k:Prop:=(∃z:Nat,r (ab q=ab (d_ y z)/\ay .i64 (x:Int) 1=(z:Int)/\q=d_ y z/\(Iv (z<=q1/\(q1-z)<(q1-x)))));let l:Prop:=(aM 0 (x:Int)/\aD (x:Int) f/\aM 0 (x:Int)/\aD (x:Int) f/\aj (aM a.1 a.2) (aM 0 (x:Int)/\aD (x:Int) f/\aj (aM 0 a.2) (aM 0 (x:Int)/\aD (x:Int) f/\aa [a.1,a.2,a.2,a.2] (aj (aD a.2 1114111) (aM 0 (x:Int)/\aD (x:Int) f/\ba v 4/\∃z:Nat,r (v=ab (d_ y z)/\ay .i64 (x:Int) 1=(z:Int)/\bn m s=d_ y z/\(Iv (z<=q1/\(q1-z)<(q1-x))))) (j))) (aa [a.1,a.2,a.2] (j))) (n (j)));(Iv (x<=q1))->aj (aD (x:Int) f) (aM 0 (x:Int)/\aD (x:Int) f/\aM 0 (x:Int)/\aD (x:Int) f/\aj (aM a.1 a.2) (aM 0 (x:Int)/\aD (x:Int) f/\aj (aM 0 a.1) (aM 0 (x:Int)/\aD (x:Int) f/\aa [a.1,a.2,a.1,a.1] (aj (aM a.1 1114111) (aM 0 (x:Int)/\aD (x:Int) f/\ba (ab q) 4/\aM 0 (x:Int)/\aD (x:Int) f/\aM 0 (x:Int)/\aD (x:Int) f/\aj (aM a.1 a.2) (aM 0 (x:Int)/\aD (x:Int) f/\aj (aM 0 a.2) (aM 0 (x:Int)/\aD (x:Int) f/\aa [a.1,a.2,a.2,a.2] (aj (aD a.2 1114111) (aM 0 (x:Int)/\aD (x:Int) f/\ba w 4/\∃z:Nat,r (w=ab (d_ y z)/\ay .i64 (x:Int) 1=(z:Int)/\bn q s=d_ y z/\(Iv (z<=q1/\(q1-z)<(q1-x))))) (k))) (aa [a.1,a.2,a.2] (k))) (n (k))) (l))) (aa [a.1,a.2,a.1] (l))) (n (l))) ((∃z:Nat×(List Int),ab m=ab z.2/\1=(z.1:Int)/\m=z.2/\(Iv (1<=z.1/\z.1<=z.2.length/\List.Perm z.2 (dx y)/\EX z.2 z.1)))/\(∀x1:Nat×(List Int),let g:=(x1.1:Int);let t:=aD g (ab x1.2);(Iv (1<=x1.1/\x1.1<=x1.2.length/\List.Perm x1.2 (dx y)/\EX x1.2 x1.1))->aj t (∃z:Nat×(List Int),(∃b:Nat×(List Int),aa [g] (ab x1.2=ab b.2/\g=(b.1:Int)/\x1.2=b.2/\(Iv (b.1<=z.1/\z.1<b.2.length/\List.Perm b.2 (dx y)/\pV b.2 b.1 z.1))))/\(∀e:Nat×(List Int),let c:=(e.1:Int);let d:=dE .i64 c 1;let h:=gt 0 e.2 c.toNat;let i:=gt 0 e.2 d.toNat;let o:Prop:=(∃b:Nat×(List Int),ab e.2=ab b.2/\ay .i64 g 1=(b.1:Int)/\e.2=b.2/\(Iv ((1<=b.1/\b.1<=b.2.length/\List.Perm b.2 (dx y)/\EX b.2 b.1)/\(u-b.1)<(u-x1.1))));(Iv (e.1<=z.1/\z.1<e.2.length/\List.Perm e.2 (dx y)/\pV e.2 e.1 z.1))->aj (aD 0 c) (aM 0 d/\aD d (ab e.2)/\aM 0 c/\aD c (ab e.2)/\aa [i,h] (aj (aD h i) (aM 0 c/\aD c (ab e.2)/\aM 0 d/\aD d (ab e.2)/\aM 0 d/\aD d (ab e.2)/\aM 0 c/\aD c (ab e.2)/\aa [h,i] (∃b:Nat×(List Int),aa [g] (ab e.2=ab b.2/\d=(b.1:Int)/\dh (dh e.2 d.toNat h) c.toNat i=b.2/\(Iv ((b.1<=z.1/\z.1<b.2.length/\List.Perm b.2 (dx y)/\pV b.2 b.1 z.1)/\b.1<e.1))))) (o))) (o))) (x1.2=bs y/\True))))
def TI (y:(List (Int×Int))×Int×Int):Prop:=let a:=ab y.1;let q1:=dE .i64 a 1;let b:=cA y.1 y.2.1 y.2.2;let c:=bn y.1 [(y.2.1,y.2.2)];let d:=gt (0,0) y.1 q1.toNat;let f:=aE (ay .i32 d.2 1) y.2.1;let e:Prop:=(ba (ab c) 8/\ab c=ab b/\c=b/\True);aj (aD 0 a) (aM 0 q1/\aD q1 a/\aj f (aM 0 q1/\aD q1 a/\a=ab b/\dh y.1 q1.toNat (d.1,y.2.2)=b/\True) (e)) (e)
def IY (y:List (Int×Int)):Prop:=let e:=bs y;let q1:=e.length;let d:=ab e;let m:=λp:Prop=>aa [y] (aa [e] p);Iv (y.length<=2000000)/\aa [y] ((∃z:Nat,let n:=dR (bh y) e z;m (0=ab n/\0=(z:Int)/\[]=n/\(Iv ((z+1)<=q1))))/\(∀x:Nat,let b:=dR (bh y) e x;let c:=ay .i64 (x:Int) 1;let a:=gt 0 e (x:Int).toNat;let g:=gt 0 e c.toNat;let h:=dE .i32 g 1;let f:Prop:=(∃z:Nat,let i:=dR (bh y) e z;m (ab b=ab i/\c=(z:Int)/\b=i/\(Iv ((z+1)<=q1/\(q1-z)<(q1-x)))));let o:Prop:=(aa [a,a] (aj (bh y a) (aM 0 (x:Int)/\aD (x:Int) d/\aM 0 c/\aD c d/\Iv (Θ b)/\aa [ab b,a,h] (aa [b] (aa [a,g] (∃z:Nat,let j:=dR (bh y) e z;m (ab (cA b a h)=ab j/\c=(z:Int)/\cA b a h=j/\(Iv ((z+1)<=q1/\(q1-z)<(q1-x)))))))) (f)));(Iv ((x+1)<=q1))->aj (aD c d) (aM 0 (x:Int)/\aD (x:Int) d/\aM 0 c/\aD c d/\aj (aD a g) (aM 0 (x:Int)/\aD (x:Int) d/\aj (aD a 55296) (aM 0 (x:Int)/\aD (x:Int) d/\Iv True/\aa [y] (aa [a,a,g,a,a] (aj (bh y a) (aM 0 (x:Int)/\aD (x:Int) d/\aM 0 c/\aD c d/\Iv (Θ b)/\aa [ab b,a,h] (aa [b] (aa [a,g] (∃z:Nat,let k:=dR (bh y) e z;m (ab (cA b a h)=ab k/\c=(z:Int)/\cA b a h=k/\(Iv ((z+1)<=q1/\(q1-z)<(q1-x)))))))) (f)))) (aM 0 (x:Int)/\aD (x:Int) d/\aj (aD 57343 a) (aM 0 (x:Int)/\aD (x:Int) d/\Iv True/\aa [y] (aa [a,a,g,a,a,a] (aj (bh y a) (aM 0 (x:Int)/\aD (x:Int) d/\aM 0 c/\aD c d/\Iv (Θ b)/\aa [ab b,a,h] (aa [b] (aa [a,g] (∃z:Nat,let l:=dR (bh y) e z;m (ab (cA b a h)=ab l/\c=(z:Int)/\cA b a h=l/\(Iv ((z+1)<=q1/\(q1-z)<(q1-x)))))))) (f)))) (aa [a,g,a,a] (f)))) (aa [a,g] (f))) (b=aY y/\True)))
def IZ (y:List (Int×Int)):Prop:=let e:=bs y;let q1:=e.length;let d:=ab e;let m:=λp:Prop=>aa [y] (aa [e] p);Iv (y.length<=2000000)/\aa [y] ((∃z:Nat,let n:=dR (λ(r:Int)=>!(bh y r)) e z;m (0=ab n/\0=(z:Int)/\[]=n/\(Iv ((z+1)<=q1))))/\(∀x:Nat,let b:=dR (λ(r:Int)=>!(bh y r)) e x;let c:=ay .i64 (x:Int) 1;let a:=gt 0 e (x:Int).toNat;let g:=gt 0 e c.toNat;let h:=dE .i32 g 1;let f:Prop:=(∃z:Nat,let i:=dR (λ(r:Int)=>!(bh y r)) e z;m (ab b=ab i/\c=(z:Int)/\b=i/\(Iv ((z+1)<=q1/\(q1-z)<(q1-x)))));let o:Prop:=(aa [a,a] (aj (!(bh y a)) (aM 0 (x:Int)/\aD (x:Int) d/\aM 0 c/\aD c d/\Iv (Θ b)/\aa [ab b,a,h] (aa [b] (aa [a,g] (∃z:Nat,let j:=dR (λ(r:Int)=>!(bh y r)) e z;m (ab (cA b a h)=ab j/\c=(z:Int)/\cA b a h=j/\(Iv ((z+1)<=q1/\(q1-z)<(q1-x)))))))) (f)));(Iv ((x+1)<=q1))->aj (aD c d) (aM 0 (x:Int)/\aD (x:Int) d/\aM 0 c/\aD c d/\aj (aD a g) (aM 0 (x:Int)/\aD (x:Int) d/\aj (aD a 55296) (aM 0 (x:Int)/\aD (x:Int) d/\Iv True/\aa [y] (aa [a,a,g,a,a] (aj (!(bh y a)) (aM 0 (x:Int)/\aD (x:Int) d/\aM 0 c/\aD c d/\Iv (Θ b)/\aa [ab b,a,h] (aa [b] (aa [a,g] (∃z:Nat,let k:=dR (λ(r:Int)=>!(bh y r)) e z;m (ab (cA b a h)=ab k/\c=(z:Int)/\cA b a h=k/\(Iv ((z+1)<=q1/\(q1-z)<(q1-x)))))))) (f)))) (aM 0 (x:Int)/\aD (x:Int) d/\aj (aD 57343 a) (aM 0 (x:Int)/\aD (x:Int) d/\Iv True/\aa [y] (aa [a,a,g,a,a,a] (aj (!(bh y a)) (aM 0 (x:Int)/\aD (x:Int) d/\aM 0 c/\aD c d/\Iv (Θ b)/\aa [ab b,a,h] (aa [b] (aa [a,g] (∃z:Nat,let l:=dR (λ(r:Int)=>!(bh y r)) e z;m (ab (cA b a h)=ab l/\c=(z:Int)/\cA b a h=l/\(Iv ((z+1)<=q1/\(q1-z)<(q1-x)))))))) (f)))) (aa [a,g,a,a] (f)))) (aa [a,g] (f))) (b=l9 y/\True)))
def I0 (y:List (Int×Int)):Prop:=let a:=aY y;let q1:=y.length;let f:=!(aE (ab a) (ab y));let d:Prop:=(false=decide (y=a)/\True);Iv (q1<=2000000)/\aa [y] (aj f (d) ((∃z:Nat,aa [y] (aa [a] (0=(z:Int)/\(Iv (z<=q1/\List.take z a=List.take z y)))))/\(∀x:Nat,let e:=aD (x:Int) (ab y);let b:=gt (0,0) y (x:Int).toNat;let c:=gt (0,0) a (x:Int).toNat;let g:=!((aE c.1 b.1)&&(aE c.2 b.2));(Iv (x<=q1/\List.take x a=List.take x y))->aj e (aM 0 (x:Int)/\aD (x:Int) (ab a)/\aM 0 (x:Int)/\e/\aa [c.1,c.2,b.1,b.2] (aj g (d) (∃z:Nat,aa [y] (aa [a] (ay .i64 (x:Int) 1=(z:Int)/\(Iv ((z<=q1/\List.take z a=List.take z y)/\(q1-z)<(q1-x)))))))) (true=decide (y=a)/\True))))
end
end sx
end Go.Proofs.YtfkmlhnhkdbjeaaGreat
