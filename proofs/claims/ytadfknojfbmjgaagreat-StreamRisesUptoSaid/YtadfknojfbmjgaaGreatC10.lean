/- StreamRises: a part of the proof. -/
import Derived.Test.YtadfknojfbmjgaaGreatC9
set_option linter.all false
namespace Go.Proofs.YtadfknojfbmjgaaGreat
namespace syn
open Go Go.RowKit cls
def xa {α:Type} {l:List α} {i:Nat} {x:α} (h:l[i]?=some x):i<l.length:=(Zam.1 h).1
structure Nd where
 op:Int
 r:List Rg
 mn:Int
 mx:Int
 lz:Bool
 cap:Int
 kids:Int
def Nd.tup (x:Nd):Int×List Rg×Int×Int×Bool×Int×Int:=(x.op,x.r,x.mn,x.mx,x.lz,x.cap,x.kids)
theorem Nd.XA {x y:Nd} (h:x.tup=y.tup):x=y:=by
 cases x;cases y;grind [Nd.tup]
instance:DecidableEq Nd:=λa b=>decidable_of_iff (a.tup=b.tup) ⟨Nd.XA,λh=>by rw[h]⟩
def nd (op:Int):Nd:=⟨op,[],0,0,false,0,0⟩
def xb (l:List Rg):Nd:={ nd 2 with r:=l }
abbrev Gt:=Int×Int
structure Ps where
 i:Nat
 opens:Nat
 ae:Nat
 err:Int
 wh:Int
section
variable (G:List Gt)
def place (i:Nat):Int:=((G.take i).map (·.2)).sum
def Ps.ak (s:Ps) (i:Nat) (e:Int):Ps:=if s.err=0 then { s with err:=e,wh:=place G i } else s
def aQ (s:Ps) (r:Int):Bool:=match G[s.i]? with
 | some g=>g.1==r
 | none=>false
def Ps.next (s:Ps):Ps:={ s with i:=s.i+1 }
def aY (s:Ps) (r:Int):Ps:=if aQ G s r then s.next else s
def eD (i:Nat):Bool:=match G[i]? with
 | some g=>g.1==65533&&g.2==1
 | none=>false
def aD (i:Nat):Int:=(G.getD i (0,0)).1
def bK (op:Int):List (List Nd)->List Nd
 | []=>[nd 1]
 | [x]=>x
 | a=>{ nd op with kids:=a.length }::a.flatten
def XB:List Rg:=lB [(10,10)]
def eh (r:Int):List Rg:=aL [(r,r)]
def ic (r:Int):Bool:=decide (33<=r)&&decide (r<=47)||decide (58<=r)&&decide (r<=64)||decide (91<=r)&&decide (r<=96)||decide (123<=r)&&decide (r<=126)
def mI (s:Ps) (a:Nat) (r:Int):Ps×List Rg×Bool:=
 if r=110 then(s,eh 10,true)
 else if r=116 then(s,eh 9,true)
 else if r=114 then(s,eh 13,true)
 else if r=100 then(s,aL [(48,57)],false)
 else if r=115 then(s,aL [(9,10),(13,13),(32,32)],false)
 else if r=119 then(s,aL [(48,57),(65,90),(95,95),(97,122)],false)
 else if ic r then(s,eh r,true)
 else(s.ak G a 4,[],false)
def dZ (s:Ps):Ps×List Rg×Bool:=
 let t:=s.next
 if G.length<=t.i then(t.ak G s.i 4,[],false)
 else if eD G t.i then(t.ak G t.i 4,[],false)
 else mI G t.next s.i (aD G t.i)
def bP (s:Ps):Ps×List Rg×Bool:=
 if eD G s.i then(s.ak G s.i 4,[],false)
 else
  let r:=aD G s.i
  if r=92 then dZ G s
  else if r=91\/r=93\/r=45 then(s,[],false)
  else(s.next,[(r,r)],true)
def oX (l:List Rg):Int:=(l.getD 0 (0,0)).1
def j6 (a:List Rg) (one:Bool) (c:Nat) (s:Ps):Ps×List Rg:=
 let b:=if s.i<G.length then bP G s else(s,[],false)
 let t:=if b.1.err=0/\(one=false\/b.2.2=false\/oX b.2.1<oX a) then b.1.ak G c 4 else b.1
 if t.err=0 then(t,[(oX a,oX b.2.1)]) else(t,[])
def d_ (s:Ps):Ps×List Rg:=
 let a:=bP G s
 if a.1.err≠0 then(a.1,[])
 else if a.2.1=[] then(a.1.ak G s.i 4,[])
 else if aQ G a.1 45 then j6 G a.2.1 a.2.2 s.i a.1.next
 else(a.1,a.2.1)
def dO (a:Nat):Nat->Ps->List Rg->Bool->Ps×List Rg×Bool×Bool
 | 0,s,l,none_=>(s,l,none_,false)
 | n+1,s,l,none_=>
  if s.err=0/\aQ G s 93=false then
   if G.length<=s.i then(s.ak G a 4,l,none_,true)
   else dO a n (d_ G s).1 (l++(d_ G s).2) false
  else(s,l,none_,false)
def r8 (s:Ps):Ps×List Nd:=
 let neg:=aQ G s.next 94
 let t:=aY G s.next 94
 let c:=dO G s.i (G.length+2-t.i) t [] true
 if c.2.2.2 then(c.1,[])
 else if c.1.err≠0 then(c.1,[])
 else if c.2.2.1 then(c.1.ak G s.i 4,[])
 else(c.1.next,[xb (if neg then lB (aL c.2.1) else aL c.2.1)])
def b6:Nat->Nat->List UInt8->Nat×List UInt8
 | 0,i,b=>(i,b)
 | n+1,i,b=>if i<G.length/\48<=aD G i/\aD G i<=57 then
   b6 n (i+1) (if 48<aD G i\/b≠[] then b++[UInt8.ofNat (aD G i).toNat] else b) else(i,b)
def dh (s:Ps):Ps:={ s with i:=(b6 G (G.length-s.i) s.i []).1 }
def gI (s:Ps):List UInt8:=(b6 G (G.length-s.i) s.i []).2
def gv (s:Ps):Bool:=decide (s.i<(b6 G (G.length-s.i) s.i []).1)
end
def ie (a b:List UInt8):Bool:=decide (a.length<b.length)||(a.length==b.length&&Op.bytesLess a b)
def gF (l:List UInt8):Int:=l.foldl (λn c=>10*n+((c.toNat:Int) -48)) 0
def eE (l:List UInt8):Int×Bool:=if 2<l.length then(0,false) else(gF l,decide (gF l<=30))
section
variable (G:List Gt)
def nF (a:Nat) (s:Ps) (m n:List UInt8) (ok en:Bool):Ps×Int×Int:=
 if ok=false then(s.ak G a 4,0,0)
 else if aQ G s 125=false then(s.ak G a 4,0,0)
 else if en=false/\ie n m=true then(s.next.ak G a 4,0,0)
 else
  let lo:=eE m
  let hi:=eE (if en then[] else n)
  if lo.2=false\/hi.2=false then(s.next.ak G a 2,0,0)
  else(s.next,lo.1,if en then-1 else hi.1)
def f_ (s:Ps):Ps×Int×Int:=
 let t:=dh G s.next
 let m:=gI G s.next
 let ok:=gv G s.next
 if ok/\aQ G t 44 then nF G s.i (dh G t.next) m (gI G t.next) ok (!gv G t.next)
 else nF G s.i t m m ok false
def iC (alt:Ps->Ps×List Nd) (s:Ps):Ps×List Nd:=
 let free:=aQ G s.next 63
 let c:=if free then s.next.next else s.next
 if free/\aQ G c 58=false then(c.ak G s.i 4,[])
 else
  let s3:=if free then c.next else c
  if 20<=s3.opens then(s3.ak G s.i 10,[])
  else if free=false/\4<=s3.ae then(s3.ak G s.i 13,[])
  else
   let d:Ps:=if free then s3 else { s3 with ae:=s3.ae+1 }
   let a:=alt { d with opens:=d.opens+1 }
   let b:Ps:={ a.1 with opens:=a.1.opens-1 }
   if b.err=0/\aQ G b 41=false then(b.ak G s.i 4,[])
   else
    let e:Ps:=if b.err=0 then b.next else b
    if free then(e,a.2) else(e,{ nd 6 with cap:=d.ae,kids:=1 }::a.2)
def iZ (alt:Ps->Ps×List Nd) (s:Ps):Ps×List Nd:=
 if eD G s.i then(s.ak G s.i 4,[])
 else
  let r:=aD G s.i
  if r=40 then iC G alt s
  else if r=91 then r8 G s
  else if r=92 then((dZ G s).1,[xb (dZ G s).2.1])
  else if r=46 then(s.next,[xb XB])
  else if r=94 then(s.next,[nd 7])
  else if r=36 then(s.next,[nd 8])
  else if r=42\/r=43\/r=63\/r=41\/r=93\/r=123\/r=125\/r=124 then(s.ak G s.i 4,[])
  else(s.next,[xb (eh r)])
def nG (s:Ps) (mn mx:Int) (x:List Nd):Ps×List Nd:=
 if s.err≠0 then(s,[])
 else(aY G s 63,{ nd 5 with mn:=mn,mx:=mx,lz:=aQ G s 63,kids:=1 }::x)
def ft (alt:Ps->Ps×List Nd) (s:Ps):Ps×List Nd:=
 let a:=iZ G alt s
 if a.1.err≠0 then(a.1,[])
 else if aQ G a.1 42 then nG G a.1.next 0 (-1) a.2
 else if aQ G a.1 43 then nG G a.1.next 1 (-1) a.2
 else if aQ G a.1 63 then nG G a.1.next 0 1 a.2
 else if aQ G a.1 123 then nG G (f_ G a.1).1 (f_ G a.1).2.1 (f_ G a.1).2.2 a.2
 else a
def eI (alt:Ps->Ps×List Nd):Nat->Ps->List (List Nd)->Ps×List (List Nd)
 | 0,s,a=>(s,a)
 | n+1,s,a=>
  if s.err=0/\s.i<G.length/\aQ G s 124=false/\¬(aQ G s 41/\0<s.opens) then eI alt n (ft G alt s).1 (a++[(ft G alt s).2])
  else(s,a)
def mJ (alt:Ps->Ps×List Nd) (s:Ps):Ps×List Nd:=
 let c:=eI G alt (G.length+2-s.i) s []
 (c.1,bK 3 c.2)
def ga (alt:Ps->Ps×List Nd):Nat->Ps->List (List Nd)->Ps×List (List Nd)
 | 0,s,a=>(s,a)
 | n+1,s,a=>
  if s.err=0/\aQ G s 124=true then ga alt n (mJ G alt s.next).1 (a++[(mJ G alt s.next).2])
  else(s,a)
def DY (alt:Ps->Ps×List Nd) (s:Ps):Ps×List Nd:=
 let c:=mJ G alt s
 let d:=ga G alt (G.length+2-c.1.i) c.1 [c.2]
 (d.1,bK 4 d.2)
def qP:Nat->Ps->Ps×List Nd
 | 0,s=>(s,[])
 | n+1,s=>DY G (qP n) s
def MC:Ps:=⟨0,0,0,0,0⟩
def xc:List Nd×Int×Int:=
 let a:=qP G 21 MC
 let s:=if a.1.err=0/\a.1.i<G.length then a.1.ak G a.1.i 4 else a.1
 if s.err≠0 then([],s.err,s.wh) else(a.2,0,0)
end
section
variable {G:List Gt}
@[simp] theorem XC (s:Ps) (k:Nat) (e:Int):(s.ak G k e).i=s.i:=by grind [Ps.ak]
@[simp] theorem QbE (s:Ps) (k:Nat) (e:Int):(s.ak G k e).opens=s.opens:=by grind [Ps.ak]
@[simp] theorem BV (s:Ps) (k:Nat) (e:Int):(s.ak G k e).ae=s.ae:=by grind [Ps.ak]
theorem fk (s:Ps) (k:Nat) {e:Int} (a:e≠0):(s.ak G k e).err≠0:=by
 grind [Ps.ak]
@[simp] theorem jg (s:Ps):s.next.i=s.i+1:=rfl
@[simp] theorem QdU (s:Ps):s.next.opens=s.opens:=rfl
@[simp] theorem QbF (s:Ps):s.next.ae=s.ae:=rfl
@[simp] theorem Qho (s:Ps):s.next.err=s.err:=rfl
theorem cQ {s:Ps} {r:Int} (h:aQ G s r):s.i<G.length:=by
 grind [aQ]
structure fW (G:List Gt) (s t:Ps):Prop where
 le:s.i<=t.i
 len:t.i<=G.length
 op:t.opens=s.opens
 gr:s.ae<=t.ae
 gm:t.ae<=4
variable {s Z:Ps}
def fW.trans {u:Ps} (h:fW G s Z) (a:fW G Z u):fW G s u:=
 ⟨Zav h.le a.le,a.len,a.op.trans h.op,Zav h.gr a.gr,a.gm⟩
theorem fW.refl (h:s.i<=G.length) (a:s.ae<=4):fW G s s:=⟨Zah _,h,rfl,Zah _,a⟩
theorem fW.ak (h:fW G s Z) (k:Nat) (e:Int):fW G s (Z.ak G k e):=⟨by simpa using h.le,by simpa using h.len,by simpa using h.op,by simpa using h.gr,by simpa using h.gm⟩
theorem fW.next (h:fW G s Z) (hl:Z.i<G.length):fW G s Z.next:=⟨by have:=h.le;simp;omega,by simp;omega,h.op,h.gr,h.gm⟩
def fW.skip (h:fW G s Z) (r:Int):fW G s (aY G Z r):=by
 unfold aY;split
 ·rename_i a
  exact h.next (cQ a)
 ·exact h
theorem Qj (s:Ps) (a:Nat) (r:Int):(mI G s a r).1=s\/(mI G s a r).1=s.ak G a 4:=by
 grind [mI]
def pP (l:List Rg):(aL l).length<=2*l.length:=(dN l).2.2
theorem Ab (s:Ps) (a:Nat) (r:Int):(mI G s a r).2.1.length<=8:=by
 unfold mI
 repeat' split
 all_goals first | exact Zav (pP _) (by simp) | simp
theorem Ac (h:fW G s Z) (hl:Z.i<G.length):fW G s (dZ G Z).1/\Z.i<(dZ G Z).1.i/\(dZ G Z).2.1.length<=8:=by
 unfold dZ;simp only;split
 ·exact⟨(h.next hl).ak _ _,by simp,by simp⟩
 ·split
  ·exact⟨(h.next hl).ak _ _,by simp,by simp⟩
  ·rename_i h1 _
   have a:=(h.next hl).next ω;refine⟨?_,?_,Ab _ _ _⟩
   ·rcases Qj (G:=G) Z.next.next Z.i (aD G Z.next.i) with e | e<;>rw[e]
    ·exact a
    ·exact a.ak _ _
   ·rcases Qj (G:=G) Z.next.next Z.i (aD G Z.next.i) with e | e<;>rw[e]<;>simp<;>omega
theorem ku (h:fW G s Z) (hl:Z.i<G.length):fW G s (bP G Z).1/\((bP G Z).2.1≠[]->Z.i<(bP G Z).1.i)/\(bP G Z).2.1.length<=8:=by
 unfold bP;split
 ·exact⟨h.ak _ _,by simp,by simp⟩
 ·simp only;split
  ·grind [Ac]
  ·split
   ·grind
   ·exact⟨h.next hl,λ_=>by simp,by simp⟩
theorem MD (h:fW G s Z) (a:List Rg) (one:Bool) (c:Nat):fW G s (j6 G a one c Z).1/\Z.i<=(j6 G a one c Z).1.i/\(j6 G a one c Z).2.length<=8:=by
 have key:fW G s (if Z.i<G.length then bP G Z else(Z,[],false)).1/\Z.i<=(if Z.i<G.length then bP G Z else(Z,[],false)).1.i:=by
  split
  ·rename_i hl
   refine⟨(ku h hl).1,?_⟩;exact((ku (fW.refl (s:=Z) h.len h.gm) hl).1).le
  ·grind
 unfold j6;simp only;generalize (if Z.i<G.length then bP G Z else(Z,[],false))=b at key;have⟨k1,k2⟩:=key
 repeat' split
 all_goals first | exact⟨k1.ak _ _,by simp_all,by simp⟩ | exact⟨k1,k2,by simp⟩
theorem kx (h:fW G s Z) (hl:Z.i<G.length):fW G s (d_ G Z).1/\((d_ G Z).1.err=0->Z.i<(d_ G Z).1.i)/\(d_ G Z).2.length<=8:=by
 have⟨k1,k2,k3⟩:=ku h hl;have d:=(ku (fW.refl (s:=Z) h.len h.gm) hl).1;unfold d_;simp only;split
 ·grind
 ·split
  ·exact⟨k1.ak _ _,λe=>absurd e (fk _ _ (by decide)),by simp⟩
  ·rename_i _ a
   have k4:=k2 a;split
   ·rename_i c
    have⟨b,a2,a3⟩:=MD (k1.next (cQ c)) (bP G Z).2.1 (bP G Z).2.2 Z.i;exact⟨b,λ_=>by simp at a2;omega,a3⟩
   ·grind
theorem Ad (a:Nat):∀(n:Nat) (t:Ps) (l:List Rg) (b:Bool),fW G s t->fW G s (dO G a n t l b).1/\t.i<=(dO G a n t l b).1.i
 | 0,t,l,b,h=>⟨h,Zah _⟩
 | n+1,t,l,b,h=>by
  unfold dO;split
  ·split
   ·exact⟨h.ak _ _,by simp⟩
   ·rename_i d
    have hl:t.i<G.length:=ω;have c:=(kx (fW.refl (s:=t) h.len h.gm) hl).1.le;have b:=Ad a n (d_ G t).1 (l++(d_ G t).2) false (kx h hl).1;grind
  ·grind
theorem tl (a:Nat):∀(n:Nat) (t:Ps) (l:List Rg) (b:Bool),t.i<=G.length->t.ae<=4->(G.length+1<n+t.i\/t.err≠0/\0<n)->(dO G a n t l b).1.err≠0\/aQ G (dO G a n t l b).1 93
 | 0,t,l,b,h,d,e=>by omega
 | n+1,t,l,b,h,d,e=>by
  unfold dO;split
  ·split
   ·grind [fk]
   ·rename_i h1 f
    have hl:t.i<G.length:=ω;have⟨c,a2,a3⟩:=kx (fW.refl (s:=t) h d) hl;refine tl a n _ _ _ c.len c.gm ?_;omega
  ·grind
theorem jF:∀(n i:Nat) (b:List UInt8),i<=(b6 G n i b).1/\((b6 G n i b).1<=G.length\/(b6 G n i b).1=i)/\(b6 G n i b).2.length+i<=b.length+(b6 G n i b).1
 | 0,i,b=>⟨Zah _,.inr rfl,Zah _⟩
 | n+1,i,b=>by
  unfold b6;split
  ·rename_i h
   have⟨h1,a,c⟩:=jF n (i+1) (if 48<aD G i\/b≠[] then b++[UInt8.ofNat (aD G i).toNat] else b);grind
  ·grind
def r9 (h:fW G s Z):fW G s (dh G Z)/\Z.i<=(dh G Z).i:=by
 have a:=jF (G:=G) (G.length-Z.i) Z.i [];have h1:=a.1;have b:(dh G Z).i<=G.length:=by
  rcases a.2.1 with e | e
  ·exact e
  ·show(b6 G _ _ _).1<=_
   rw[e];exact h.len
 exact⟨⟨Zav h.le h1,b,h.op,h.gr,h.gm⟩,h1⟩
theorem xd (h:fW G s Z) (b:Nat) (m n:List UInt8) (ok en:Bool):fW G s (nF G b Z m n ok en).1/\Z.i<=(nF G b Z m n ok en).1.i:=by
 unfold nF;split
 ·exact⟨h.ak _ _,by simp⟩
 ·split
  ·exact⟨h.ak _ _,by simp⟩
  ·rename_i c
   have a:=h.next (cQ (by simpa using c));split
   ·exact⟨a.ak _ _,by simp⟩
   ·simp only;by_cases d:(eE m).2=false\/(eE (if en=true then[] else n)).2=false
    ·rw[Zac d];exact⟨a.ak _ _,by simp⟩
    ·simp_all
theorem xe (h:fW G s Z) (hl:Z.i<G.length):fW G s (f_ G Z).1/\Z.i<(f_ G Z).1.i:=by
 have⟨a,a2⟩:=r9 (h.next hl);simp only[jg] at a2;unfold f_;simp only;split
 ·rename_i b
  have⟨b1,c⟩:=r9 (a.next (cQ b.2));grind [jg,xd]
 ·grind [xd]
theorem Qk (h:fW G s Z) (hl:Z.i<G.length):fW G s (r8 G Z).1/\Z.i<(r8 G Z).1.i/\(r8 G Z).2.length<=1:=by
 have h1:=(h.next hl).skip 94;have e:Z.i<(aY G Z.next 94).i:=by unfold aY;split<;>simp<;>omega
 have⟨a,a2⟩:=Ad Z.i (G.length+2-(aY G Z.next 94).i) _ ([]:List Rg) true h1;have a3:=tl (G:=G) Z.i (G.length+2-(aY G Z.next 94).i) (aY G Z.next 94) [] true h1.len h1.gm ω;unfold r8;simp only;generalize dO G Z.i (G.length+2-(aY G Z.next 94).i) (aY G Z.next 94) [] true=c at a a2 a3;split
 ·grind
 ·split
  ·grind
  ·rename_i f
   split
   ·exact⟨a.ak _ _,by simp;omega,by simp⟩
   ·have d:c.1.err=0:=ω;have b:aQ G c.1 93:=by grind
    exact⟨a.next (cQ b),by simp;omega,by simp⟩
def mK (G:List Gt) (alt:Ps->Ps×List Nd):Prop:=∀s,s.i<=G.length->s.ae<=4->fW G s (alt s).1/\(alt s).2.length<=3*((alt s).1.i-s.i)+1
variable {alt:Ps->Ps×List Nd}
variable {s:Ps}
theorem GP (A:mK G alt) (hl:s.i<G.length) (w:s.ae<=4):fW G s (iC G alt s).1/\((iC G alt s).1.err=0->s.i<(iC G alt s).1.i)/\(iC G alt s).2.length<=3*((iC G alt s).1.i-s.i):=by
 have h1:=(fW.refl (Zcx hl) w).next hl;unfold iC;simp only;generalize c:aQ G s.next 63=free;generalize o:(if free=true then s.next.next else s.next)=f;have j:fW G s f/\s.i<f.i:=by
  subst o;split
  ·rename_i t
   subst t;exact⟨h1.next (cQ c),by simp;omega⟩
  ·simp_all
 split
 ·exact⟨j.1.ak _ _,λe=>absurd e (fk _ _ (by decide)),by simp⟩
 ·rename_i x
  generalize p:(if free=true then f.next else f)=s3;have b:fW G s s3/\s.i<s3.i:=by
   subst p;split
   ·rename_i t
    have:aQ G f 58:=by
     grind
    exact⟨j.1.next (cQ this),by simp;omega⟩
   ·exact j
  split
  ·exact⟨b.1.ak _ _,λe=>absurd e (fk _ _ (by decide)),by simp⟩
  ·split
   ·exact⟨b.1.ak _ _,λe=>absurd e (fk _ _ (by decide)),by simp⟩
   ·rename_i u
    generalize q:(if free=true then s3 else({ s3 with ae:=s3.ae+1 }:Ps))=s4;have k:s4.i=s3.i/\s4.opens=s3.opens/\s3.ae<=s4.ae/\s4.ae<=4:=by
     subst q;have:=b.1.gm;grind
    have v:=b.1.len;have⟨b1,r⟩:=A { s4 with opens:=s4.opens+1 } (by grind) k.2.2.2;generalize alt { s4 with opens:=s4.opens+1 }=a at b1 r;simp only[k.1] at r;have h:=b1.le;simp only[k.1] at h;have l:fW G s ({ a.1 with opens:=a.1.opens-1 }:Ps):=by
     refine⟨?_,b1.len,?_,?_,b1.gm⟩
     ·have:=b.2;simp;omega
     ·have:=b1.op;have:=b.1.op;simp at*;omega
     ·have:=b1.gr;have:=b.1.gr;simp at*;omega
    split
    ·exact⟨l.ak _ _,λe=>absurd e (fk _ _ (by decide)),by simp⟩
    ·rename_i d
     have g:fW G s (if a.1.err=0 then({ a.1 with opens:=a.1.opens-1 }:Ps).next else({ a.1 with opens:=a.1.opens-1 }:Ps))/\a.1.i<=(if a.1.err=0 then({ a.1 with opens:=a.1.opens-1 }:Ps).next else({ a.1 with opens:=a.1.opens-1 }:Ps)).i/\(a.1.err=0->(if a.1.err=0 then({ a.1 with opens:=a.1.opens-1 }:Ps).next else({ a.1 with opens:=a.1.opens-1 }:Ps)).i=a.1.i+1):=by
      split
      ·rename_i n
       have m:aQ G ({ a.1 with opens:=a.1.opens-1 }:Ps) 41:=by
        cases m:aQ G ({ a.1 with opens:=a.1.opens-1 }:Ps) 41
        ·exact absurd ⟨n,m⟩ d
        ·rfl
       exact⟨l.next (cQ m),by simp,λ_=>rfl⟩
      ·rename_i n
       exact⟨l,by simp,λe=>absurd e n⟩
     have hlen:a.2.length+1<=3*((if a.1.err=0 then({ a.1 with opens:=a.1.opens-1 }:Ps).next else({ a.1 with opens:=a.1.opens-1 }:Ps)).i-s.i):=by
      have:=g.2.1;have:=b.2;omega
     generalize (if a.1.err=0 then({ a.1 with opens:=a.1.opens-1 }:Ps).next else({ a.1 with opens:=a.1.opens-1 }:Ps))=y at g hlen;have:=b.2;split
     ·exact⟨g.1,λ_=>by grind,by grind⟩
     ·exact⟨g.1,λ_=>by grind,by simp;omega⟩
theorem Ae (A:mK G alt) (hl:s.i<G.length) (a:s.ae<=4):fW G s (iZ G alt s).1/\((iZ G alt s).1.err=0->s.i<(iZ G alt s).1.i)/\(iZ G alt s).2.length<=3*((iZ G alt s).1.i-s.i):=by
 have h0:=fW.refl (Zcx hl) a;have h1:=h0.next hl;have hw:fW G s (s.ak G s.i 4)/\((s.ak G s.i 4).err=0->s.i<(s.ak G s.i 4).i)/\([]:List Nd).length<=3*((s.ak G s.i 4).i-s.i):=⟨h0.ak _ _,λe=>absurd e (fk _ _ (by decide)),by simp⟩;have b:∀x:Nd,fW G s s.next/\(s.next.err=0->s.i<s.next.i)/\[x].length<=3*(s.next.i-s.i):=λx=>⟨h1,λ_=>by simp,by simp⟩
 unfold iZ;grind [GP,Qk,Ac]
theorem DZ {t:Ps} (h:fW G s t) (mn mx:Int) (x:List Nd):fW G s (nG G t mn mx x).1/\t.i<=(nG G t mn mx x).1.i/\(nG G t mn mx x).2.length<=x.length+1:=by
 unfold nG;split
 ·grind
 ·refine⟨h.skip 63,?_,by simp⟩;unfold aY;split<;>simp
theorem xf (A:mK G alt) (hl:s.i<G.length) (e:s.ae<=4):fW G s (ft G alt s).1/\((ft G alt s).1.err=0->s.i<(ft G alt s).1.i)/\(ft G alt s).2.length<=3*((ft G alt s).1.i-s.i):=by
 have⟨b,a2,a3⟩:=Ae A hl e;unfold ft;simp only;generalize iZ G alt s=a at b a2 a3;have al:=b.le;split
 ·grind
 ·rename_i h
  have d:a.1.err=0:=ω;have key:∀(r mn mx:Int),aQ G a.1 r->fW G s (nG G a.1.next mn mx a.2).1/\((nG G a.1.next mn mx a.2).1.err=0->s.i<(nG G a.1.next mn mx a.2).1.i)/\(nG G a.1.next mn mx a.2).2.length<=3*((nG G a.1.next mn mx a.2).1.i-s.i):=λr mn mx c=>by
   have⟨b1,f,g⟩:=DZ (b.next (cQ c)) mn mx a.2;grind [jg]
  grind [xe,cQ,DZ]
def total (a:List (List Nd)):Nat:=a.flatten.length
theorem gb (a:List (List Nd)) (x:List Nd):total (a++[x])=total a+x.length:=by simp[total]
theorem xg (op:Int):∀a:List (List Nd),(bK op a).length<=total a+1
 | []=>by grind [bK]
 | [x]=>by simp[bK,total]
 | x::y::a=>by simp[bK,total]
theorem Af (A:mK G alt):∀(n:Nat) (t:Ps) (a:List (List Nd)),fW G s t->total a<=3*(t.i-s.i)->fW G s (eI G alt n t a).1/\total (eI G alt n t a).2<=3*((eI G alt n t a).1.i-s.i)
 | 0,t,a,h,c=>⟨h,c⟩
 | n+1,t,a,h,c=>by
  unfold eI;split
  ·rename_i d
   have⟨b,a2,a3⟩:=xf A d.2.1 h.gm;have e:=b.le;have f:=h.le;refine Af A n _ _ (h.trans b) ?_;rw[gb];omega
  ·grind
def mM (A:mK G alt) (hl:s.i<=G.length) (b:s.ae<=4):fW G s (mJ G alt s).1/\(mJ G alt s).2.length<=3*((mJ G alt s).1.i-s.i)+1:=by
 have⟨a,a2⟩:=Af A (G.length+2-s.i) s [] (fW.refl hl b) (by simp[total]);exact⟨a,Zav (xg _ _) (by show total (eI G alt (G.length+2-s.i) s []).2+1<=_;exact ZcU a2)⟩
theorem Ag (A:mK G alt):∀(n:Nat) (t:Ps) (a:List (List Nd)),fW G s t->0<a.length->total a+2*a.length<=3*(t.i-s.i)+3->fW G s (ga G alt n t a).1/\0<(ga G alt n t a).2.length/\total (ga G alt n t a).2+2*(ga G alt n t a).2.length<=3*((ga G alt n t a).1.i-s.i)+3
 | 0,t,a,h,h0,d=>⟨h,h0,d⟩
 | n+1,t,a,h,h0,d=>by
  unfold ga;split
  ·rename_i e
   have b:=h.next (cQ e.2);have⟨c,a2⟩:=mM A (s:=t.next) b.len b.gm;have f:=c.le;have g:=h.le;simp only[jg] at f a2;refine Ag A n _ _ (b.trans c) (by simp) ?_;grind [gb]
  ·grind
theorem uj (op:Int) (a:List (List Nd)) (h:0<a.length):(bK op a).length+2<=total a+2*a.length:=by
 match a,h with
 | [x],_=>simp[bK,total]
 | x::y::a,_=>simp[bK,total];omega
theorem Ql (A:mK G alt) (hl:s.i<=G.length) (d:s.ae<=4):fW G s (DY G alt s).1/\(DY G alt s).2.length<=3*((DY G alt s).1.i-s.i)+1:=by
 have⟨a,a2⟩:=mM A (s:=s) hl d;unfold DY;simp only;generalize mJ G alt s=c at a a2;have⟨b1,b,e⟩:=Ag A (G.length+2-c.1.i) c.1 [c.2] a (by simp) (by grind [total]);have:=uj 4 _ b;grind
theorem vD:∀n,mK G (qP G n)
 | 0=>λs h a=>⟨fW.refl h a,by simp[qP]⟩
 | n+1=>λs h a=>Ql (vD n) h a
end
section
variable (G:List Gt)
def r_ (s:Ps) (a:Nat):Ps×List Rg:=
 if G.length<=s.i then(s.ak G a 4,[])
 else if eD G s.i then(s.ak G s.i 4,[])
 else
  let r:=aD G s.i
  if r=110 then(s.next,[(10,10)])
  else if r=116 then(s.next,[(9,9)])
  else if r=114 then(s.next,[(13,13)])
  else if r=100 then(s.next,[(48,57)])
  else if r=115 then(s.next,aL [(9,10),(13,13),(32,32)])
  else if r=119 then(s.next,aL [(48,57),(65,90),(95,95),(97,122)])
  else if ic r then(s.next,[(r,r)])
  else(s.next.ak G a 4,[])
def fl (s:Ps):Ps×List Rg:=
 if eD G s.i then(s.next.ak G s.i 4,[])
 else
  let r:=aD G s.i
  if r=92 then r_ G s.next s.i
  else if r=91\/r=45 then(s.next.ak G s.i 4,[])
  else(s.next,[(r,r)])
def cY (l:List Rg):Bool:=decide (l.length=1)&&decide ((l.getD 0 (0,0)).1=(l.getD 0 (0,0)).2)
def kP (s:Ps) (c:Nat) (a l:List Rg):Ps×List Rg×Bool:=
 if s.err≠0\/aQ G s 45=false then(s,l++a,false)
 else
  let t:=s.next
  if G.length<=t.i\/aQ G t 93\/aQ G t 91\/aQ G t 45=true then(t.ak G c 4,l,true)
  else
   let b:=fl G t
   if b.1.err=0/\(cY a=false\/cY b.2=false\/oX b.2<oX a) then(b.1.ak G c 4,l,true)
   else if b.1.err=0 then(b.1,l++[(oX a,oX b.2)],false)
   else(b.1,l,false)
def dp:Nat->Ps->List Rg->Bool->Ps×List Rg×Bool
 | 0,s,l,any=>(s,l,any)
 | n+1,s,l,any=>
  if s.err=0/\s.i<G.length/\aQ G s 93=false then
   let m:=kP G (fl G s).1 s.i (fl G s).2 l
   if m.2.2 then(m.1,m.2.1,true) else dp n m.1 m.2.1 true
  else(s,l,any)
def y4 (s:Ps) (a:Nat):Ps×List Rg:=
 let neg:=aQ G s 94
 let t:=aY G s 94
 let c:=dp G (G.length+2-t.i) t [] false
 let u:=if c.1.err=0/\(c.2.2=false\/aQ G c.1 93=false) then c.1.ak G a 4 else c.1
 (u.next,if neg then lB c.2.1 else aL c.2.1)
def jG (a:Nat) (s:Ps) (m n:List UInt8) (ok op:Bool):Ps×Int×Int:=
 let t:=if ok=false\/aQ G s 125=false\/(op=false/\ie n m) then s.ak G a 4 else s
 let lo:=eE m
 let hi:=if op then(-1,true) else eE n
 let u:=if lo.2=false\/hi.2=false then t.next.ak G a 2 else t.next
 (u,lo.1,hi.1)
def ej (s:Ps):Ps×Int×Int:=
 let t:=dh G s.next
 let m:=gI G s.next
 let ok:=gv G s.next
 if ok/\aQ G t 44 then jG G s.i (dh G t.next) m (gI G t.next) ok (!gv G t.next)
 else jG G s.i t m m ok false
def ff (s:Ps) (a:Nat):Ps:=
 (if s.err=0/\aQ G s 41=false then s.ak G a 4 else s).next
def jh (alt:Ps->Ps×List Nd) (deep:Nat) (s:Ps) (a:Nat):Ps×List Nd:=
 let quiet:=aQ G s 63
 if quiet/\aQ G s.next 58=false then(s.ak G a 4,[])
 else if 20<=deep then(s.ak G a 10,[])
 else if quiet then(ff G (alt s.next.next).1 a,(alt s.next.next).2)
 else if 4<=s.ae then(s.ak G a 13,[])
 else
  let t:Ps:={ s with ae:=s.ae+1 }
  (ff G (alt t).1 a,{ nd 6 with cap:=t.ae,kids:=1 }::(alt t).2)
def fG (alt:Ps->Ps×List Nd) (deep:Nat) (s:Ps):Ps×List Nd:=
 if eD G s.i then(s.next.ak G s.i 4,[])
 else
  let r:=aD G s.i
  if r=40 then jh G alt deep s.next s.i
  else if r=91 then((y4 G s.next s.i).1,[xb (y4 G s.next s.i).2])
  else if r=46 then(s.next,[xb (lB [(10,10)])])
  else if r=94 then(s.next,[nd 7])
  else if r=36 then(s.next,[nd 8])
  else if r=92 then((r_ G s.next s.i).1,[xb (r_ G s.next s.i).2])
  else if r=42\/r=43\/r=63\/r=123\/r=125\/r=93\/r=41\/r=124 then(s.next.ak G s.i 4,[])
  else(s.next,[xb [(r,r)]])
def jH (s:Ps) (mn mx:Int) (x:List Nd):Ps×List Nd:=
 (aY G s 63,{ nd 5 with mn:=mn,mx:=mx,lz:=aQ G s 63,kids:=1 }::x)
def sd (alt:Ps->Ps×List Nd) (deep:Nat) (s:Ps):Ps×List Nd:=
 let a:=fG G alt deep s
 if a.1.err≠0\/G.length<=a.1.i then a
 else if aQ G a.1 42 then jH G a.1.next 0 (-1) a.2
 else if aQ G a.1 43 then jH G a.1.next 1 (-1) a.2
 else if aQ G a.1 63 then jH G a.1.next 0 1 a.2
 else if aQ G a.1 123 then jH G (ej G a.1).1 (ej G a.1).2.1 (ej G a.1).2.2 a.2
 else a
def ea (alt:Ps->Ps×List Nd) (deep:Nat):Nat->Ps->List (List Nd)->Ps×List (List Nd)
 | 0,s,a=>(s,a)
 | n+1,s,a=>
  if s.err=0/\s.i<G.length/\aQ G s 124=false/\aQ G s 41=false then ea alt deep n (sd G alt deep s).1 (a++[(sd G alt deep s).2])
  else(s,a)
def oy (alt:Ps->Ps×List Nd) (deep:Nat) (s:Ps):Ps×List Nd:=
 let c:=ea G alt deep (G.length+2-s.i) s []
 (c.1,bK 3 c.2)
def dJ (alt:Ps->Ps×List Nd) (deep:Nat):Nat->Ps->List (List Nd)->Ps×List (List Nd)
 | 0,s,a=>(s,a)
 | n+1,s,a=>
  if s.err=0/\aQ G s 124=true then dJ alt deep n (oy G alt deep s.next).1 (a++[(oy G alt deep s.next).2])
  else(s,a)
def uk (alt:Ps->Ps×List Nd) (deep:Nat) (s:Ps):Ps×List Nd:=
 let c:=oy G alt deep s
 let d:=dJ G alt deep (G.length+2-c.1.i) c.1 [c.2]
 (d.1,bK 4 d.2)
def y5:Nat->Nat->Ps->Ps×List Nd
 | 0,_,s=>(s,[])
 | n+1,deep,s=>uk G (y5 n (deep+1)) deep s
def GQ:List Nd×Int×Int:=
 let a:=y5 G 21 0 MC
 let s:=if a.1.err=0/\a.1.i<G.length then a.1.ak G a.1.i 4 else a.1
 if s.err≠0 then([],s.err,s.wh) else(a.2,0,0)
end
section
variable {G:List Gt}
structure Fx (G:List Gt):Prop where
 one:∀i,i<G.length->eh (aD G i)=[(aD G i,aD G i)]
 n:eh 10=[(10,10)]
 t:eh 9=[(9,9)]
 r:eh 13=[(13,13)]
 d:aL [(48,57)]=[(48,57)]
 s:cY (aL [(9,10),(13,13),(32,32)])=false
 w:cY (aL [(48,57),(65,90),(95,95),(97,122)])=false
 s0:aL [(9,10),(13,13),(32,32)]≠[]
 w0:aL [(48,57),(65,90),(95,95),(97,122)]≠[]
 not:∀l,lB (aL l)=lB l
structure At (G:List Gt) (deep:Nat) (s t:Ps):Prop where
 e:s.err=0
 e2:t.err=0
 i:t.i=s.i
 g:t.ae=s.ae
 o:s.opens=deep
 le:s.i<=G.length
variable {s:Ps} {e:Int}
def Rel {α:Type} (G:List Gt) (deep:Nat) (a b:Ps×α):Prop:=(At G deep a.1 b.1/\b.2=a.2)\/(a.1.err≠0/\b.1.err=a.1.err/\b.1.wh=a.1.wh)
theorem bF (h:s.err=0) (k:Nat) (e:Int):s.ak G k e={ s with err:=e,wh:=place G k }:=by grind [Ps.ak]
theorem fM {α:Type} {deep k:Nat} {t:Ps} {x y:α} (hs:s.err=0) (ht:t.err=0) (a:e≠0):Rel G deep (s.ak G k e,x) (t.ak G k e,y):=by
 right;grind [bF]
theorem fB {t:Ps} (h:t.i=s.i) (r:Int):aQ G t r=aQ G s r:=by grind [aQ]
theorem gx (h:aQ G s e):s.i<G.length:=by
 grind [aQ]
theorem pQ (h:s.i<G.length):aQ G s e=(aD G s.i==e):=by
 grind [aQ,aD]
variable {deep:Nat} {s t:Ps}
variable {x:Ps}
theorem At.next (h:At G deep s t) (hl:s.i<G.length):At G deep s.next t.next:=⟨h.e,h.e2,by show t.i+1=s.i+1;rw[h.i],h.g,h.o,hl⟩
def At.skip (h:At G deep s t) (r:Int):At G deep (aY G s r) (aY G t r):=by
 unfold aY;rw[fB h.i];split
 ·rename_i a;exact h.next (gx a)
 ·exact h
def kQ (r:Int):cY [(r,r)]:=by simp[cY]
theorem D0 (F:Fx G) (h:At G deep s t) (hl:s.i<G.length):Rel G deep ((dZ G s).1,(dZ G s).2.1) (r_ G t.next s.i)/\((dZ G s).1.err=0->(dZ G s).2.2=cY (dZ G s).2.1/\(dZ G s).2.1≠[]):=by
 have c:=h.next hl;unfold dZ r_;simp only;rw[c.i];by_cases h1:G.length<=s.next.i
 ·rw[Zac h1,Zac h1];exact⟨fM c.e c.e2 (by decide),λb=>by rw[bF c.e] at b;cases b⟩
 ·rw[Zaa h1,Zaa h1];by_cases f:eD G s.next.i
  ·rw[Zac f,Zac f];exact⟨fM c.e c.e2 (by decide),λb=>by rw[bF c.e] at b;cases b⟩
  ·rw[Zaa f,Zaa f];have g:=F.one s.next.i ω;have a:=c.next ω;generalize aD G s.next.i=r at g;unfold mI;by_cases c1:r=110
   ·rw[Zac c1,Zac c1,F.n];exact⟨.inl ⟨a,rfl⟩,λ_=>⟨(kQ _).symm,by simp⟩⟩
   rw[Zaa c1,Zaa c1];by_cases c2:r=116
   ·rw[Zac c2,Zac c2,F.t];exact⟨.inl ⟨a,rfl⟩,λ_=>⟨(kQ _).symm,by simp⟩⟩
   rw[Zaa c2,Zaa c2];by_cases c3:r=114
   ·rw[Zac c3,Zac c3,F.r];exact⟨.inl ⟨a,rfl⟩,λ_=>⟨(kQ _).symm,by simp⟩⟩
   rw[Zaa c3,Zaa c3];by_cases c4:r=100
   ·rw[Zac c4,Zac c4,F.d];exact⟨.inl ⟨a,rfl⟩,λ_=>⟨by rfl,by simp⟩⟩
   rw[Zaa c4,Zaa c4];by_cases c5:r=115
   ·rw[Zac c5,Zac c5];exact⟨.inl ⟨a,rfl⟩,λ_=>⟨F.s.symm,F.s0⟩⟩
   rw[Zaa c5,Zaa c5];by_cases c6:r=119
   ·rw[Zac c6,Zac c6];exact⟨.inl ⟨a,rfl⟩,λ_=>⟨F.w.symm,F.w0⟩⟩
   rw[Zaa c6,Zaa c6];by_cases c7:ic r
   ·rw[Zac c7,Zac c7,g];exact⟨.inl ⟨a,rfl⟩,λ_=>⟨(kQ _).symm,by simp⟩⟩
   ·rw[Zaa c7,Zaa c7];exact⟨fM a.e a.e2 (by decide),λb=>by rw[bF a.e] at b;cases b⟩
theorem D1 (F:Fx G) (h:At G deep s t) (hl:s.i<G.length) (a:aQ G s 93=false):
  (Rel G deep ((bP G s).1,(bP G s).2.1) (fl G t)/\((bP G s).1.err=0->(bP G s).2.2=cY (bP G s).2.1/\(bP G s).2.1≠[]))\/
   (bP G s=(s,[],false)/\eD G s.i=false/\(aD G s.i=91\/aD G s.i=45)/\fl G t=(t.next.ak G s.i 4,[])):=by
 have d:=h.next hl;rw[pQ hl] at a;unfold bP fl;rw[h.i];by_cases b:eD G s.i
 ·rw[Zac b,Zac b];exact .inl ⟨fM h.e d.e2 (by decide),λc=>by rw[bF h.e] at c;cases c⟩
 ·rw[Zaa b,Zaa b];generalize aD G s.i=r at a;simp only;by_cases c1:r=92
  ·grind [D0]
  ·rw[Zaa c1,Zaa c1];by_cases c2:r=91\/r=45
   ·grind
   ·have c3:¬r=93:=by grind
    rw[Zaa ω,Zaa c2];exact .inl ⟨.inl ⟨d,rfl⟩,λ_=>⟨(kQ _).symm,by simp⟩⟩
theorem QdV {i:Nat} (hl:i<G.length) (h:aD G i≠65533):eD G i=false:=by
 grind [eD,aD]
theorem gy (hl:x.i<G.length) (h:aD G x.i=91\/aD G x.i=93\/aD G x.i=45):bP G x=(x,[],false):=by
 grind [bP,QdV]
theorem Ah (a:List Rg) (one:Bool) (b:Nat) (c:x.err=0) (h:G.length<=x.i\/(x.i<G.length/\(aD G x.i=91\/aD G x.i=93\/aD G x.i=45))):j6 G a one b x=(x.ak G b 4,[]):=by
 grind [gy,j6,bF]
def QnQ (G:List Gt) (deep:Nat) (l:List Rg) (a:Ps×List Rg) (m:Ps×List Rg×Bool):Prop:=(At G deep a.1 m.1/\m.2=(l++a.2,false))\/(a.1.err≠0/\m.1.err=a.1.err/\m.1.wh=a.1.wh)
theorem Qm {b:Nat} {a l:List Rg} (h:x.err≠0):kP G x b a l=(x,l++a,false):=by
 grind [kP]
theorem Qn (F:Fx G) (h:At G deep s t) (hl:s.i<G.length) (D:aQ G s 93=false) (l:List Rg):QnQ G deep l (d_ G s) (kP G (fl G t).1 t.i (fl G t).2 l):=by
 rcases D1 F h hl D with⟨w,H⟩ | ⟨w,R,S,hi⟩
 ·unfold d_;simp only;generalize bP G s=a at w H ⊢;have⟨j,a2,a3⟩:=a;generalize fl G t=b at w ⊢;have⟨b1,z⟩:=b;simp only at w H ⊢;rcases w with⟨q,v⟩ | ⟨v,x,d⟩
  ·simp only at q v;subst v;have⟨hs,E⟩:=H q.e;rw[Zaa (by rw[q.e];simp),Zaa E];by_cases m:aQ G j 45
   ·rw[Zac m];have r:=q.next (gx m);unfold kP;rw[Zaa (by rw[fB q.i,m,q.e2];simp)];simp only;have o:=r.i;rw[fB o,fB o,fB o,o,h.i];by_cases c1:G.length<=j.next.i
    ·rw[Zac (.inl c1),Ah z a3 s.i r.e (.inl c1),bF r.e,bF r.e2];exact .inr ⟨by simp,rfl,rfl⟩
    ·by_cases c2:aQ G j.next 93\/aQ G j.next 91\/aQ G j.next 45
     ·rw[Zac (.inr c2)];have I:aD G j.next.i=91\/aD G j.next.i=93\/aD G j.next.i=45:=by
       grind [pQ]
      rw[Ah z a3 s.i r.e (.inr ⟨ω,I⟩),bF r.e,bF r.e2];exact .inr ⟨by simp,rfl,rfl⟩
     ·rw[Zaa (by grind)];have A:aQ G j.next 93=false:=by
       grind
      rcases D1 F r ω A with⟨n,u⟩ | ⟨n,L,O,M⟩
      ·unfold j6;simp only;rw[Zac (show j.next.i<G.length by omega)];generalize bP G j.next=c at n u ⊢;have⟨B,P,Q⟩:=c;generalize fl G b1.next=f at n ⊢;have⟨C,K⟩:=f;simp only at n u ⊢;rcases n with⟨g,d⟩ | ⟨d,p,y⟩
       ·simp only at g d;subst d;have⟨J,_⟩:=u g.e;subst hs J;by_cases c3:cY z=false\/cY K=false\/oX K<oX z
        ·rw[Zac (⟨g.e,c3⟩:B.err=0/\_),Zac (⟨g.e2,c3⟩:C.err=0/\_),bF g.e,bF g.e2];exact .inr ⟨by simp,rfl,rfl⟩
        ·rw[Zaa (λk=>c3 k.2:¬(B.err=0/\_)),Zaa (λk=>c3 k.2:¬(C.err=0/\_)),Zac g.e,Zac g.e2];exact .inl ⟨g,rfl⟩
       ·simp only at d p y;rw[Zaa (λk=>d k.1:¬(B.err=0/\_)),Zaa d,Zaa (λk=>d (p▸k.1):¬(C.err=0/\_)),Zaa (λk=>d (p▸k))];exact .inr ⟨d,p,y⟩
      ·grind [pQ]
   ·rw[Zaa m];unfold kP;rw[Zac (.inr (by rw[fB q.i];simpa using m))];exact .inl ⟨q,rfl⟩
  ·simp only at v x d;rw[Zac v,Qm ω];exact .inr ⟨v,x,d⟩
 ·unfold d_;rw[w,hi];simp only;have N:=h.next hl;rw[Zaa (by rw[h.e];simp),bF h.e,bF N.e2];exact .inr ⟨by simp,rfl,rfl⟩
def Qhp (G:List Gt) (deep c:Nat) (a:Ps×List Rg×Bool×Bool) (b:Ps×List Rg×Bool):Prop:=
 (At G deep a.1 b.1/\b.2.1=a.2.1/\b.2.2=!a.2.2.1/\a.2.2.2=false/\aQ G a.1 93)\/
  (a.1.err≠0/\b.1.err=a.1.err/\b.1.wh=a.1.wh)\/(a.1.err=4/\a.1.wh=place G c/\b.1.err=0/\aQ G b.1 93=false)
theorem Ai (F:Fx G) (c:Nat):∀(n:Nat) (s t:Ps) (l:List Rg) (none_:Bool),At G deep s t->s.ae<=4->G.length+2<=n+s.i->Qhp G deep c (dO G c n s l none_) (dp G n t l (!none_))
 | 0,s,t,l,none_,h,u,w=>by have:=h.le;omega
 | n+1,s,t,l,none_,h,u,w=>by
  unfold dO dp;by_cases b:aQ G s 93=false
  ·rw[Zac ⟨h.e,b⟩];by_cases hl:G.length<=s.i
   ·rw[Zac hl,Zaa (by rw[h.i];omega),bF h.e];exact .inr (.inr ⟨rfl,rfl,h.e2,(fB h.i 93).trans b⟩)
   ·rw[Zaa hl,Zac ⟨h.e2,by rw[h.i];omega,by rw[fB h.i];exact b⟩];have hi:=Qn F h ω b l;have f:=(kx (fW.refl (G:=G) h.le u) ω).2.1;have p:=(kx (fW.refl (G:=G) h.le u) ω).1.gm;generalize d_ G s=a at hi f p ⊢;generalize kP G (fl G t).1 t.i (fl G t).2 l=m at hi ⊢;have⟨m1,m2,m3⟩:=m;have⟨q,a2⟩:=a;rcases hi with⟨r,g⟩ | ⟨g,d,j⟩
    ·simp only[Zbx] at g r;obtain⟨rfl,rfl⟩:=g;simp only[ZaE];exact Ai F c n q m1 _ false r p (by have:=f r.e;simp only at this;omega)
    ·simp only at g d j ⊢;have v:dO G c n q (l++a2) false=(q,l++a2,false,false):=by
      cases n with
      | zero=>rfl
      | succ n=>rw[dO,Zaa (λk=>g k.1)]
     rw[v];cases m3
     ·simp only[ZaE];have e2:dp G n m1 m2 true=(m1,m2,true):=by
       cases n with
       | zero=>rfl
       | succ n=>rw[dp,Zaa (λk=>g (d▸k.1))]
      rw[e2];exact .inr (.inl ⟨g,d,j⟩)
     ·exact .inr (.inl ⟨g,d,j⟩)
  ·have o:aQ G s 93:=by grind
   rw[Zaa (λk=>b k.2),Zaa (λk=>b ((fB h.i 93)▸k.2.2))];exact .inl ⟨h,rfl,rfl,rfl,o⟩
theorem XD (F:Fx G) (h:At G deep s t) (x:s.ae<=4) (hl:s.i<G.length):Rel G deep (r8 G s) ((y4 G t.next s.i).1,[xb (y4 G t.next s.i).2]):=by
 have r:=h.next hl;have hk:=r.skip 94;have n:(aY G s.next 94).ae<=4:=by unfold aY;split<;>exact x
 have o:Qhp G deep s.i (dO G s.i (G.length+2-(aY G s.next 94).i) (aY G s.next 94) [] true) (dp G (G.length+2-(aY G s.next 94).i) (aY G t.next 94) [] false):=Ai F s.i (G.length+2-(aY G s.next 94).i) _ _ [] true hk n ω;have g:=tl (G:=G) s.i (G.length+2-(aY G s.next 94).i) (aY G s.next 94) [] true hk.le n (.inl ω);unfold r8 y4;simp only;rw[fB r.i,hk.i];generalize dO G s.i (G.length+2-(aY G s.next 94).i) (aY G s.next 94) [] true=a at o g ⊢;generalize dp G (G.length+2-(aY G s.next 94).i) (aY G t.next 94) [] false=b at o ⊢;have⟨f,a2,a3,a4⟩:=a;have⟨b1,y,q⟩:=b;simp only at o g ⊢;rcases o with⟨j,u,v,w,d⟩ | ⟨l,c,m⟩ | ⟨l,hw,c,d⟩
 ·simp only at u v w;subst u v w;simp only[ZaE,Za0];simp only at j d;rw[Zaa (by rw[j.e];simp)];cases a3
  ·have hu:(if b1.err=0/\((!false)=false\/aQ G b1 93=false) then b1.ak G s.i 4 else b1)=b1:=Zaa (by rw[fB j.i,d];simp);rw[hu];refine .inl ⟨j.next (gx d),?_⟩;simp only[F.not];rfl
  ·have hu:(if b1.err=0/\((!true)=false\/aQ G b1 93=false) then b1.ak G s.i 4 else b1)=b1.ak G s.i 4:=Zac ⟨j.e2,.inl rfl⟩;rw[hu,bF j.e,bF j.e2];exact .inr ⟨by simp,rfl,rfl⟩
 ·simp only at l c m;have hu:(if b1.err=0/\(q=false\/aQ G b1 93=false) then b1.ak G s.i 4 else b1)=b1:=Zaa (λk=>l (c▸k.1));rw[hu];have p:(if a4=true then(f,([]:List Nd)) else if f.err≠0 then(f,[]) else if a3=true then(f.ak G s.i 4,[]) else(f.next,[xb (if aQ G s.next 94=true then lB (aL a2) else aL a2)]))=(f,[]):=by
   grind
  rw[p];exact .inr ⟨l,c,m⟩
 ·simp only at l hw c d;have hu:(if b1.err=0/\(q=false\/aQ G b1 93=false) then b1.ak G s.i 4 else b1)=b1.ak G s.i 4:=Zac ⟨c,.inr d⟩;have p:(if a4=true then(f,([]:List Nd)) else if f.err≠0 then(f,[]) else if a3=true then(f.ak G s.i 4,[]) else(f.next,[xb (if aQ G s.next 94=true then lB (aL a2) else aL a2)]))=(f,[]):=by
   grind
  rw[hu,bF c,p];exact .inr ⟨by grind,l.symm,hw.symm⟩
def XE (G:List Gt) (deep:Nat) (a b:Ps×Int×Int):Prop:=(At G deep a.1 b.1/\b.2=a.2)\/(a.1.err≠0/\b.1.err=a.1.err/\b.1.wh=a.1.wh)
theorem xh (h:At G deep s t) (b:Nat) (m n:List UInt8) (ok en:Bool) (k:en->n=[]):XE G deep (nF G b s m n ok en) (jG G b t m n ok en):=by
 have key:∀(u:Ps) (c:Prop) [Decidable c] (z:Int×Int) (a:Ps×Int×Int),a.1.err≠0->u.err=a.1.err->u.wh=a.1.wh->XE G deep a ((if c then u.next.ak G b 2 else u.next),z):=by
  intro u c _ z a h1 g j;refine .inr ⟨h1,?_⟩;split
  ·have e:u.next.ak G b 2=u.next:=by unfold Ps.ak;rw[Zaa (by simp_all)]
   show(u.next.ak G b 2).err=_/\(u.next.ak G b 2).wh=_
   rw[e];exact⟨g,j⟩
  ·exact⟨g,j⟩
 have f:∀(x:Ps),x.err=0->(x.ak G b 4).err≠0:=λx l=>by grind [bF]
 have e2:∀(x y:Ps),x.err=0->y.err=0->(y.ak G b 4).err=(x.ak G b 4).err/\(y.ak G b 4).wh=(x.ak G b 4).wh:=λx y l p=>by grind [bF]
 unfold nF jG;simp only;rw[fB h.i];by_cases c1:ok=false
 ·rw[Zac c1];have ht:(if ok=false\/aQ G s 125=false\/en=false/\ie n m=true then t.ak G b 4 else t)=t.ak G b 4:=Zac (.inl c1);rw[ht];exact key _ _ _ _ (f s h.e) (e2 s t h.e h.e2).1 (e2 s t h.e h.e2).2
 rw[Zaa c1];by_cases c2:aQ G s 125=false
 ·rw[Zac c2];have ht:(if ok=false\/aQ G s 125=false\/en=false/\ie n m=true then t.ak G b 4 else t)=t.ak G b 4:=Zac (.inr (.inl c2));rw[ht];exact key _ _ _ _ (f s h.e) (e2 s t h.e h.e2).1 (e2 s t h.e h.e2).2
 rw[Zaa c2];have d:=h.next (gx (by simpa using c2));by_cases c3:en=false/\ie n m
 ·rw[Zac c3];have ht:(if ok=false\/aQ G s 125=false\/en=false/\ie n m=true then t.ak G b 4 else t)=t.ak G b 4:=Zac (.inr (.inr c3));rw[ht];exact key _ _ _ _ (f s.next d.e) (e2 s.next t d.e h.e2).1 (e2 s.next t d.e h.e2).2
 have ht:(if ok=false\/aQ G s 125=false\/en=false/\ie n m=true then t.ak G b 4 else t)=t:=Zaa (by grind);rw[Zaa c3,ht];have o:eE []=(0,true):=by decide
 cases en
 ·simp only[ZaE,Za0];by_cases c4:(eE m).2=false\/(eE n).2=false
  ·rw[Zac c4,Zac c4,bF d.e,bF d.e2];exact .inr ⟨by simp,rfl,rfl⟩
  ·rw[Zaa c4,Zaa c4];exact .inl ⟨d,rfl⟩
 ·simp only[Zbv];by_cases c4:(eE m).2=false
  ·rw[Zac (.inl c4),Zac (.inl c4),bF d.e,bF d.e2];exact .inr ⟨by simp,rfl,rfl⟩
  ·rw[Zaa (by grind),Zaa (by grind)];exact .inl ⟨d,rfl⟩
theorem GR (h:t.i=s.i):gI G t=gI G s/\gv G t=gv G s/\(dh G t).i=(dh G s).i:=by
 grind [gI,gv,dh]
def At.Qhq (h:At G deep s t):At G deep (dh G s) (dh G t):=by
 have hle:=jF (G:=G) (G.length-s.i) s.i [];have:=h.le;refine⟨h.e,h.e2,(GR h.i).2.2,h.g,h.o,?_⟩;show(b6 G (G.length-s.i) s.i []).1<=_
 omega
theorem GS:∀(n i:Nat) (b:List UInt8),(b6 G n i b).1=i->(b6 G n i b).2=b
 | 0,i,b,h=>rfl
 | n+1,i,b,h=>by
  grind [b6,jF]
theorem ME (h:gv G x=false):gI G x=[]:=by
 grind [gv,gI,GS,jF]
theorem MF (h:At G deep s t) (hl:s.i<G.length):XE G deep (f_ G s) (ej G t):=by
 have d:=h.next hl;have⟨e,f,l⟩:=GR (G:=G) d.i;have b:=d.Qhq;unfold f_ ej;simp only;rw[e,f,fB b.i,h.i];by_cases a:gv G s.next/\aQ G (dh G s.next) 44
 ·rw[Zac a,Zac a];have c:=b.next (gx a.2);have⟨g,j,m⟩:=GR (G:=G) c.i;rw[g,j];exact xh c.Qhq _ _ _ _ _ λk=>ME (by grind)
 ·grind [xh]
variable {alt mN:Ps->Ps×List Nd}
variable {x:Ps} {Z:Nat} {a:List (List Nd)} {b:List Nd}
def GU (G:List Gt) (deep:Nat) (alt a:Ps->Ps×List Nd):Prop:=∀s t,At G deep s t->s.ae<=4->Rel G deep (alt s) (a t)
def xi (d:Nat) {a b:Ps×List Nd} (c:Nat) (h:Rel G (d+1) a b):
  let f:Ps:={ a.1 with opens:=a.1.opens-1 }
  (f.err=0/\aQ G f 41=false->(f.ak G c 4).err≠0/\(ff G b.1 c).err=(f.ak G c 4).err/\(ff G b.1 c).wh=(f.ak G c 4).wh)/\
   (¬(f.err=0/\aQ G f 41=false)->(At G d f.next (ff G b.1 c)/\f.err=0/\b.2=a.2)\/(f.err≠0/\(ff G b.1 c).err=f.err/\(ff G b.1 c).wh=f.wh)):=by
 simp only;unfold ff;rcases h with⟨h,s⟩ | ⟨p,n,q⟩
 ·have j:At G d { a.1 with opens:=a.1.opens-1 } b.1:=⟨h.e,h.e2,h.i,h.g,by show a.1.opens-1=d;rw[h.o];omega,h.le⟩;refine⟨λm=>?_,λm=>?_⟩
  ·rw[Zac ⟨h.e2,(fB j.i 41).trans m.2⟩,bF j.e,bF h.e2];exact⟨by simp,rfl,rfl⟩
  ·have l:aQ G { a.1 with opens:=a.1.opens-1 } 41:=by
    cases r:aQ G { a.1 with opens:=a.1.opens-1 } 41
    ·exact absurd ⟨j.e,r⟩ m
    ·rfl
   rw[Zaa (by rw[(fB j.i 41).trans l];simp)];exact .inl ⟨j.next (gx l),j.e,s⟩
 ·refine⟨λm=>absurd m.1 p,λ_=>?_⟩;rw[Zaa (λk=>p (n▸k.1))];exact .inr ⟨p,n,q⟩
theorem MG (A:GU G (deep+1) alt mN) (h:At G deep s t) (p:s.ae<=4) (hl:s.i<G.length):Rel G deep (iC G alt s) (jh G mN deep t.next s.i):=by
 have a:=h.next hl;unfold iC jh;simp only;rw[fB a.i];cases m:aQ G s.next 63
 ·simp only[ZaE,Za0,false_and];by_cases c1:20<=s.next.opens
  ·rw[Zac c1,Zac (by have:=a.o;omega)];exact fM a.e a.e2 (by decide)
  rw[Zaa c1,Zaa (show ¬20<=deep by have:=a.o;omega)];by_cases c2:4<=s.next.ae
  ·rw[Zac (⟨trivial,c2⟩),Zac (by rw[a.g];exact c2)];exact fM a.e a.e2 (by decide)
  rw[Zaa (λk=>c2 k.2),Zaa (show ¬4<=t.next.ae by rw[a.g];exact c2)];have q:((t.next.ae+1:Nat):Int)=((s.next.ae+1:Nat):Int):=by rw[a.g]
  have⟨k1,k2⟩:=xi deep s.i (A { { s.next with ae:=s.next.ae+1 } with opens:=s.next.opens+1 } { t.next with ae:=t.next.ae+1 } ⟨a.e,a.e2,a.i,by show t.next.ae+1=s.next.ae+1;rw[a.g],by show s.next.opens+1=deep+1;rw[a.o],a.le⟩ (by grind));split
  ·rename_i j
   have⟨b,c,d⟩:=k1 j;exact .inr ⟨b,c,d⟩
  ·rename_i j
   rcases k2 j with⟨b,c,d⟩ | ⟨b,c,d⟩
   ·rw[Zac c];refine .inl ⟨b,?_⟩;grind
   ·rw[Zaa b];exact .inr ⟨b,c,d⟩
 ·simp only[Zbv,Zal];have n:=a.next (gx m);rw[fB n.i];by_cases c0:aQ G s.next.next 58=false
  ·rw[Zac c0,Zac c0];exact fM n.e a.e2 (by decide)
  rw[Zaa c0,Zaa c0];have l:aQ G s.next.next 58:=by grind
  have f:=n.next (gx l);by_cases c1:20<=s.next.next.next.opens
  ·rw[Zac c1,Zac (by have:=f.o;omega)];exact fM f.e a.e2 (by decide)
  rw[Zaa c1,Zaa (show ¬20<=deep by have:=f.o;omega),Zaa (by simp)];have⟨k1,k2⟩:=xi deep s.i (A { s.next.next.next with opens:=s.next.next.next.opens+1 } t.next.next.next ⟨f.e,f.e2,f.i,f.g,by show s.next.next.next.opens+1=deep+1;rw[f.o],f.le⟩ p);split
  ·rename_i j
   have⟨b,c,d⟩:=k1 j;exact .inr ⟨b,c,d⟩
  ·rename_i j
   rcases k2 j with⟨b,c,d⟩ | ⟨b,c,d⟩
   ·rw[Zac c];exact .inl ⟨b,d⟩
   ·rw[Zaa b];exact .inr ⟨b,c,d⟩
theorem Qo (F:Fx G) (A:GU G (deep+1) alt mN) (h:At G deep s t) (k:s.ae<=4) (hl:s.i<G.length):Rel G deep (iZ G alt s) (fG G mN deep t):=by
 have a:=h.next hl;have g:=F.one s.i hl;unfold iZ fG;simp only;rw[h.i];by_cases b:eD G s.i
 ·rw[Zac b,Zac b];exact fM h.e a.e2 (by decide)
 rw[Zaa b,Zaa b];generalize aD G s.i=r at g ⊢;by_cases c1:r=40
 ·grind [MG]
 rw[Zaa c1,Zaa c1];by_cases c2:r=91
 ·grind [XD]
 rw[Zaa c2,Zaa c2];by_cases c3:r=46
 ·subst c3;rw[ Zac rfl];exact .inl ⟨a,rfl⟩
 rw[Zaa c3,Zaa c3];by_cases c4:r=94
 ·subst c4;rw[ Zac rfl];exact .inl ⟨a,rfl⟩
 rw[Zaa c4,Zaa c4];by_cases c5:r=36
 ·subst c5;rw[ Zac rfl];exact .inl ⟨a,rfl⟩
 rw[Zaa c5,Zaa c5];by_cases c6:r=92
 ·rw[Zac c6,Zac c6];have⟨hs,_⟩:=D0 F h hl;rcases hs with⟨j,f⟩ | ⟨f,c,d⟩
  ·refine .inl ⟨j,?_⟩;grind
  ·exact .inr ⟨f,c,d⟩
 rw[Zaa c6,Zaa c6];by_cases c7:r=42\/r=43\/r=63\/r=41\/r=93\/r=123\/r=125\/r=124
 ·rw[Zac c7,Zac ω];exact fM h.e a.e2 (by decide)
 ·rw[Zaa c7,Zaa ω,g];exact .inl ⟨a,rfl⟩
theorem se {a b:Ps×Int×Int} (h:XE G deep a b) (x:List Nd):Rel G deep (nG G a.1 a.2.1 a.2.2 x) (jH G b.1 b.2.1 b.2.2 x):=by
 unfold nG jH;rcases h with⟨h,g⟩ | ⟨f,c,d⟩
 ·rw[Zaa (by rw[h.e];simp),g,fB h.i];exact .inl ⟨h.skip 63,rfl⟩
 ·rw[Zac f];refine .inr ⟨f,?_⟩;unfold aY;split<;>exact⟨c,d⟩
theorem XF (F:Fx G) (A:GU G (deep+1) alt mN) (h:At G deep s t) (p:s.ae<=4) (hl:s.i<G.length):Rel G deep (ft G alt s) (sd G mN deep t):=by
 have n:=Qo F A h p hl;unfold ft sd;simp only;generalize iZ G alt s=a at n ⊢;generalize fG G mN deep t=b at n ⊢;have⟨d,a2⟩:=a;have⟨b1,l⟩:=b;rcases n with⟨c,f⟩ | ⟨f,g,j⟩
 ·simp only at c f ⊢;subst f;rw[Zaa (by rw[c.e];simp)];by_cases hle:G.length<=b1.i
  ·rw[Zac (show b1.err≠0\/G.length<=b1.i from .inr hle)];have k:∀r,aQ G d r=false:=λr=>by
    cases q:aQ G d r
    ·rfl
    ·have:=gx q;have:=c.i;omega
   rw[k,k,k,k];simp only[ZaE];exact .inl ⟨c,rfl⟩
  ·rw[Zaa (show ¬(b1.err≠0\/G.length<=b1.i) by rw[c.e2];simp;omega)];have o:d.i<G.length:=by have:=c.i;omega
   have m:=c.next o;rw[fB c.i,fB c.i,fB c.i,fB c.i];by_cases c1:aQ G d 42
   ·rw[Zac c1,Zac c1];exact se (a:=(d.next,0,-1)) (b:=(b1.next,0,-1)) (.inl ⟨m,rfl⟩) l
   rw[Zaa c1,Zaa c1];by_cases c2:aQ G d 43
   ·rw[Zac c2,Zac c2];exact se (a:=(d.next,1,-1)) (b:=(b1.next,1,-1)) (.inl ⟨m,rfl⟩) l
   rw[Zaa c2,Zaa c2];by_cases c3:aQ G d 63
   ·rw[Zac c3,Zac c3];exact se (a:=(d.next,0,1)) (b:=(b1.next,0,1)) (.inl ⟨m,rfl⟩) l
   rw[Zaa c3,Zaa c3];by_cases c4:aQ G d 123
   ·grind [se,MF]
   rw[Zaa c4,Zaa c4];exact .inl ⟨c,rfl⟩
 ·simp only at f g j ⊢;rw[Zac f,Zac (.inl ω)];exact .inr ⟨f,g,j⟩
def GV {α:Type} (G:List Gt) (deep:Nat) (a b:Ps×α):Prop:=Rel G deep a b\/(deep=0/\a.1.err=4/\a.1.wh=place G b.1.i/\b.1.err=0/\aQ G b.1 41)
theorem Aj (h:x.err≠0):eI G alt Z x a=(x,a):=by
 cases Z with
 | zero=>rfl
 | succ Z=>rw[eI,Zaa (λk=>h k.1)]
theorem GW (h:x.err≠0):ea G mN deep Z x a=(x,a):=by
 cases Z with
 | zero=>rfl
 | succ Z=>rw[ea,Zaa (λk=>h k.1)]
theorem pR (h:x.err≠0):ga G alt Z x a=(x,a):=by
 cases Z with
 | zero=>rfl
 | succ Z=>rw[ga,Zaa (λk=>h k.1)]
theorem lN (h:x.err≠0\/aQ G x 124=false):dJ G mN deep Z x a=(x,a):=by
 cases Z with
 | zero=>rfl
 | succ Z=>rw[dJ,Zaa (by grind)]
theorem Ak (F:Fx G) (A:GU G (deep+1) alt mN) (O:mK G alt):∀(n:Nat) (s t:Ps) (j:List (List Nd)),At G deep s t->s.ae<=4->GV G deep (eI G alt n s j) (ea G mN deep n t j)
 | 0,s,t,j,h,m=>.inl (.inl ⟨h,rfl⟩)
 | n+1,s,t,j,h,m=>by
  unfold eI ea;rw[fB h.i,fB h.i,h.i];by_cases c1:s.i<G.length/\aQ G s 124=false
  ·by_cases c2:aQ G s 41
   ·rw[Zaa (λk:t.err=0/\_=>by grind)];by_cases c3:0<s.opens
    ·rw[Zaa (λk=>k.2.2.2 ⟨c2,c3⟩)];exact .inl (.inl ⟨h,rfl⟩)
    ·rw[Zac ⟨h.e,c1.1,c1.2,λk=>c3 k.2⟩];have v:aD G s.i=41:=by grind [pQ]
     have u:iZ G alt s=(s.ak G s.i 4,[]):=by
      grind [iZ]
     have er:ft G alt s=(s.ak G s.i 4,[]):=by
      unfold ft;simp only[u];rw[Zac (by rw[bF h.e];simp)]
     rw[er];simp only;rw[Aj (by rw[bF h.e];simp)];refine .inr ⟨by have:=h.o;omega,by rw[bF h.e],by rw[bF h.e];show _=place G t.i;rw[h.i],h.e2,(fB h.i 41).trans c2⟩
   ·have l:aQ G s 41=false:=by grind
    rw[Zac ⟨h.e,c1.1,c1.2,λk=>c2 k.1⟩,Zac ⟨h.e2,c1.1,c1.2,l⟩];have p:=XF F A h m c1.1;have c:=(xf O c1.1 m).1.gm;generalize ft G alt s=a at p c ⊢;generalize sd G mN deep t=b at p ⊢;have⟨r,a2⟩:=a;have⟨b1,w⟩:=b;rcases p with⟨q,d⟩ | ⟨d,f,g⟩
    ·simp only at q d c ⊢;subst d;exact Ak F A O n r b1 _ q c
    ·simp only at d f g ⊢;rw[Aj d,GW ω];exact .inl (.inr ⟨d,f,g⟩)
  ·rw[Zaa (λk=>c1 ⟨k.2.1,k.2.2.1⟩),Zaa (λk=>c1 ⟨k.2.1,k.2.2.1⟩)];exact .inl (.inl ⟨h,rfl⟩)
theorem D2 {α β:Type} {a b:Ps×α} (f:α->β) (h:GV G deep a b):GV G deep (a.1,f a.2) (b.1,f b.2):=by
 rcases h with(⟨h,c⟩ | h) | h
 ·exact .inl (.inl ⟨h,by grind⟩)
 ·exact .inl (.inr h)
 ·exact .inr h
def Kl (F:Fx G) (A:GU G (deep+1) alt mN) (O:mK G alt) (h:At G deep s t) (a:s.ae<=4):GV G deep (mJ G alt s) (oy G mN deep t):=by
 unfold oy;simp only;rw[h.i];exact D2 (bK 3) (Ak F A O _ s t [] h a)
theorem Al (F:Fx G) (A:GU G (deep+1) alt mN) (O:mK G alt):∀(n:Nat) (s t:Ps) (l:List (List Nd)),At G deep s t->s.ae<=4->GV G deep (ga G alt n s l) (dJ G mN deep n t l)
 | 0,s,t,l,h,m=>.inl (.inl ⟨h,rfl⟩)
 | n+1,s,t,l,h,m=>by
  unfold ga dJ;rw[fB h.i];by_cases c1:aQ G s 124
  ·rw[Zac ⟨h.e,c1⟩,Zac ⟨h.e2,c1⟩];have q:=h.next (gx c1);have o:=Kl F A O q m;have g:=(mM O (s:=s.next) q.le m).1.gm;generalize mJ G alt s.next=a at o g ⊢;generalize oy G mN deep t.next=b at o ⊢;have⟨r,a2⟩:=a;have⟨b1,u⟩:=b;rcases o with(⟨p,f⟩ | ⟨f,c,d⟩) | ⟨hd,f,c,d,he3⟩
   ·simp only at p f g ⊢;subst f;exact Al F A O n r b1 _ p g
   ·simp only at f c d ⊢;rw[pR f,lN (.inl ω)];exact .inl (.inr ⟨f,c,d⟩)
   ·simp only at f c d he3 ⊢;have j:aQ G b1 124=false:=by
     grind [gx,pQ]
    rw[pR ω,lN (.inr j)];exact .inr ⟨hd,f,c,d,he3⟩
  ·rw[Zaa (λk=>c1 k.2),Zaa (λk=>c1 k.2)];exact .inl (.inl ⟨h,rfl⟩)
theorem Qp (F:Fx G) (A:GU G (deep+1) alt mN) (O:mK G alt) (h:At G deep s t) (l:s.ae<=4):GV G deep (DY G alt s) (uk G mN deep t):=by
 have k:=Kl F A O h l;have f:=(mM O (s:=s) h.le l).1.gm;unfold DY uk;simp only;generalize mJ G alt s=a at k f ⊢;generalize oy G mN deep t=b at k ⊢;have⟨m,a2⟩:=a;have⟨b1,n⟩:=b;rcases k with(⟨j,e⟩ | ⟨e,c,d⟩) | ⟨hd,e,c,d,he3⟩
 ·simp only at j e f ⊢;subst e;rw[j.i];exact D2 (bK 4) (Al F A O _ m b1 [n] j f)
 ·simp only at e c d ⊢;rw[pR e,lN (.inl ω)];exact .inl (.inr ⟨e,c,d⟩)
 ·simp only at e c d he3 ⊢;have g:aQ G b1 124=false:=by
   grind [gx,pQ]
  rw[pR ω,lN (.inr g)];exact .inr ⟨hd,e,c,d,he3⟩
theorem Km (F:Fx G):∀(n deep:Nat) (s t:Ps),At G deep s t->s.ae<=4->GV G deep (qP G n s) (y5 G n deep t)
 | 0,deep,s,t,h,a=>.inl (.inl ⟨h,rfl⟩)
 | n+1,deep,s,t,h,a=>by
  refine Qp F (λs t h a=>?_) (vD n) h a;rcases Km F n (deep+1) s t h a with h1 | h1
  all_goals grind
def fin (G:List Gt) (a:Ps×List Nd):List Nd×Int×Int:=
 let s:=if a.1.err=0/\a.1.i<G.length then a.1.ak G a.1.i 4 else a.1
 if s.err≠0 then([],s.err,s.wh) else(a.2,0,0)
theorem xj (a:x.err=0) (hi:x.i<G.length):fin G (x,b)=([],4,place G x.i):=by grind [fin,Ps.ak]
theorem Qq (a:x.err=0) (hi:¬x.i<G.length):fin G (x,b)=(b,0,0):=by grind [fin]
theorem Kn (a:x.err≠0):fin G (x,b)=([],x.err,x.wh):=by simp[fin,a]
theorem MH (F:Fx G):GQ G=xc G:=by
 have h:=Km F 21 0 MC MC ⟨rfl,rfl,rfl,rfl,rfl,Zaj _⟩ (by decide);show fin G (y5 G 21 0 MC)=fin G (qP G 21 MC)
 generalize qP G 21 MC=a at h ⊢;generalize y5 G 21 0 MC=b at h ⊢;have⟨k,a2⟩:=a;have⟨b1,l⟩:=b;rcases h with(⟨d,f⟩ | ⟨f,g,j⟩) | ⟨hd,f,g,j,he3⟩
 ·simp only at d f;subst f;by_cases c:k.i<G.length
  ·rw[xj d.e2 (by rw[d.i];exact c),xj d.e c,d.i]
  ·rw[Qq d.e2 (by rw[d.i];exact c),Qq d.e c]
 ·grind [Kn]
 ·grind [xj,gx,Kn]
end
end syn
end Go.Proofs.YtadfknojfbmjgaaGreat
