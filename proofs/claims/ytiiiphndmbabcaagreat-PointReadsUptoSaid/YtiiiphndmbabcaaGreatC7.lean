/- PointReads: a part of the proof. -/
import Derived.Test.YtiiiphndmbabcaaGreatC4
import Derived.Test.YtiiiphndmbabcaaGreatC6
import Derived.Test.YtiiiphndmbabcaaGreatC5
set_option linter.all false
namespace Go.Proofs.YtiiiphndmbabcaaGreat
open Go.Proofs.Tryz
namespace syn
open Go Go.RowKit cls
structure RB (G:List Gt) (k:Nat) (s t:Ps):Prop where
 le:s.i<=t.i
 len:t.i<=G.length+k
 op:t.ak=s.ak
 gr:s.ab<=t.ab
 gm:t.ab<=4
section
variable {G:List Gt} {k:Nat} {s t u:Ps}
theorem RB.refl (h:s.i<=G.length+k) (g:s.ab<=4):RB G k s s:=⟨Zah _,h,rfl,Zah _,g⟩
def RB.trans {j:Nat} (h:RB G j s t) (a:RB G k t u):RB G k s u:=⟨Zav h.le a.le,a.len,a.op.trans h.op,Zav h.gr a.gr,a.gm⟩
def RB.mono {j:Nat} (h:RB G j s t) (a:j<=k):RB G k s t:=⟨h.le,by have:=h.len;omega,h.op,h.gr,h.gm⟩
theorem RB.ax (h:RB G k s t) (f:Nat) (e:Int):RB G k s (t.ax G f e):=⟨by simpa using h.le,by simpa using h.len,by simpa using h.op,by simpa using h.gr,by simpa using h.gm⟩
theorem RB.next (h:RB G k s t):RB G (k+1) s t.next:=⟨by have:=h.le;simp;omega,by have:=h.len;simp;omega,h.op,h.gr,h.gm⟩
def RB.pz (h:RB G k s t) (hl:t.i<G.length):RB G 0 s t.next:=⟨by have:=h.le;simp;omega,by simp;omega,h.op,h.gr,h.gm⟩
def RB.skip (h:RB G k s t) (r:Int):RB G k s (bp G t r):=by
 unfold bp;split
 ·rename_i a;exact(h.pz (da a)).mono (Zaj _)
 ·exact h
def wa (h:RB G k s t):RB G k s (dv G t):=by
 have:=jE (G:=G) (G.length-t.i) t.i [];have h1:=h.le;have a:=h.len;exact⟨by show _<=(ct G _ _ []).1;omega,by show(ct G (G.length-t.i) t.i []).1<=_;omega,h.op,h.gr,h.gm⟩
theorem Ua (h:RB G k s t) (f:Nat):RB G k s (sf G t f).1/\t.i<=(sf G t f).1.i/\(sf G t f).2.length<=8:=by
 have m1:(aU [(9,10),(13,13),(32,32)]).length<=6:=qd _;have m2:(aU [(48,57),(65,90),(95,95),(97,122)]).length<=8:=qd _;unfold sf;by_cases h1:G.length<=t.i
 ·rw[Zac h1];exact⟨h.ax _ _,by simp,by simp⟩
 ·rw[Zaa h1];have n:=(h.pz ω).mono (k:=k) (Zaj _);dsimp only
  repeat' split
  all_goals first
   | exact⟨h.ax _ _,by simp,by simp⟩
   | exact⟨n.ax _ _,by simp,by simp⟩
   | exact⟨n,by simp,Zav m1 (by decide)⟩
   | exact⟨n,by simp,m2⟩
   | exact⟨n,by simp,by simp⟩
theorem wb (h:RB G k s t) (hl:t.i<G.length):RB G 0 s (fk G t).1/\t.i<(fk G t).1.i/\(fk G t).2.length<=8:=by
 have n:=h.pz hl;unfold fk;dsimp only
 repeat' split
 ·exact⟨n.ax _ _,by simp,by simp⟩
 ·obtain⟨a,b,c⟩:=Ua n t.i;exact⟨a,by assumption,c⟩
 ·exact⟨n.ax _ _,by simp,by simp⟩
 ·simp_all
theorem ZR (h:RB G k s t) (hk:t.i<=G.length) (f:Nat) (a l:List Rg) (g:a.length<=8):RB G 0 s (kL G t f a l).1/\t.i<=(kL G t f a l).1.i/\(kL G t f a l).2.1.length<=l.length+8:=by
 have h0:RB G 0 s t:=⟨h.le,ω,h.op,h.gr,h.gm⟩;unfold kL;by_cases h1:t.an≠0\/bb G t 45=false
 ·grind
 ·rw[Zaa h1];have c:bb G t 45:=by
   grind
  have n:=h.pz (da c);dsimp only;split
  ·exact⟨n.ax _ _,by simp,by simp⟩
  ·rename_i e
   obtain⟨b1,b,d⟩:=wb n (show t.next.i<G.length by omega);simp only[jg] at b;split
   ·exact⟨b1.ax _ _,by simp;omega,by simp⟩
   ·grind
theorem sG:∀(n:Nat) (t:Ps) (l:List Rg) (b:Bool),RB G 0 s t->RB G 0 s (dI G n t l b).1/\t.i<=(dI G n t l b).1.i/\(dI G n t l b).2.1.length<=l.length+8*((dI G n t l b).1.i-t.i)
 | 0,t,l,b,h=>⟨h,Zah _,by simp[dI]⟩
 | n+1,t,l,b,h=>by
  unfold dI;split
  ·rename_i c
   obtain⟨a,a2,a3⟩:=wb h c.2.1;obtain⟨m1,m2,m3⟩:=ZR a (by have:=a.len;omega) t.i (fk G t).2 l a3;dsimp only;split
   ·grind
   ·have:=sG n _ (kL G (fk G t).1 t.i (fk G t).2 l).2.1 true m1;grind
  ·grind
def Qe6 (h:RB G k s t) (hk:t.i<=G.length) (f:Nat):RB G 1 s (zy G t f).1/\t.i<(zy G t f).1.i:=by
 have h0:RB G 0 s t:=⟨h.le,ω,h.op,h.gr,h.gm⟩;have h1:=h0.skip 94;have a:t.i<=(bp G t 94).i:=by unfold bp;split<;>simp
 obtain⟨c1,c2,_⟩:=sG (G.length+2-(bp G t 94).i) _ [] false h1;unfold zy;dsimp only;split
 ·exact⟨(c1.ax f 4).next,by simp;omega⟩
 ·exact⟨c1.next,by simp;omega⟩
theorem A4 (h:RB G k s t) (hl:t.i<G.length):RB G 1 s (ey G t).1/\t.i<(ey G t).1.i:=by
 have n:=wa (h.pz hl);have g:t.i<(dv G t.next).i:=by
  have:=jE (G:=G) (G.length-t.next.i) t.next.i [];show _<(ct G (G.length-t.next.i) t.next.i []).1
  grind [jg]
 have key:∀(u:Ps) (f:Nat) (m n:List UInt8) (ok op:Bool),RB G 0 s u->t.i<u.i->RB G 1 s (jF G f u m n ok op).1/\t.i<(jF G f u m n ok op).1.i:=λu f m n ok op hu hi=>by
  unfold jF;dsimp only;have w:∀c:Bool,RB G 0 s (if c then u.ax G f 4 else u)/\t.i<(if c then u.ax G f 4 else u).i:=λc=>by
   cases c
   ·grind
   ·exact⟨hu.ax _ _,by simp_all⟩
  obtain⟨a,d⟩:=w (decide (ok=false\/bb G u 125=false\/(op=false/\iy n m)));simp only[ZaP] at a d;generalize (if ok=false\/bb G u 125=false\/(op=false/\iy n m) then u.ax G f 4 else u)=v at*
  have e:∀(c:Prop) [Decidable c],RB G 1 s (if c then v.next.ax G f 2 else v.next)/\t.i<(if c then v.next.ax G f 2 else v.next).i:=λc _=>by
   split
   ·exact⟨a.next.ax _ _,by simp;omega⟩
   ·exact⟨a.next,by simp;omega⟩
  exact e _
 unfold ey;dsimp only;split
 ·rename_i b
  have m:=wa (n.pz (da b.2));grind [jE,dv,jg]
 ·grind
def A5 (h:RB G k s t) (f:Nat):RB G (k+1) s (fe G t f)/\(fe G t f).i=t.i+1:=by
 unfold fe;split
 ·exact⟨(h.ax f 4).next,by simp⟩
 ·exact⟨h.next,by simp⟩
def vj (G:List Gt) (k:Nat) (aH:Ps->Ps×List Nd):Prop:=∀s,s.i<=G.length->s.ab<=4->RB G k s (aH s).1/\(aH s).2.length<=3*((aH s).1.i-s.i)+1
variable {aH:Ps->Ps×List Nd}
theorem NV (A:vj G k aH) (deep:Nat) (hl:t.i<=G.length) (e:t.ab<=4) (f:Nat):RB G (k+1) t (jh G aH deep t f).1/\(jh G aH deep t f).2.length<=3*((jh G aH deep t f).1.i-t.i)+3:=by
 have r:RB G (k+1) t t:=RB.refl ω e;unfold jh;dsimp only;by_cases h1:bb G t 63/\bb G t.next 58=false
 ·rw[Zac h1];exact⟨r.ax _ _,by simp⟩
 ·rw[Zaa h1];by_cases c:20<=deep
  ·rw[Zac c];exact⟨r.ax _ _,by simp⟩
  ·rw[Zaa c];by_cases d:bb G t 63
   ·rw[Zac d];have b:bb G t.next 58:=by
     grind
    have g:=da b;simp only[jg] at g;obtain⟨a,a2⟩:=A t.next.next (by simp;omega) e;obtain⟨c1,c2⟩:=A5 a f;have a3:=a.le;simp only[jg] at a2 a3;refine⟨⟨?_,c1.len,c1.op,c1.gr,c1.gm⟩,?_⟩
    ·grind
    ·grind
   ·rw[Zaa d];by_cases b:4<=t.ab
    ·rw[Zac b];exact⟨r.ax _ _,by simp⟩
    ·rw[Zaa b];obtain⟨a,a2⟩:=A { t with ab:=t.ab+1 } hl (by grind);obtain⟨c1,c2⟩:=A5 a f;have a3:t.i<=(aH { t with ab:=t.ab+1 }).1.i:=a.le;have a4:(aH { t with ab:=t.ab+1 }).2.length<=3*((aH { t with ab:=t.ab+1 }).1.i-t.i)+1:=a2;have a5:t.ab+1<=(aH { t with ab:=t.ab+1 }).1.ab:=a.gr;have c3:=c1.gr;simp only at c3;refine⟨⟨?_,c1.len,c1.op,?_,c1.gm⟩,?_⟩
     ·grind
     ·grind
     ·grind
theorem EK (A:vj G k aH) (deep:Nat) (hl:t.i<G.length) (d:t.ab<=4):RB G (k+1) t (ga G aH deep t).1/\t.i<(ga G aH deep t).1.i/\(ga G aH deep t).2.length<=3*((ga G aH deep t).1.i-t.i):=by
 have r:RB G 0 t t:=RB.refl ω d;have n:=r.pz hl;have e:=n.mono (k:=k+1) (Zaj _);unfold ga;dsimp only
 repeat' split
 ·exact⟨e.ax _ _,by simp,by simp⟩
 ·obtain⟨a,b⟩:=NV A deep (t:=t.next) (by simp;omega) d t.i;have c:=a.le;simp only[jg] at b c;exact⟨⟨ω,a.len,a.op,a.gr,a.gm⟩,ω,ω⟩
 ·obtain⟨a,b⟩:=Qe6 n (by simp;omega) t.i;simp only[jg] at b;exact⟨a.mono ω,by grind,by grind⟩
 ·simp_all
 ·simp_all
 ·simp_all
 ·grind [Ua,jg]
 ·exact⟨e.ax _ _,by simp,by simp⟩
 ·simp_all
theorem Lc (A:vj G k aH) (deep:Nat) (hl:t.i<G.length) (f:t.ab<=4):RB G (k+1) t (si G aH deep t).1/\t.i<(si G aH deep t).1.i/\(si G aH deep t).2.length<=3*((si G aH deep t).1.i-t.i):=by
 obtain⟨a,b,c⟩:=EK A deep hl f;have key:∀(u:Ps) (mn mx:Int),RB G (k+1) t u->(ga G aH deep t).1.i<u.i->RB G (k+1) t (jG G u mn mx (ga G aH deep t).2).1/\t.i<(jG G u mn mx (ga G aH deep t).2).1.i/\(jG G u mn mx (ga G aH deep t).2).2.length<=3*((jG G u mn mx (ga G aH deep t).2).1.i-t.i):=λu mn mx h1 d=>by
  have e:u.i<=(bp G u 63).i:=by unfold bp;split<;>simp
  unfold jG;exact⟨h1.skip 63,by grind,by grind⟩
 unfold si;dsimp only;by_cases h1:(ga G aH deep t).1.an≠0\/G.length<=(ga G aH deep t).1.i
 ·grind
 ·rw[Zaa h1];have d:(ga G aH deep t).1.i<G.length:=ω;have n:=(a.pz d).mono (k:=k+1) (Zaj _);have e:=A4 a d
  repeat' split
  ·exact key _ _ _ n (by simp)
  ·exact key _ _ _ n (by simp)
  ·exact key _ _ _ n (by simp)
  ·exact key _ _ _ (e.1.mono ω) e.2
  ·grind
theorem A6 (A:vj G k aH) (deep:Nat):∀(n:Nat) (t:Ps) (d:List (List Nd)),RB G (k+1) s t->total d<=3*(t.i-s.i)->RB G (k+1) s (ej G aH deep n t d).1/\total (ej G aH deep n t d).2<=3*((ej G aH deep n t d).1.i-s.i)
 | 0,t,d,h,e=>⟨h,e⟩
 | n+1,t,d,h,e=>by
  unfold ej;split
  ·rename_i f
   obtain⟨a,b,c⟩:=Lc A deep f.2.1 h.gm;refine A6 A deep n _ _ (h.trans a) ?_;rw[gy];have:=h.le;omega
  ·grind
def wc (A:vj G k aH) (deep:Nat) (hl:s.i<=G.length) (c:s.ab<=4):RB G (k+1) s (oG G aH deep s).1/\(oG G aH deep s).2.length<=3*((oG G aH deep s).1.i-s.i)+1:=by
 obtain⟨a,b⟩:=A6 A deep (G.length+2-s.i) s [] (RB.refl ω c) (by simp[total]);have:=xA 3 (ej G aH deep (G.length+2-s.i) s []).2;exact⟨a,by show(bW 3 _).length<=3*((ej G aH deep (G.length+2-s.i) s []).1.i-_)+1;omega⟩
theorem A7 (A:vj G k aH) (deep:Nat):∀(n:Nat) (t:Ps) (c:List (List Nd)),RB G (k+1) s t->0<c.length->total c+2*c.length<=3*(t.i-s.i)+3->RB G (k+1) s (dP G aH deep n t c).1/\0<(dP G aH deep n t c).2.length/\total (dP G aH deep n t c).2+2*(dP G aH deep n t c).2.length<=3*((dP G aH deep n t c).1.i-s.i)+3
 | 0,t,c,h,h0,d=>⟨h,h0,d⟩
 | n+1,t,c,h,h0,d=>by
  unfold dP;split
  ·rename_i f
   have hl:=da f.2;obtain⟨a,b⟩:=wc A deep (s:=t.next) (by simp;omega) h.gm;have e:=a.le;have h1:=h.le;simp only[jg] at e b;refine A7 A deep n _ _ ⟨ω,a.len,a.op.trans h.op,Zav h.gr a.gr,a.gm⟩ (by simp) ?_;grind [gy]
  ·grind
theorem Ub (A:vj G k aH) (deep:Nat) (hl:s.i<=G.length) (g:s.ab<=4):RB G (k+1) s (uA G aH deep s).1/\(uA G aH deep s).2.length<=3*((uA G aH deep s).1.i-s.i)+1:=by
 obtain⟨a,b⟩:=wc A deep hl g;have e:total [(oG G aH deep s).2]=(oG G aH deep s).2.length:=by simp[total]
 obtain⟨c,d,f⟩:=A7 A deep (G.length+2-(oG G aH deep s).1.i) _ [(oG G aH deep s).2] a (by simp) (by grind);have:=uz 4 _ d;exact⟨c,by show(bW 4 _).length<=3*((dP G aH deep _ _ _).1.i-_)+1;omega⟩
end
theorem Cz (G:List Gt):∀n deep,vj G n (Cj G n deep)
 | 0,_=>λs h g=>⟨RB.refl ω g,by simp[Cj]⟩
 | n+1,deep=>λs h g=>Ub (Cz G n (deep+1)) deep h g
end syn
set_option maxRecDepth 100000
set_option maxHeartbeats 4000000
namespace sx
noncomputable section
open Go Go.RowKit cls syn
def lk {α:Type} (a:α):α:=Classical.choose (⟨a,rfl⟩:∃b,b=a)
theorem aC {α:Type} (a:α):lk a=a:=ZcZ (⟨a,rfl⟩:∃b,b=a)
open Classical in
def ix (G:List Gt) (a:Int):Nat:=if h:∃i,i<=G.length/\aI G i=a then Classical.choose h else 0
def yu (G:List Gt) (a:Int):Prop:=∃i,i<=G.length/\a=aI G i
def tL (y:QS×Int):Ps×List Rg:=sf (gq y.1.1) (nn y.1.2) (ix (gq y.1.1) y.2)
def NW (y:QS×Int):Prop:=y.1.2.i<=y.1.1.1.length/\yu (gq y.1.1) y.2
def Ii:bh D:=yp 281 (QS×Int) (·.1) TO NW (λy=>[Qvo y.2]) (λy=>zz (tL y).1) λy=>.list 6 (tL y).2
def Uc (y:QS):Prop:=y.2.i<y.1.1.length
def zK (y:QS):Ps×List Rg:=fk (gq y.1) (nn y.2)
def Ud:bh D:=yp 301 QS (λy=>y) inQ Uc (λ_=>[]) (λy=>zz (zK y).1) λy=>.tuple [.list 6 (zK y).2,Qvo (aI (gq y.1) (nn y.2).i)]
def NX:bh D:=yp 300 (QS×Int) (·.1) TO (λy=>y.1.2.i<=90000/\yu (gq y.1.1) y.2) (λy=>[Qvo y.2]) (λy=>zz (fe (gq y.1.1) (nn y.1.2) (ix (gq y.1.1) y.2))) λ_=>.tuple []
def nT (y:QS):Ps×By×Bool:=
 lk (if gJ (gq y.1) (nn y.2).next/\bb (gq y.1) (dv (gq y.1) (nn y.2).next) 44=true then(dv (gq y.1) (dv (gq y.1) (nn y.2).next).next,gU (gq y.1) (dv (gq y.1) (nn y.2).next).next,!gJ (gq y.1) (dv (gq y.1) (nn y.2).next).next)
 else(dv (gq y.1) (nn y.2).next,gU (gq y.1) (nn y.2).next,false))
def gW (y:QS):Ps:=lk (if gJ (gq y.1) (nn y.2).next=false\/bb (gq y.1) (nT y).1 125=false\/((nT y).2.2=false/\iy (nT y).2.1 (gU (gq y.1) (nn y.2).next)) then(nT y).1.ax (gq y.1) (nn y.2).i 4 else(nT y).1)
def CA (y:QS):Int×Bool:=lk (if (nT y).2.2 then(-1,true) else eF (nT y).2.1)
def rz (y:QS):Ps×Int×Int:=lk (ey (gq y.1) (nn y.2))
def Ij:bh D:=yp 255 QS (λy=>y) inQ Uc (λ_=>[]) (λy=>zz (rz y).1) λy=>.tuple [Qvo (rz y).2.1,Qvo (rz y).2.2]
def Qp8 (y:Ij.Y):cH D:=⟨[],[],[],[
 (63,⟨Unit,[0,4,5,6],λ_=>[(7,.str (nT y).2.1),(8,.bool (nT y).2.2)],[],λ_=>qO y.1 (zz (nT y).1),1,λ_=>True,λ_=>0⟩),
 (127,⟨Unit,[0,4,5,7,8],λ_=>[],[],λ_=>qO y.1 (zz (gW y)),1,λ_=>True,λ_=>0⟩),
 (2047,⟨Unit,[0,4,11,12],λ_=>[(13,Qvo (CA y).1),(14,.bool (CA y).2)],[0],λ_=>[],1,λ_=>True,λ_=>0⟩)],1,[]⟩
def yv (y:QS×Int):Ps×List Rg:=lk (zy (gq y.1.1) (nn y.1.2) (ix (gq y.1.1) y.2))
def sH (y:QS×Int):Ps×List Rg×Bool:=lk (dI (gq y.1.1) ((gq y.1.1).length+2-(bp (gq y.1.1) (nn y.1.2) 94).i) (bp (gq y.1.1) (nn y.1.2) 94) [] false)
def oJ (y:QS×Int):Ps:=lk (if (sH y).1.an=0/\((sH y).2.2=false\/bb (gq y.1.1) (sH y).1 93=false) then(sH y).1.ax (gq y.1.1) (ix (gq y.1.1) y.2) 4 else(sH y).1)
def Ik (y:QS×Int) (x:b7×List Rg×Bool):Prop:=(0<=x.1.i/\x.1.i<=y.1.1.1.length)/\x.1.ak=0/\(0<=x.1.ab/\x.1.ab<=4)/\x.2.1.length<=20*(nn x.1).i/\∃n,y.1.1.1.length+2<=n+(nn x.1).i/\dI (gq y.1.1) n (nn x.1) x.2.1 x.2.2=sH y
def Il:bh D:=yp 279 (QS×Int) (·.1) TO NW (λy=>[Qvo y.2]) (λy=>zz (yv y).1) λy=>.list 6 (yv y).2
def Qqa (y:Il.Y):cH D:=⟨[],[],[(252,⟨b7×List Rg×Bool,[0,1,5],λx=>[(6,.grow 6 x.2.1 1),(7,.bool x.2.2)],[],λx=>qO y.1.1 x.1++[(1,.tok 6 350)],2,Ik y,λx=>y.1.1.1.length-(nn x.1).i⟩)],
  [(7,⟨Unit,[0,1],λ_=>[(5,.bool (bb (gq y.1.1) (nn y.1.2) 94))],[],λ_=>qO y.1.1 (zz (bp (gq y.1.1) (nn y.1.2) 94)),1,λ_=>True,λ_=>0⟩),
   (127,⟨Unit,[0,5,6],λ_=>[],[],λ_=>qO y.1.1 (zz (oJ y)),1,λ_=>True,λ_=>0⟩),
   (63,⟨Unit,[0,1,5],λ_=>[(6,.list 6 (sH y).2.1),(7,.bool (sH y).2.2)],[],λ_=>qO y.1.1 (zz (sH y).1),1,λ_=>True,λ_=>0⟩)],1,[]⟩
structure Dg where
 d:S2
 v:pq
variable {G:List Gt}
def scP (y:Dg):Prop:=0<=y.d.n/\y.d.n<=3/\Y4 y.v 900000000000
def Im (y:Dg):pq:=HH ⟨y.v.p,y.v.aI,y.v.L,⟨zrs y.v.p.af.length,Pg⟩⟩ (bdG (uoF (HG y.d)).n.toNat)
def Qe7 (y:Dg):List dd:=(EB (Im y) (Im y).L.length).2
def Ue (y:Dg):Prop:=scP y/\(HG y.d=[]\/ji (HG y.d))
theorem Uf {v:pq} {N:Int} (h:Y4 v N):Y4 ⟨v.p,v.aI,v.L,⟨zrs v.p.af.length,Pg⟩⟩ N:=by
 obtain⟨⟨⟨_,_,a⟩,b,c⟩,d,e,f⟩:=h;refine⟨⟨⟨by grind [zrs],λx g=>?_,a⟩,b,c⟩,d,e,f⟩;have:x=0:=Zdw (show x∈List.replicate (v.p.af.length:Int).toNat (0:Int) from g);omega
def Ug (y:(((List Int)×(List Int))×b7)×Int):Prop:=let d:=(tL y).1;let q1:=(tL y).2;let h:=((d.i:Nat):Int);let b:=y.1.1.1;let j:=aB y.1.2.an 0;let k:=ay .i64 y.1.2.i 1;let m:=aG (ag b) y.1.2.i;let c:=gt 0 b y.1.2.i.toNat;let g:=(b,y.1.1.2);let l:=aI (gq g) y.1.2.i.toNat;let e:=λp:Prop=>aa [b,y.1.1.2] p;let f:Prop:=(y.1.2.ab=((d.ab:Nat):Int)/\cy j 4 y.1.2.an=d.an/\cy j y.2 y.1.2.wh=d.wh/\True);let a:Prop:=(e (k=h/\y.1.2.ab=((d.ab:Nat):Int)/\y.1.2.an=d.an/\y.1.2.wh=d.wh/\True));aa [y.1.2.i] (aa [b] (aj m (Iv (fw (g,b7.mk y.1.2.i 0 y.1.2.ab y.1.2.an y.1.2.wh)/\True)/\aa ([4,y.2]:List Int) (aa [b,y.1.1.2] (aa [y.1.2.i,y.1.2.ab,y.1.2.an,y.1.2.wh] ([]=q1/\e (y.1.2.i=h/\f))))) (aG 0 y.1.2.i/\aw y.1.2.i (ag b)/\aa [b] (aa [y.1.2.i,c] (aj (aB c (-1)) (Iv (fw (g,b7.mk y.1.2.i 0 y.1.2.ab y.1.2.an y.1.2.wh)/\y.1.2.i<=(b.length:Int))/\aa [b,y.1.1.2] (aa [y.1.2.i,y.1.2.ab,y.1.2.an,y.1.2.wh] (Iv (fw (g,b7.mk y.1.2.i 0 y.1.2.ab y.1.2.an y.1.2.wh)/\True)/\aa ([4,l]:List Int) (aa [b,y.1.1.2] (aa [y.1.2.i,y.1.2.ab,y.1.2.an,y.1.2.wh] ([]=q1/\e (y.1.2.i=h/\y.1.2.ab=((d.ab:Nat):Int)/\cy j 4 y.1.2.an=d.an/\cy j l y.1.2.wh=d.wh/\True))))))) (aj (aB c 110) ([(10,10)]=q1/\a) (aj (aB c 116) ([(9,9)]=q1/\a) (aj (aB c 114) ([(13,13)]=q1/\a) (aj (aB c 100) ([(48,57)]=q1/\a) (aj (aB c 115) (Iv (3<=2000000)/\aa ([[(9,10),(13,13),(32,32)]]:List (List (Int×Int))) (aU [(9,10),(13,13),(32,32)]=q1/\a)) (aj (aB c 119) (Iv (4<=2000000)/\aa ([[(48,57),(65,90),(95,95),(97,122)]]:List (List (Int×Int))) (aU [(48,57),(65,90),(95,95),(97,122)]=q1/\a)) (Iv True/\aa [c] (aj (!(iw c)) (Iv (fw (g,b7.mk k 0 y.1.2.ab y.1.2.an y.1.2.wh)/\True)/\aa ([4,y.2]:List Int) (aa [b,y.1.1.2] (aa [k,y.1.2.ab,y.1.2.an,y.1.2.wh] ([]=q1/\e (k=h/\f))))) (([(c,c)]:List (Int×Int))=q1/\a))))))))))))))
def Uh (y:((List Int)×(List Int))×b7):Prop:=let k:=(zK y).2;let q1:=(zK y).1;let g:=y.2.i.toNat;let l:=((q1.ab:Nat):Int);let m:=((q1.i:Nat):Int);let h:=ay .i64 y.2.i 1;let b:=gt 0 y.1.1 g;let n:=(y.1.1,y.1.2);let c:=aI (gq n) g;let j:=(n,b7.mk h 0 y.2.ab y.2.an y.2.wh);let a:=(tL (j,c)).1;let f:=λp:Prop=>aa [y.1.1,y.1.2] p;let d:Prop:=(([(b,b)]:List (Int×Int))=k/\c=aI (gq y.1) g/\f (h=m/\y.2.ab=l/\y.2.an=q1.an/\y.2.wh=q1.wh/\True));let e:Prop:=(Iv (fw j/\True)/\aa ([4,c]:List Int) (aa [y.1.1,y.1.2] (aa [h,y.2.ab,y.2.an,y.2.wh] ([]=k/\c=aI (gq y.1) g/\f (h=m/\y.2.ab=l/\cy (aB y.2.an 0) 4 y.2.an=q1.an/\cy (aB y.2.an 0) c y.2.wh=q1.wh/\True)))));Iv (fw (n,b7.mk y.2.i 0 y.2.ab y.2.an y.2.wh)/\y.2.i<=(y.1.1.length:Int))/\aa [y.1.1,y.1.2] (aa [y.2.i,y.2.ab,y.2.an,y.2.wh] (aG 0 y.2.i/\aw y.2.i (ag y.1.1)/\aa [y.1.1] (aa [y.2.i,b] (aj (aB b 92) (Iv (fw j/\NW (j,c))/\aa [c] (aa [y.1.1,y.1.2] (aa [h,y.2.ab,y.2.an,y.2.wh] ((tL (j,c)).2=k/\c=aI (gq y.1) g/\f (((a.i:Nat):Int)=m/\((a.ab:Nat):Int)=l/\a.an=q1.an/\a.wh=q1.wh/\True))))) (aj (aB b 91) (aj (aB b 91) (e) (d)) (aj (aB b 45) (aj (aB b 45) (e) (d)) (aj (aB b (-1)) (e) (d))))))))
def Ui (y:(((List Int)×(List Int))×b7)×Int):Prop:=let b:=aB y.1.2.an 0;let q1:=bb (gq y.1.1) (nn y.1.2) 41;let c:=(y.1.1.1,y.1.1.2);let d:=b7.mk y.1.2.i 0 y.1.2.ab y.1.2.an y.1.2.wh;let f:=!(bb (gq c) (nn d) 41);let a:=ite (y.1.2.an=0/\q1=false) (Ps.ax (gq y.1.1) (nn y.1.2) (ix (gq y.1.1) y.2) 4) (nn y.1.2);let e:Prop:=(aa [y.1.1.1,y.1.1.2] (ay .i64 y.1.2.i 1=((a.i+1:Nat):Int)/\y.1.2.ab=((a.ab:Nat):Int)/\y.1.2.an=a.an/\y.1.2.wh=a.wh/\True));aj b (Iv (fw (c,d)/\(0:Int)<=(41:Int)/\(41:Int)<=(127:Int))/\aa ([41]:List Int) (aa [y.1.1.1,y.1.1.2] (aa [y.1.2.i,y.1.2.ab,y.1.2.an,y.1.2.wh] (aj f (Iv (fw (c,d)/\True)/\aa ([4,y.2]:List Int) (aa [y.1.1.1,y.1.1.2] (aa [y.1.2.i,y.1.2.ab,y.1.2.an,y.1.2.wh] (aa [y.1.1.1,y.1.1.2] (ay .i64 y.1.2.i 1=((a.i+1:Nat):Int)/\y.1.2.ab=((a.ab:Nat):Int)/\cy b 4 y.1.2.an=a.an/\cy b y.2 y.1.2.wh=a.wh/\True))))) (e))))) (e)
def Uj (y:((List Int)×(List Int))×b7):Prop:=let L:=(CA y).1;let q1:=(CA y).2;let M:=(((gW y).i:Nat):Int);let w:=(((gW y).ab:Nat):Int);let q:=(rz y).1;let e:=(nT y).1;let P:=aB (gW y).an 0;let B:=((y.2.ab.toNat:Nat):Int);let n:=(nT y).2.1;let I:=(nT y).2.2;let f:=((e.ab:Nat):Int);let g:=((e.i:Nat):Int);let j:=ay .i64 y.2.i 1;let h:=ay .i64 M 1;let c:=(y.1.1,y.1.2);let a:=gq c;let d:=aI a y.2.i.toNat;let r:=b7.mk j 0 y.2.ab y.2.an y.2.wh;let s:=b7.mk g 0 f e.an e.wh;let t:=gJ a (nn r);let b:=gU a (nn r);let k:=(eF b).1;let u:=(eF b).2;let N:=!(bb a (nn s) 125);let l:=((ct a (a.length-j.toNat) j.toNat []).1:Int);let m:=ay .i64 l 1;let C:=b7.mk l 0 B y.2.an y.2.wh;let v:=b7.mk m 0 B y.2.an y.2.wh;let O:=bb a (nn C) 44;let J:=λp:Prop=>aa [d] (aa [b] (aa [t] p));let o:=λp:Prop=>aa [y.1.1,y.1.2] p;let K:=λp:Prop=>aa [d] (aa [b] (aa [n] (aa [I] (aa [y.1.1,y.1.2] p))));let D:Prop:=(y.2.an=e.an/\y.2.wh=e.wh/\(Iv True));let E:Prop:=(aa [y.1.1,y.1.2] (aa [h,w,(gW y).an,(gW y).wh] ((Iv True))));let F:Prop:=(∃z:Unit,K (g=M/\f=w/\e.an=(gW y).an/\e.wh=(gW y).wh/\(Iv True)));let G:Prop:=(Iv (fw (c,b7.mk h 0 w (gW y).an (gW y).wh)/\True)/\aa ([2,d]:List Int) (aa [y.1.1,y.1.2] (aa [h,w,(gW y).an,(gW y).wh] (k=(rz y).2.1/\L=(rz y).2.2/\o (h=((q.i:Nat):Int)/\w=((q.ab:Nat):Int)/\cy P 2 (gW y).an=q.an/\cy P d (gW y).wh=q.wh/\True)))));let H:Prop:=(∃z:Unit,J (b=n/\false=I/\o (l=g/\B=f/\D)));let A:Prop:=(Iv (fw (c,s)/\True)/\aa ([4,d]:List Int) (aa [y.1.1,y.1.2] (aa [g,f,e.an,e.wh] (∃z:Unit,K (g=M/\f=w/\cy (aB e.an 0) 4 e.an=(gW y).an/\cy (aB e.an 0) d e.wh=(gW y).wh/\(Iv True))))));Iv (fw (c,b7.mk y.2.i 0 y.2.ab y.2.an y.2.wh)/\y.2.i<=(y.1.1.length:Int))/\aa [y.1.1,y.1.2] (aa [y.2.i,y.2.ab,y.2.an,y.2.wh] (Iv (fw (c,r)/\True)/\aa [y.1.1,y.1.2] (aa [j,y.2.ab,y.2.an,y.2.wh] ((aj t (Iv (fw (c,C)/\(0:Int)<=(44:Int)/\(44:Int)<=(127:Int))/\aa ([44]:List Int) (aa [y.1.1,y.1.2] (aa [l,B,y.2.an,y.2.wh] (aj O (Iv (fw (c,v)/\True)/\aa [y.1.1,y.1.2] (aa [m,B,y.2.an,y.2.wh] (∃z:Unit,J (gU a (nn v)=n/\(!(gJ a (nn v)))=I/\o (((ct a (a.length-m.toNat) m.toNat []).1:Int)=g/\((B.toNat:Nat):Int)=f/\D))))) (H))))) (H))/\(∀x:Unit,(Iv True)->(aj (!t) (A) (Iv (fw (c,s)/\(0:Int)<=(125:Int)/\(125:Int)<=(127:Int))/\aa ([125]:List Int) (aa [y.1.1,y.1.2] (aa [g,f,e.an,e.wh] (aj N (A) (aj (!I) (Iv True/\aa [n] (aa [b] (aj (iy n b) (A) (F)))) (F)))))))/\(∀Q:Unit,(Iv True)->Iv (k_ b)/\aa [b] (Iv (k_ n)/\aa [n] ((aj I (∃z:Unit,aa [d,k] (aa [u] ((-1)=L/\true=q1/\E))) (∃z:Unit,aa [d,k] (aa [u] ((eF n).1=L/\(eF n).2=q1/\E))))/\(∀R:Unit,(Iv True)->aj (!u) (G) (aj (!q1) (G) (k=(rz y).2.1/\L=(rz y).2.2/\o (h=((q.i:Nat):Int)/\w=((q.ab:Nat):Int)/\(gW y).an=q.an/\(gW y).wh=q.wh/\True))))))))))))
def Uk (y:(((List Int)×(List Int))×b7)×Int):Prop:=let q0:=(((oJ y).i:Nat):Int);let q1:=(((oJ y).ab:Nat):Int);let q2:=(yv y).1;let h:=(sH y).1;let v:=(sH y).2.1;let F:=((h.i:Nat):Int);let d:=y.1.1.1;let G:=((h.ab:Nat):Int);let q8:=(sH y).2.2;let O:=d.length;let H:=aB h.an 0;let q:=bb (gq y.1.1) (nn y.1.2) 94;let o:=bp (gq y.1.1) (nn y.1.2) 94;let P:=((o.ab:Nat):Int);let I:=((o.i:Nat):Int);let j:=(d,y.1.1.2);let k:=gq j;let Q:=b7.mk y.1.2.i 0 y.1.2.ab y.1.2.an y.1.2.wh;let J:=b7.mk F 0 G h.an h.wh;let q19:=bb k (nn Q) 94;let q20:=!(bb k (nn J) 93);let r21:=λp:Prop=>aa [q] (aa [v] (aa [d,y.1.1.2] p));let n:=λp:Prop=>aa [y.2] (aa [q] p);let g:=λp:Prop=>aa [d,y.1.1.2] p;let R:Prop:=(y.1.2.ab=P/\y.1.2.an=o.an/\y.1.2.wh=o.wh/\(Iv True));let S:Prop:=(g (ay .i64 q0 1=((q2.i:Nat):Int)/\q1=((q2.ab:Nat):Int)/\(oJ y).an=q2.an/\(oJ y).wh=q2.wh/\True));let T:Prop:=(∃z:Unit,r21 (F=q0/\G=q1/\h.an=(oJ y).an/\h.wh=(oJ y).wh/\(Iv True)));let U:Prop:=(Iv (fw (j,J)/\True)/\aa ([4,y.2]:List Int) (aa [d,y.1.1.2] (aa [F,G,h.an,h.wh] (∃z:Unit,r21 (F=q0/\G=q1/\cy H 4 h.an=(oJ y).an/\cy H y.2 h.wh=(oJ y).wh/\(Iv True))))));(Iv (fw (j,Q)/\(0:Int)<=(94:Int)/\(94:Int)<=(127:Int))/\aa ([94]:List Int) (aa [d,y.1.1.2] (aa [y.1.2.i,y.1.2.ab,y.1.2.an,y.1.2.wh] (aj q19 (∃z:Unit,aa [y.2] (true=q/\g (ay .i64 y.1.2.i 1=I/\R))) (∃z:Unit,aa [y.2] (false=q/\g (y.1.2.i=I/\R)))))))/\(∀x:Unit,(Iv True)->((∃z:b7×(List (Int×Int))×Bool,n ([]=z.2.1/\false=z.2.2/\g (I=z.1.i/\P=z.1.ab/\o.an=z.1.an/\o.wh=z.1.wh/\(Iv (Ik y z)))))/\(∀b:b7×(List (Int×Int))×Bool,let q28:=aw b.1.i (ag d);let V:=b7.mk b.1.i 0 b.1.ab b.1.an b.1.wh;let w:=aI k b.1.i.toNat;let r:=(j,V);let q32:=!(bb k (nn V) 93);let m:=(zK r).2;let a:=(zK r).1;let e:=((a.ab:Nat):Int);let A:=((a.i:Nat):Int);let K:=aB a.an 0;let f:=ay .i64 A 1;let B:=(gt (0,0) m 0).1;let q40:=aG (ag d) f;let W:=b7.mk A 0 e a.an a.wh;let C:=b7.mk f 0 e a.an a.wh;let q43:=!(bb k (nn W) 45);let l:=(j,C);let q45:=bb k (nn C) 45;let q46:=bb k (nn C) 91;let q47:=bb k (nn C) 93;let c:=(zK l).1;let s:=(zK l).2;let t:=((c.i:Nat):Int);let u:=((c.ab:Nat):Int);let D:=aB c.an 0;let E:=(gt (0,0) s 0).1;let X:=bM b.2.1 [(B,E)];let L:Prop:=(∃z:Unit,n (b.2.1=v/\b.2.2=q8/\g (b.1.i=F/\b.1.ab=G/\b.1.an=h.an/\b.1.wh=h.wh/\(Iv True))));let Y:Prop:=(bJ (ag (bM b.2.1 m)) 8/\∃z:b7×(List (Int×Int))×Bool,n (bM b.2.1 m=z.2.1/\true=z.2.2/\g (A=z.1.i/\e=z.1.ab/\a.an=z.1.an/\a.wh=z.1.wh/\(Iv (Ik y z/\(O-z.1.i.toNat)<(O-b.1.i.toNat))))));let Z:Prop:=(Iv (fw l/\True)/\aa ([4,w]:List Int) (aa [d,y.1.1.2] (aa [f,e,a.an,a.wh] (∃z:Unit,n (b.2.1=v/\true=q8/\g (f=F/\e=G/\cy K 4 a.an=h.an/\cy K w a.wh=h.wh/\(Iv True)))))));let M:Prop:=(aa [f] (aa [d] (Z)));let q59:Prop:=(aj D (Tt 1 (aw 0 (ag m)/\Tt 1 (aw 0 (ag s)/\bJ (ag X) 8/\aa [B,E] (∃z:b7×(List (Int×Int))×Bool,n (X=z.2.1/\true=z.2.2/\g (t=z.1.i/\u=z.1.ab/\c.an=z.1.an/\c.wh=z.1.wh/\(Iv (Ik y z/\(O-z.1.i.toNat)<(O-b.1.i.toNat))))))))) (∃z:b7×(List (Int×Int))×Bool,n (b.2.1=z.2.1/\true=z.2.2/\g (t=z.1.i/\u=z.1.ab/\c.an=z.1.an/\c.wh=z.1.wh/\(Iv (Ik y z/\(O-z.1.i.toNat)<(O-b.1.i.toNat)))))));let N:Prop:=(Iv (fw (j,b7.mk t 0 u c.an c.wh)/\True)/\aa ([4,w]:List Int) (aa [d,y.1.1.2] (aa [t,u,c.an,c.wh] (∃z:Unit,n (b.2.1=v/\true=q8/\g (t=F/\u=G/\cy D 4 c.an=h.an/\cy D w c.wh=h.wh/\(Iv True)))))));(Iv (Ik y b))->aj (aB b.1.an 0) (aj q28 (Iv (fw r/\(0:Int)<=(93:Int)/\(93:Int)<=(127:Int))/\aa ([93]:List Int) (aa [d,y.1.1.2] (aa [b.1.i,b.1.ab,b.1.an,b.1.wh,b.1.an,b.1.i] (aa [d] (aj q32 (Iv (fw r/\Uc r)/\aa [d,y.1.1.2] (aa [b.1.i,b.1.ab,b.1.an,b.1.wh] (aj (!K) (Y) (Iv (fw (j,W)/\(0:Int)<=(45:Int)/\(45:Int)<=(127:Int))/\aa ([45]:List Int) (aa [d,y.1.1.2] (aa [A,e,a.an,a.wh] (aj q43 (Y) (aj q40 (M) (Iv (fw l/\(0:Int)<=(93:Int)/\(93:Int)<=(127:Int))/\aa ([93]:List Int) (aa [d,y.1.1.2] (aa [f,e,a.an,a.wh] (aj q47 (M) (Iv (fw l/\(0:Int)<=(91:Int)/\(91:Int)<=(127:Int))/\aa ([91]:List Int) (aa [d,y.1.1.2] (aa [f,e,a.an,a.wh] (aj q46 (M) (Iv (fw l/\(0:Int)<=(45:Int)/\(45:Int)<=(127:Int))/\aa ([45]:List Int) (aa [d,y.1.1.2] (aa [f,e,a.an,a.wh,f] (aa [d] (aj q45 (Z) (Iv (fw l/\Uc l)/\aa [d,y.1.1.2] (aa [f,e,a.an,a.wh] (aj D (Iv True/\aa [m] (aj (!(dk m)) (aa [c.an] (N)) (Iv True/\aa [s] (aj (!(dk s)) (aa [c.an] (N)) (Tt 1 (aw 0 (ag m)/\Tt 1 (aw 0 (ag s)/\aa [c.an,B,E] (aj (aw E B) (N) (q59))))))))) (aa [c.an] (q59)))))))))))))))))))))))))) (L)))))) (aa [b.1.an,b.1.i] (aa [d] (L)))) (aa [b.1.an] (L))))/\(∀b:Unit,(Iv True)->(aj H (aj (!q8) (U) (Iv (fw (j,J)/\(0:Int)<=(93:Int)/\(93:Int)<=(127:Int))/\aa ([93]:List Int) (aa [d,y.1.1.2] (aa [F,G,h.an,h.wh] (aj q20 (U) (T)))))) (T))/\(∀x2:Unit,(Iv True)->aj q (Iv (v.length<=2000000)/\aa [v] (lH v=(yv y).2/\S)) (Iv (v.length<=2000000)/\aa [v] (aU v=(yv y).2/\S)))))
theorem NY (c:∀g∈G,1<=g.2/\g.2<=4) {i j:Nat} (hi:i<=G.length) (e:j<=G.length) (h:aI G i=aI G j):i=j:=by
 have step:∀d k,k+d<=G.length->aI G k+d<=aI G (k+d):=λd=>by
  induction d with
  | zero=>intro k _;simp
  | succ d b=>
   intro k hk;have:=b k ω;grind [ik]
 rcases Zcs i j with a | a | a
 ·have:=step (j-i) i ω;rw[show i+(j-i)=j by omega] at this;omega
 ·exact a
 ·have:=step (i-j) j ω;rw[show j+(i-j)=i by omega] at this;omega
theorem EL (a:∀g∈G,1<=g.2/\g.2<=4) {i:Nat} (hi:i<=G.length):ix G (aI G i)=i:=by
 have h:∃j,j<=G.length/\aI G j=aI G i:=⟨i,hi,rfl⟩;unfold ix;grind [NY]
theorem Ld {a:Int} (h:yu G a):aI G (ix G a)=a:=by
 have⟨i,h1,b⟩:=h;have h:∃j,j<=G.length/\aI G j=a:=⟨i,h1,b.symm⟩;unfold ix;grind
theorem wrE (G:List Gt) (s:Ps) (f:Nat) (e:Int):(s.ax G f e).an=cy (aB s.an 0) e s.an:=by
 grind [Ps.ax,cy]
theorem wrW (G:List Gt) (s:Ps) (f:Nat) (e:Int):(s.ax G f e).wh=cy (aB s.an 0) (aI G f) s.wh:=by
 grind [Ps.ax,cy]
structure QF (p:QL) (i g:Nat):Prop where
 q:Cw p
 i:i<=100000
 g:g<=4
 hl:(gq p).length=p.1.length
 len:p.1.length<=1000
variable {p:QL} {i:Nat}
variable {g:Nat}
def fw.out {s:b7} (h:fw (p,s)):∃(i g:Nat),s=⟨i,0,g,s.an,s.wh⟩/\QF p i g:=by
 obtain⟨h1,f,j,k⟩:Cw p/\(0<=s.i/\s.i<=100000)/\s.ak=0/\0<=s.ab/\s.ab<=4:=h;have⟨i,hi⟩:=Zau f.1;have⟨g,l⟩:=Zau k.1;have⟨a,b,c,d,e⟩:=s;simp only at*
 subst hi l j;exact⟨i,g,rfl,h1,ω,ω,yq p,h1.len⟩
def QF.ok (h:QF p i g) (e w:Int):fw (p,⟨i,0,g,e,w⟩):=⟨h.q,⟨ZaF _,by have:=h.i;show(i:Int)<=_;omega⟩,rfl,ZaF _,by have:=h.g;show(g:Int)<=_;omega⟩
def QF.to (h:QF p i g) {s t:Ps} {k:Nat} (r:RB (gq p) k s t) (hk:k<=50000):QF p t.i t.ab:=⟨h.q,by have:=r.len;have:=h.hl;have:=h.len;omega,r.gm,h.hl,h.len⟩
def ez0 (a c:Nat) (e w:Int):nn ⟨a,0,c,e,w⟩=⟨a,0,c,e,w⟩:=rfl
def Io {α β:Type} (p:α×β):(p.1,p.2)=p:=rfl
theorem bK {n:Nat} (h:n<=1000000):ay .i64 (n:Int) 1=((n+1:Nat):Int):=K_ h
theorem Qqc (y:QS×Int) (u:Ii.pre y):Ug y:=by
 have⟨⟨p,s⟩,a⟩:=y;obtain⟨h0,h1,m⟩:fw (p,s)/\s.i<=p.1.length/\yu (gq p) a:=u;have⟨i,g,es,f⟩:=h0.out;have⟨_,_,_,e,w⟩:=s;cases es;simp only at h1;have t:=Ld m;have hl:=f.hl;have hlen:=f.len;have ok:=λj (o:j<=100000)=>(⟨f.q,o,f.g,hl,hlen⟩:QF p j g).ok e w
 have l:tL ((p,⟨i,0,g,e,w⟩),a)=sf (gq p) ⟨i,0,g,e,w⟩ (ix (gq p) a):=rfl;unfold Ug;simp only[bL,bC,au,dq,Zad,Zan,Zao,bK (n:=i) ω,Int.ofNat_le,Zd0];rw[l];unfold sf;have wr:∀(j c:Nat) (b:Int),b=aI (gq p) c->((j:Int)=((Ps.ax (gq p) ⟨j,0,g,e,w⟩ c 4).i:Nat)/\(g:Int)=((Ps.ax (gq p) ⟨j,0,g,e,w⟩ c 4).ab:Nat)/\cy (aB e 0) 4 e=(Ps.ax (gq p) ⟨j,0,g,e,w⟩ c 4).an/\cy (aB e 0) b w=(Ps.ax (gq p) ⟨j,0,g,e,w⟩ c 4).wh):=λj c b d=>by
  rw[wrE,wrW,<-d];simp
 refine⟨λk=>?_,λk=>⟨ZaF _,k,λk1=>?_,λk1=>?_⟩⟩
 ·grind
 ·have v:=f.q.p0 i;rcases f.q.rune (i:=i) ω with⟨_,h⟩ | ⟨d,_⟩
  ·omega
  ·grind
 ·rcases f.q.rune (i:=i) ω with⟨d,h⟩ | ⟨_,h,_⟩
  ·rw[Zaa (by grind),Zaa (by grind)];dsimp only;rw[h];generalize aK (gq p) i=r;refine⟨λk2=>by simp_all,λk2=>?_⟩;rw[Zaa k2];refine⟨λk2=>by simp_all,λk2=>?_⟩;rw[Zaa k2];refine⟨λk2=>by simp_all,λk2=>?_⟩;rw[Zaa k2];refine⟨λk2=>by simp_all,λk2=>?_⟩;rw[Zaa k2];refine⟨λk2=>by simp_all,λk2=>?_⟩;rw[Zaa k2];refine⟨λk2=>by simp_all,λk2=>?_⟩;rw[Zaa k2];refine⟨λk2=>?_,λk2=>?_⟩
   ·rw[Zaa (by grind)];exact⟨(ok (i+1) ω),rfl,wr (i+1) _ a t.symm⟩
   ·simp_all
  ·omega
def Qco (h:Ok lW):Ok Ii:=okZ [sF,zJ,lW,TP] f281 (λ_=>dY ()) ⟨uL,EJ,h,Qjb⟩ Qqc
theorem EM (G:List Gt) (j g a:Nat) (e w er b:Int) (c:b=aI G a):(j:Int)=((Ps.ax G ⟨j,0,g,e,w⟩ a er).i:Nat)/\(g:Int)=((Ps.ax G ⟨j,0,g,e,w⟩ a er).ab:Nat)/\cy (aB e 0) er e=(Ps.ax G ⟨j,0,g,e,w⟩ a er).an/\cy (aB e 0) b w=(Ps.ax G ⟨j,0,g,e,w⟩ a er).wh:=by
 rw[wrE,wrW,<-c];simp
theorem Qqd (y:QS) (l:Ud.pre y):Uh y:=by
 have⟨p,s⟩:=y;obtain⟨h0,h1⟩:fw (p,s)/\s.i<p.1.length:=l;have⟨i,g,es,f⟩:=h0.out;have⟨_,_,_,e,w⟩:=s;cases es;simp only at h1;have hl:=f.hl;have hlen:=f.len;have ok:=λj (d:j<=100000)=>(⟨f.q,d,f.g,hl,hlen⟩:QF p j g).ok e w
 have c:zK (p,⟨i,0,g,e,w⟩)=fk (gq p) ⟨i,0,g,e,w⟩:=rfl;have b:tL ((p,⟨((i+1:Nat):Int),0,g,e,w⟩),aI (gq p) i)=sf (gq p) ⟨i+1,0,g,e,w⟩ i:=by
  unfold tL;rw[EL f.q.n ω];rfl
 unfold Uh;simp only[bL,bC,au,dq,Zad,bK (n:=i) ω,Zd0];rw[b,c];unfold fk;refine⟨⟨ok i f.i,ω⟩,ZaF _,ω,?_⟩;rcases f.q.rune (i:=i) ω with⟨a,h⟩ | ⟨a,h,_⟩
 ·rw[Zaa (by grind)];dsimp only;rw[h];have m:=f.q.p0 i;generalize aK (gq p) i=r at*
  refine⟨λk=>?_,λk=>?_⟩
  ·rw[Zac k];exact⟨⟨ok (i+1) ω,by assumption,i,by grind,rfl⟩,rfl,rfl,rfl,rfl,rfl⟩
  ·rw[Zaa k];have A:(r=91\/r=45)->fw (p,⟨((i+1:Nat):Int),0,g,e,w⟩)/\[]=(if r=91\/r=45 then((Ps.next ⟨i,0,g,e,w⟩).ax (gq p) i 4,[]) else(Ps.next ⟨i,0,g,e,w⟩,[(r,r)]):Ps×List Rg).2/\((i+1:Nat):Int)=((if r=91\/r=45 then((Ps.next ⟨i,0,g,e,w⟩).ax (gq p) i 4,[]) else(Ps.next ⟨i,0,g,e,w⟩,[(r,r)]):Ps×List Rg).1.i:Nat)/\(g:Int)=((if r=91\/r=45 then((Ps.next ⟨i,0,g,e,w⟩).ax (gq p) i 4,[]) else(Ps.next ⟨i,0,g,e,w⟩,[(r,r)]):Ps×List Rg).1.ab:Nat)/\cy (aB e 0) 4 e=(if r=91\/r=45 then((Ps.next ⟨i,0,g,e,w⟩).ax (gq p) i 4,[]) else(Ps.next ⟨i,0,g,e,w⟩,[(r,r)]):Ps×List Rg).1.an/\cy (aB e 0) (aI (gq p) i) w=(if r=91\/r=45 then((Ps.next ⟨i,0,g,e,w⟩).ax (gq p) i 4,[]) else(Ps.next ⟨i,0,g,e,w⟩,[(r,r)]):Ps×List Rg).1.wh:=λh=>by
    rw[Zac h];exact⟨ok (i+1) ω,rfl,EM (gq p) (i+1) g i e w 4 _ rfl⟩
   grind [Ps.next]
 ·rw[Zac (a),h];refine⟨λk=>ω,λ_=>⟨λk=>ω,λ_=>⟨λk=>ω,λ_=>⟨λ_=>?_,λk=>absurd rfl k⟩⟩⟩⟩;exact⟨ok (i+1) ω,rfl,EM (gq p) (i+1) g i e w 4 _ rfl⟩
def Qjj (h:Ok lW):Ok Ud:=okZ [zJ,Ii,sF] f301 (λ_=>dY ()) ⟨EJ,Qco h,uL⟩ Qqd
theorem Qqe (y:QS×Int) (c:NX.pre y):Ui y:=by
 have⟨⟨p,s⟩,a⟩:=y;obtain⟨h0,h1,b⟩:fw (p,s)/\s.i<=90000/\yu (gq p) a:=c;have⟨i,g,es,f⟩:=h0.out;have⟨_,_,_,e,w⟩:=s;cases es;simp only at h1;have d:=Ld b;unfold Ui;simp only[bC,oo,oq,bK (n:=i) ω,Zan,Zao];have ok:=f.ok e w;have c1:∀x:Int,x=41->(0:Int)<=41/\(41:Int)<=127:=λ_ _=>by decide
 have en:nn ⟨↑i,0,↑g,e,w⟩=⟨i,0,g,e,w⟩:=rfl;rw[en];have st:¬(e=0/\bb (gq p) ⟨i,0,g,e,w⟩ 41=false)->(((i+1:Nat):Int)=(((if e=0/\bb (gq p) ⟨i,0,g,e,w⟩ 41=false then Ps.ax (gq p) ⟨i,0,g,e,w⟩ (ix (gq p) a) 4 else⟨i,0,g,e,w⟩:Ps).i+1:Nat):Int))/\↑g=((if e=0/\bb (gq p) ⟨i,0,g,e,w⟩ 41=false then Ps.ax (gq p) ⟨i,0,g,e,w⟩ (ix (gq p) a) 4 else⟨i,0,g,e,w⟩:Ps).ab:Nat)/\e=(if e=0/\bb (gq p) ⟨i,0,g,e,w⟩ 41=false then Ps.ax (gq p) ⟨i,0,g,e,w⟩ (ix (gq p) a) 4 else⟨i,0,g,e,w⟩:Ps).an/\w=(if e=0/\bb (gq p) ⟨i,0,g,e,w⟩ 41=false then Ps.ax (gq p) ⟨i,0,g,e,w⟩ (ix (gq p) a) 4 else⟨i,0,g,e,w⟩:Ps).wh:=λh=>by grind
 grind [EM]
def Qjk:Ok NX:=okZ [rv,sF] f300 (λ_=>dY ()) ⟨yr,uL⟩ Qqe
theorem Qjl (y:QS) (N:Ij.pre y):Uj y:=by
 have⟨p,s⟩:=y;obtain⟨h0,h1⟩:fw (p,s)/\s.i<p.1.length:=N;have⟨i,g,es,f⟩:=h0.out;have⟨_,_,_,e,w⟩:=s;cases es;simp only at h1;have hl:=f.hl;have hlen:=f.len;have hi:i<(gq p).length:=ω;obtain⟨d,E⟩:∃d,ct (gq p) ((gq p).length-(i+1)) (i+1) []=d:=⟨_,rfl⟩;have D:dv (gq p) ⟨i+1,0,g,e,w⟩=⟨d.1,0,g,e,w⟩:=by rw[<-E];rfl
 have P:RB (gq p) 0 ⟨i,0,g,e,w⟩ ⟨i,0,g,e,w⟩:=RB.refl (by grind) f.g;have G:RB (gq p) 0 ⟨i,0,g,e,w⟩ ⟨d.1,0,g,e,w⟩:=by rw[<-D];exact wa (P.pz hi)
 obtain⟨ok,c⟩:∃ok,gJ (gq p) ⟨i+1,0,g,e,w⟩=ok:=⟨_,rfl⟩;obtain⟨m,A⟩:∃m,gU (gq p) ⟨i+1,0,g,e,w⟩=m:=⟨_,rfl⟩;have gm:k_ m:=by grind [qk]
 have u:nT (p,⟨i,0,g,e,w⟩)=if ok/\bb (gq p) ⟨d.1,0,g,e,w⟩ 44=true then(dv (gq p) ⟨d.1+1,0,g,e,w⟩,gU (gq p) ⟨d.1+1,0,g,e,w⟩,!gJ (gq p) ⟨d.1+1,0,g,e,w⟩) else(⟨d.1,0,g,e,w⟩,m,false):=by
  rw[<-c,<-A];unfold nT;rw[aC];have r:dv (gq (p,(⟨i,0,g,e,w⟩:b7)).1) (nn (p,(⟨i,0,g,e,w⟩:b7)).2).next=⟨d.1,0,g,e,w⟩:=D;rw[r];rfl
 obtain⟨j,n,op,l,C,J⟩:∃j n op,nT (p,⟨i,0,g,e,w⟩)=(⟨j,0,g,e,w⟩,n,op)/\RB (gq p) 0 ⟨i,0,g,e,w⟩ ⟨j,0,g,e,w⟩/\k_ n:=by
  rw[u];split
  ·rename_i L
   exact⟨_,_,_,rfl,wa (G.pz (da L.2)),qk _ _⟩
  ·grind
 have v:gW (p,⟨i,0,g,e,w⟩)=if ok=false\/bb (gq p) ⟨j,0,g,e,w⟩ 125=false\/(op=false/\iy n m) then Ps.ax (gq p) ⟨j,0,g,e,w⟩ i 4 else⟨j,0,g,e,w⟩:=by
  unfold gW;rw[aC,l,<-c,<-A];rfl
 have H:CA (p,⟨i,0,g,e,w⟩)=if op then(-1,true) else eF n:=by
  unfold CA;rw[aC,l]
 have I:rz (p,⟨i,0,g,e,w⟩)=(if (eF m).2=false\/(CA (p,⟨i,0,g,e,w⟩)).2=false then(gW (p,⟨i,0,g,e,w⟩)).next.ax (gq p) i 2 else(gW (p,⟨i,0,g,e,w⟩)).next,(eF m).1,(CA (p,⟨i,0,g,e,w⟩)).1):=by
  have r:ey (gq p) ⟨i,0,g,e,w⟩=jF (gq p) i (nT (p,⟨i,0,g,e,w⟩)).1 m (nT (p,⟨i,0,g,e,w⟩)).2.1 ok (nT (p,⟨i,0,g,e,w⟩)).2.2:=by
   grind [ey,Ps.next]
  unfold rz;rw[aC];refine r.trans ?_;rw[l,v,H];rfl
 have Q:RB (gq p) 0 ⟨i,0,g,e,w⟩ (gW (p,⟨i,0,g,e,w⟩)):=by
  rw[v];split
  ·exact C.ax _ _
  ·exact C
 have R:(gW (p,⟨i,0,g,e,w⟩)).ab=g:=by rw[v];split<;>simp
 have o:=λ(x:Nat) (M:x<=100000)=>(⟨f.q,M,f.g,hl,hlen⟩:QF p x g).ok e w
 have O:=C.len;have dl:=G.len;have V:=Q.len;simp only at O dl;unfold Uj;simp only[bC,oo,oq,bK (n:=i) ω,Zad,Zan,Zao,ZaX,ZaY,ZaZ,ez2,ez0,Io,E,c,A];have T:ok->bb (gq p) ⟨d.1,0,g,e,w⟩ 44->gU (gq p) ⟨d.1+1,0,g,e,w⟩=n/\(!gJ (gq p) ⟨d.1+1,0,g,e,w⟩)=op/\(ct (gq p) ((gq p).length-(d.1+1)) (d.1+1) []).1=j:=λa b=>by
  rw[Zac ⟨a,b⟩,l] at u;injection u with h1 z
  injection z with z K
  exact⟨z.symm,K.symm,(ZaR Ps.i h1).symm⟩
 have U:¬(ok/\bb (gq p) ⟨d.1,0,g,e,w⟩ 44)->m=n/\false=op/\d.1=j:=λa=>by
  grind
 simp only[l,bK (n:=d.1) ω,ez0,and_self];refine⟨⟨(f.ok e w),ω⟩,o _ ω,⟨λk=>⟨⟨o _ ω,by decide,by decide⟩,λk1=>⟨?_,?_⟩,λk1=>?_⟩,λk=>?_⟩,?_,?_⟩
 ·grind
 ·grind
 ·grind
 ·grind
 ·have S:(ok=false\/bb (gq p) ⟨j,0,g,e,w⟩ 125=false\/(op=false/\iy n m))->fw (p,⟨j,0,g,e,w⟩)/\↑j=((gW (p,⟨i,0,g,e,w⟩)).i:Nat)/\↑g=((gW (p,⟨i,0,g,e,w⟩)).ab:Nat)/\cy (aB e 0) 4 e=(gW (p,⟨i,0,g,e,w⟩)).an/\cy (aB e 0) (aI (gq p) i) w=(gW (p,⟨i,0,g,e,w⟩)).wh:=λh=>by
   grind [EM]
  grind
 ·refine⟨gm,J,⟨λk=>?_,λk=>?_⟩,?_⟩
  ·grind
  ·grind
  ·have F:fw (p,⟨(((gW (p,⟨i,0,g,e,w⟩)).i+1:Nat):Int),0,((gW (p,⟨i,0,g,e,w⟩)).ab:Nat),(gW (p,⟨i,0,g,e,w⟩)).an,(gW (p,⟨i,0,g,e,w⟩)).wh⟩):=(⟨f.q,ω,by rw[R];exact f.g,hl,hlen⟩:QF p _ _).ok _ _;rw[bK ω,I];generalize gW (p,⟨i,0,g,e,w⟩)=t at*
   generalize CA (p,⟨i,0,g,e,w⟩)=h at*
   have B:(eF m).2=false\/h.2=false->(if (eF m).2=false\/h.2=false then t.next.ax (gq p) i 2 else t.next)=t.next.ax (gq p) i 2:=λk=>Zac k
   have bad:(eF m).2=false\/h.2=false->((t.i+1:Nat):Int)=((if (eF m).2=false\/h.2=false then t.next.ax (gq p) i 2 else t.next:Ps).i:Nat)/\(t.ab:Int)=((if (eF m).2=false\/h.2=false then t.next.ax (gq p) i 2 else t.next:Ps).ab:Nat)/\cy (aB t.an 0) 2 t.an=(if (eF m).2=false\/h.2=false then t.next.ax (gq p) i 2 else t.next:Ps).an/\cy (aB t.an 0) (aI (gq p) i) t.wh=(if (eF m).2=false\/h.2=false then t.next.ax (gq p) i 2 else t.next:Ps).wh:=λk=>by
    rw[B k,wrE,wrW];exact⟨by rw[Yl];rfl,by rw[Ci];rfl,rfl,rfl⟩
   refine⟨λk=>⟨F,rfl,rfl,bad (.inl k)⟩,λk=>⟨λk1=>⟨F,rfl,rfl,bad (.inr k1)⟩,λk1=>?_⟩⟩;rw[Zaa (by grind)];exact⟨rfl,rfl,rfl,rfl,rfl,rfl⟩
def Qjm:Ok Ij:=okZ [zJ,NT,rv,TR,sF,NS] f255 Qp8 ⟨EJ,Qjg,yr,Qje,uL,Qjf⟩ Qjl
def Lg (p:QL) (i g:Nat) (e w:Int):zK (p,⟨i,0,g,e,w⟩)=fk (gq p) ⟨i,0,g,e,w⟩:=rfl
theorem nU {l:List Rg} (h:dk l):l.length=1:=by
 grind [dk]
theorem Qqf (y:QS×Int) (hy:Il.pre y):Uk y:=by
 have⟨⟨p,s⟩,a0⟩:=y;obtain⟨h0,h1,h2⟩:fw (p,s)/\s.i<=p.1.length/\yu (gq p) a0:=hy;have⟨i,g,es,f⟩:=h0.out;have⟨_,_,_,e,w⟩:=s;cases es;simp only at h1;have hl:=f.hl;have hlen:=f.len;have q:=λ(j k:Nat) (e w:Int) (hj:j<=100000) (hk:k<=4)=>(⟨f.q,hj,hk,hl,hlen⟩:QF p j k).ok e w
 have r0:RB (gq p) 0 ⟨i,0,g,e,w⟩ ⟨i,0,g,e,w⟩:=RB.refl (by grind) f.g;have rs:=r0.skip 94;have en:nn ⟨↑i,0,↑g,e,w⟩=⟨i,0,g,e,w⟩:=rfl;obtain⟨R,S⟩:∃R,sH ((p,⟨i,0,g,e,w⟩),a0)=R:=⟨_,rfl⟩;have eR:R=dI (gq p) ((gq p).length+2-(bp (gq p) ⟨i,0,g,e,w⟩ 94).i) (bp (gq p) ⟨i,0,g,e,w⟩ 94) [] false:=by
  grind [sH,aC]
 have N:RB (gq p) 0 ⟨i,0,g,e,w⟩ R.1:=by grind [sG]
 have W:oJ ((p,⟨i,0,g,e,w⟩),a0)=if R.1.an=0/\(R.2.2=false\/bb (gq p) R.1 93=false) then R.1.ax (gq p) (ix (gq p) a0) 4 else R.1:=by
  grind [oJ,aC]
 have rT:RB (gq p) 0 ⟨i,0,g,e,w⟩ (oJ ((p,⟨i,0,g,e,w⟩),a0)):=by
  rw[W];split
  ·exact N.ax _ _
  ·exact N
 have eS:yv ((p,⟨i,0,g,e,w⟩),a0)=((oJ ((p,⟨i,0,g,e,w⟩),a0)).next,if bb (gq p) ⟨i,0,g,e,w⟩ 94 then lH R.2.1 else aU R.2.1):=by
  unfold yv;rw[aC,W,eR];rfl
 have Rl:=N.len;have Rm:=N.gm;have Tl:=rT.len;have Ro:R.1.ak=0:=N.op;have V:(⟨R.1.i,0,R.1.ab,R.1.an,R.1.wh⟩:Ps)=R.1:=by rw[<-Ro]
 have lR:R.2.1.length<=50000:=by
  grind [sG]
 unfold Uk;simp only[bL,bC,Zad,Zan,Zao,ZaX,ZaY,ZaZ,Io,en,S,au,aT,br,dq,bK (n:=i) ω,bK (n:=(oJ ((p,⟨i,0,g,e,w⟩),a0)).i) ω,ez0,V];refine⟨⟨⟨q i g e w ω f.g,by decide,by decide⟩,λk=>?_,λk=>?_⟩,⟨⟨(zz (bp (gq p) ⟨i,0,g,e,w⟩ 94),[],false),rfl,rfl,rfl,rfl,rfl,rfl,?_⟩,λx X=>?_⟩,?_,?_⟩
 ·rw[rp k,k];exact⟨rfl,rfl,rfl,rfl,rfl⟩
 ·grind [rq]
 ·exact⟨⟨ZaF _,by have:=rs.len;show((bp (gq p) ⟨i,0,g,e,w⟩ 94).i:Int)<=↑p.1.length;omega⟩,by show((bp (gq p) ⟨i,0,g,e,w⟩ 94).ak:Int)=0;rw[rs.op];rfl,⟨ZaF _,by have:=rs.gm;show((bp (gq p) ⟨i,0,g,e,w⟩ 94).ab:Int)<=4;omega⟩,Zaj _,_,by show p.1.length+2<=(gq p).length+2-_+(bp (gq p) ⟨i,0,g,e,w⟩ 94).i;have:=rs.len;omega,(eR.symm.trans S.symm)⟩
 ·have⟨⟨r,xo,D,F,G⟩,l,b⟩:=x;have⟨i1,i2,i3,i4,n,i5,i6⟩:=X;have i1:0<=r/\r<=↑p.1.length:=i1;have i3:0<=D/\D<=4:=i3;subst i2;obtain⟨r,rfl⟩:=Zau i1.1;obtain⟨D,rfl⟩:=Zau i3.1;have i4:l.length<=20*r:=i4;have i5:p.1.length+2<=n+r:=i5;have i6:dI (gq p) n ⟨r,0,D,F,G⟩ l b=R:=i6.trans S;have qx:=q r D F G ω ω;have ex:nn ⟨↑r,0,↑D,F,G⟩=⟨r,0,D,F,G⟩:=rfl;simp only[Lg,Zad];have stop:¬(F=0/\r<(gq p).length/\bb (gq p) ⟨r,0,D,F,G⟩ 93=false)->l=R.2.1/\b=R.2.2/\(r:Int)=↑R.1.i/\(D:Int)=↑R.1.ab/\F=R.1.an/\G=R.1.wh:=λh=>by
   have:R=(⟨r,0,D,F,G⟩,l,b):=by
    rw[<-i6];cases n with
    | zero=>rfl
    | succ n=>unfold dI;rw[Zaa h]
   grind
  obtain⟨n,rfl⟩:∃m,n=m+1:=⟨n-1,ω⟩;have cont:∀(d A:Nat) (o B:Int) (J:List Rg),r<d->d<=p.1.length->A<=4->J.length<=20*d->dI (gq p) n ⟨d,0,A,o,B⟩ J true=R->∃z:b7×List Rg×Bool,J=z.2.1/\true=z.2.2/\↑d=z.1.i/\↑A=z.1.ab/\o=z.1.an/\B=z.1.wh/\Ik ((p,⟨i,0,g,e,w⟩),a0) z/\p.1.length-z.1.i.toNat<p.1.length-r:=λd A o B J c1 c2 c3 c4 c5=>
   ⟨(⟨d,0,A,o,B⟩,J,true),rfl,rfl,rfl,rfl,rfl,rfl,⟨⟨ZaF _,by grind⟩,rfl,⟨ZaF _,by grind⟩,c4,n,by show p.1.length+2<=n+d;omega,c5.trans S.symm⟩,by grind⟩
  refine⟨λk1=>⟨λk2=>⟨⟨qx,by decide,by decide⟩,λk3=>⟨⟨qx,k2⟩,?_⟩,λk3=>stop λh=>by grind⟩,λk2=>stop λh=>ω⟩,λk1=>stop λh=>k1 h.1⟩;have rx:RB (gq p) 0 ⟨r,0,D,F,G⟩ ⟨r,0,D,F,G⟩:=RB.refl (by grind) (by grind);have⟨b1,Z,b3⟩:=wb rx (show r<(gq p).length by omega);have u:dI (gq p) (n+1) ⟨r,0,D,F,G⟩ l b=(let m:=kL (gq p) (fk (gq p) ⟨r,0,D,F,G⟩).1 r (fk (gq p) ⟨r,0,D,F,G⟩).2 l
   if m.2.2 then(m.1,m.2.1,true) else dI (gq p) n m.1 m.2.1 true):=by
   conv=>lhs;unfold dI
   grind
  rw[u] at i6;obtain⟨⟨⟨d,to,A,o,B⟩,a⟩,ht⟩:∃t,fk (gq p) ⟨r,0,D,F,G⟩=t:=⟨_,rfl⟩;rw[ht] at b1 Z b3 i6 ⊢;have t0:=b1.op;subst t0;have t1:d<=(gq p).length:=b1.len;have U:=b1.gm;have t3:r<d:=Z;have t4:=b3;simp only[ez0,bK (n:=d) ω];have fit:∀(J:List Rg),J.length<=l.length+8->((J.length:Nat):Int)*(8:Nat)<=140737488355328:=λJ h=>by omega
  have H:o≠0\/bb (gq p) ⟨d,0,A,o,B⟩ 45=false->dI (gq p) n ⟨d,0,A,o,B⟩ (l++a) true=R:=λh=>by
   grind [kL]
  have lA:(l++a).length<=20*d:=by grind
  have T:=q (d+1) A o B ω U;refine⟨λk4=>⟨fit _ (by grind),cont _ _ _ _ _ t3 ω U lA (H (.inl k4))⟩,λk4=>⟨⟨(q d A o B ω U),by decide,by decide⟩,λk5=>⟨fit _ (by grind),cont _ _ _ _ _ t3 ω U lA (H (.inr k5))⟩,λk5=>?_⟩⟩;have t5:=da k5;simp only at t5;have j0:¬(o≠0\/bb (gq p) ⟨d,0,A,o,B⟩ 45=false):=by grind
  have i7:=i6;unfold kL at i7;simp only at i7;rw[Zaa j0] at i7;have nx:Ps.next ⟨d,0,A,o,B⟩=⟨d+1,0,A,o,B⟩:=rfl;rw[nx] at i7;have C:((gq p).length<=d+1\/bb (gq p) ⟨d+1,0,A,o,B⟩ 93\/bb (gq p) ⟨d+1,0,A,o,B⟩ 91\/bb (gq p) ⟨d+1,0,A,o,B⟩ 45)->fw (p,⟨((d+1:Nat):Int),0,A,o,B⟩)/\l=R.2.1/\true=R.2.2/\((d+1:Nat):Int)=↑R.1.i/\(A:Int)=↑R.1.ab/\cy (aB o 0) 4 o=R.1.an/\cy (aB o 0) (aI (gq p) r) B=R.1.wh:=λh=>by
   grind [EM]
  refine⟨λk6=>C (.inl ω),λk6=>⟨⟨T,by decide,by decide⟩,λk7=>C (.inr (.inl k7)),λk7=>⟨⟨T,by decide,by decide⟩,λk8=>C (.inr (.inr (.inl k8))),λk8=>⟨⟨T,by decide,by decide⟩,λk9=>C (.inr (.inr (.inr k9))),λk9=>⟨⟨T,by assumption⟩,?_⟩⟩⟩⟩⟩;have j1:¬((gq p).length<=d+1\/bb (gq p) ⟨d+1,0,A,o,B⟩ 93\/bb (gq p) ⟨d+1,0,A,o,B⟩ 91\/bb (gq p) ⟨d+1,0,A,o,B⟩ 45):=by
   grind
  rw[Zaa j1] at i7;have ru:RB (gq p) 0 ⟨r,0,D,F,G⟩ ⟨d+1,0,A,o,B⟩:=b1.pz ω;have⟨Q,d2,d3⟩:=wb ru (show d+1<(gq p).length by omega);obtain⟨⟨⟨M,vo,O,I,P⟩,c⟩,hv⟩:∃v,fk (gq p) ⟨d+1,0,A,o,B⟩=v:=⟨_,rfl⟩;rw[Lg p (d+1) A o B];rw[hv] at Q d2 d3 i7 ⊢;have v0:=Q.op;subst v0;have v1:M<=(gq p).length:=Q.len;have Y:=Q.gm;have v3:d+1<M:=d2;simp only at i7 ⊢;have qv:=q M O I P ω Y;have g0:∀l:List Rg,(l.getD 0 (0,0)).1=o7 l:=λ_=>rfl
  simp only[g0];have E:(I=0/\(dk a=false\/dk c=false\/o7 c<o7 a))->fw (p,⟨↑M,0,O,I,P⟩)/\l=R.2.1/\true=R.2.2/\(M:Int)=↑R.1.i/\(O:Int)=↑R.1.ab/\cy (aB I 0) 4 I=R.1.an/\cy (aB I 0) (aI (gq p) r) P=R.1.wh:=λh=>by
   grind [EM]
  have K:¬(I=0/\(dk a=false\/dk c=false\/o7 c<o7 a))->I=0->dI (gq p) n ⟨M,0,O,I,P⟩ (l++[(o7 a,o7 c)]) true=R:=λh h2=>by
   grind
  have L:I≠0->dI (gq p) n ⟨M,0,O,I,P⟩ l true=R:=λh=>by
   grind
  refine⟨λm1=>⟨λm2=>E ⟨m1,.inl m2⟩,λm2=>⟨λm3=>E ⟨m1,.inr (.inl m3)⟩,λm3=>⟨by have:=nU m2;omega,by have:=nU m3;omega,λm4=>E ⟨m1,.inr (.inr m4)⟩,λm4=>⟨λ_=>⟨by have:=nU m2;omega,by have:=nU m3;omega,fit _ (by simp),?_⟩,λh=>absurd m1 h⟩⟩⟩⟩,λm1=>⟨λh=>absurd h m1,λ_=>?_⟩⟩
  ·refine cont _ _ _ _ _ ω ω Y (by simp;omega) (K ?_ m1);grind
  ·exact cont _ _ _ _ _ ω ω Y ω (L m1)
 ·have bad:R.1.an=0/\(R.2.2=false\/bb (gq p) R.1 93=false)->↑R.1.i=((oJ ((p,⟨i,0,g,e,w⟩),a0)).i:Nat)/\↑R.1.ab=((oJ ((p,⟨i,0,g,e,w⟩),a0)).ab:Nat)/\cy (aB R.1.an 0) 4 R.1.an=(oJ ((p,⟨i,0,g,e,w⟩),a0)).an/\cy (aB R.1.an 0) a0 R.1.wh=(oJ ((p,⟨i,0,g,e,w⟩),a0)).wh:=λh=>by
   rw[W,Zac h,wrE,wrW,(Ld h2)];simp
  grind
 ·rw[eS];exact⟨λk=>⟨ω,by grind,rfl,rfl,rfl,rfl⟩,λk=>⟨ω,by grind,rfl,rfl,rfl,rfl⟩⟩
def Qjn (h:Ok lW) (a:Ok pr):Ok Il:=okZ [rv,Ud,TQ,sF,pr,lW] f279 Qqa ⟨yr,Qjj h,Qjd,uL,a,h⟩ Qqf
abbrev QD:=QS×Int
def zk (y:QD):Ps->Ps×List Nd:=Cj (gq y.1.1) (20-y.2.toNat) (y.2.toNat+1)
def lZ (y:QD):Nat:=5*(20-y.2.toNat)
def Qcp (y:QD):Prop:=0<=y.2/\y.2<=20
def Ul (y:QD):Prop:=Qcp y/\y.1.2.i<=y.1.1.1.length
def ltP (y:QD):Prop:=Qcp y/\y.1.2.i<y.1.1.1.length
def ZX (f:FuncId) (pre:QD->Prop) (F:QD->Ps×List Nd):bh D:=yp f QD (·.1) TO pre (λy=>[Qvo y.2]) (λy=>zz (F y).1) λy=>.list 7 (F y).2
def eZ (y:QD):Ps×List Nd:=lk (uA (gq y.1.1) (zk y) y.2.toNat (nn y.1.2))
def iA (y:QD):Ps×List Nd:=lk (oG (gq y.1.1) (zk y) y.2.toNat (nn y.1.2))
def j5 (y:QD):Ps×List Nd:=lk (si (gq y.1.1) (zk y) y.2.toNat (nn y.1.2))
def gg (y:QD):Ps×List Nd:=lk (ga (gq y.1.1) (zk y) y.2.toNat (nn y.1.2))
abbrev QG:=QS×Int×Int
variable {s:Ps} {G:List Gt} {A:Ps->Ps×List Nd} {l:List (List Nd)}
def gd (y:QG):QD:=(y.1,y.2.1)
def qR (y:QG):Ps×List Nd:=lk (jh (gq y.1.1) (zk (gd y)) y.2.1.toNat (nn y.1.2) (ix (gq y.1.1) y.2.2))
def yw:bh D:=ZX 125 Ul eZ
def A8:bh D:=ZX 183 Ul iA
def A9:bh D:=ZX 224 ltP j5
def EN:bh D:=ZX 254 ltP gg
def EO:bh D:=yp 277 QG (·.1) Qcl (λy=>Ul (gd y)/\yu (gq y.1.1) y.2.2) (λy=>[Qvo y.2.1,Qvo y.2.2]) (λy=>zz (qR y).1) λy=>.list 7 (qR y).2
def rfT (n:Nat):s7:=[yw.under (λy=>lZ y+4) n,A8.under (λy=>lZ y+3) n,A9.under (λy=>lZ y+2) n,EN.under (λy=>lZ y+1) n,EO.under (λy=>lZ (gd y)) n]
def rfW (l:s7) (i:Nat) (fn:Func) (k:bh D) (a:k.Y->cH D) (n:Nat) (y:k.Y):Prop:=vc (rfT (n+i)++l) fn k a y
def Qcq (p:QL) (s:b7):List (Nat×AO D.E):=qO p s++[(1,.tok 9 138)]
def stI (y:QD) (s:b7):Prop:=fw (y.1.1,s)/\(nn y.1.2).i<=(nn s).i/\(nn s).i<=y.1.1.1.length+30
def Lh (y:QD) (x:b7×List (List Nd)):Prop:=stI y x.1/\0<x.2.length/\total x.2+2*x.2.length<=3*((nn x.1).i-(nn y.1.2).i)+3/\∃n,y.1.1.1.length+2<=n+(nn x.1).i/\
 (dP (gq y.1.1) (zk y) y.2.toNat n (nn x.1) x.2).1=(eZ y).1/\bW 4 (dP (gq y.1.1) (zk y) y.2.toNat n (nn x.1) x.2).2=(eZ y).2
def A' (y:QD) (x:b7×List (List Nd)):Nat:=y.1.1.1.length+30-(nn x.1).i
def Qcr (y:yw.Y):cH D:=⟨[],[],[(28,⟨b7×List (List Nd),[0,1],λx=>[(5,.grow 9 x.2 1)],[],λx=>Qcq y.1.1 x.1,2,Lh y,A' y⟩)],[],1,[]⟩
def Qjp (y:yw.Y):Prop:=rfW [rv,Cx] 4 f125 yw Qcr (lZ y) y
def Li (y:QD) (x:b7×List (List Nd)):Prop:=stI y x.1/\x.2.length<=(nn x.1).i-(nn y.1.2).i/\total x.2<=3*((nn x.1).i-(nn y.1.2).i)/\∃n,y.1.1.1.length+2<=n+(nn x.1).i/\
 (ej (gq y.1.1) (zk y) y.2.toNat n (nn x.1) x.2).1=(iA y).1/\bW 3 (ej (gq y.1.1) (zk y) y.2.toNat n (nn x.1) x.2).2=(iA y).2
def Qcs (y:A8.Y):cH D:=⟨[],[],[(28,⟨b7×List (List Nd),[0,1],λx=>[(5,.grow 9 x.2 1)],[],λx=>Qcq y.1.1 x.1,2,Li y,A' y⟩)],[],1,[]⟩
def Qjq (y:A8.Y):Prop:=rfW [rv,Cx] 3 f183 A8 Qcs (lZ y) y
def na (y:QD):Ps×Int×Int:=lk (if bb (gq y.1.1) (gg y).1 42 then((gg y).1.next,0,-1) else if bb (gq y.1.1) (gg y).1 43 then((gg y).1.next,1,-1) else if bb (gq y.1.1) (gg y).1 63 then((gg y).1.next,0,1) else ey (gq y.1.1) (gg y).1)
def A_ (y:QD):Prop:=(gg y).1.an=0/\(gg y).1.i<y.1.1.1.length/\(bb (gq y.1.1) (gg y).1 42\/bb (gq y.1.1) (gg y).1 43\/bb (gq y.1.1) (gg y).1 63\/bb (gq y.1.1) (gg y).1 123)
def Qct (y:A9.Y):cH D:=⟨[],[],[],[(31,⟨Unit,[0,5],λ_=>[(6,.ptr 1 0)],[],λ_=>qO y.1.1 (zz (na y).1)++[(1,.cells [Qvo 5,.dF,Qvo (na y).2.1,Qvo (na y).2.2,.bool false,Qvo 0,Qvo 1] 206 false)],2,λ_=>A_ y,λ_=>0⟩)],1,[]⟩
def Qjr (y:A9.Y):Prop:=rfW [rv,Ij] 2 f224 A9 Qct (lZ y) y
def Qjs (y:EN.Y):Prop:=rfW [zJ,sF,Il,Ii,A3,pr] 1 f254 EN (λ_=>dY ()) (lZ y) y
def Qjt (y:EO.Y):Prop:=rfW [rv,sF,NX] 0 f277 EO (λ_=>dY ()) (lZ (gd y)) y
def Ip (y:(((List Int)×(List Int))×b7)×Int):Prop:=let g:=(eZ y).1;let q1:=((g.i:Nat):Int);let n:=((g.ab:Nat):Int);let h:=(y.1.1.1,y.1.1.2);let f:=(h,b7.mk y.1.2.i 0 y.1.2.ab y.1.2.an y.1.2.wh);let j:=(iA (f,y.2)).1;let k:=λp:Prop=>aa [y.1.1.1,y.1.1.2] p;Iv ((fw f/\Ul (f,y.2))/\(lZ (f,y.2)+3)<(lZ y+4))/\aa [y.2] (aa [y.1.1.1,y.1.1.2] (aa [y.1.2.i,y.1.2.ab,y.1.2.an,y.1.2.wh] ((∃z:b7×(List (List Nd)),aa [y.2] (([(iA (f,y.2)).2]:List (List Nd))=z.2/\k (((j.i:Nat):Int)=z.1.i/\((j.ab:Nat):Int)=z.1.ab/\j.an=z.1.an/\j.wh=z.1.wh/\(Iv (Lh y z)))))/\(∀x:b7×(List (List Nd)),let l:=ay .i64 x.1.i 1;let m:=b7.mk x.1.i 0 x.1.ab x.1.an x.1.wh;let o:=bb (gq h) (nn m) 124;let c:=(h,b7.mk l 0 x.1.ab x.1.an x.1.wh);let a:=(c,y.2);let b:=(iA a).1;let d:=bM x.2 [(iA a).2];let e:Prop:=(Iv (total x.2<=100000/\x.2.length<=100000)/\aa ([4]:List Int) (aa [x.2] (bW 4 x.2=(eZ y).2/\k (x.1.i=q1/\x.1.ab=n/\x.1.an=g.an/\x.1.wh=g.wh/\True))));(Iv (Lh y x))->aj (aB x.1.an 0) (Iv (fw (h,m)/\(0:Int)<=(124:Int)/\(124:Int)<=(127:Int))/\aa ([124]:List Int) (aa [y.1.1.1,y.1.1.2] (aa [x.1.i,x.1.ab,x.1.an,x.1.wh] (aj o (Iv ((fw c/\Ul a)/\(lZ a+3)<(lZ y+4))/\aa [y.2] (aa [y.1.1.1,y.1.1.2] (aa [l,x.1.ab,x.1.an,x.1.wh] (bJ (ag d) 24/\∃z:b7×(List (List Nd)),aa [y.2] (d=z.2/\k (((b.i:Nat):Int)=z.1.i/\((b.ab:Nat):Int)=z.1.ab/\b.an=z.1.an/\b.wh=z.1.wh/\(Iv (Lh y z/\A' y z<A' y x)))))))) (e))))) (e)))))
def Um:∀y,Ip y=Qjp y:=λy=>by kernel_rfl
def Iq (y:(((List Int)×(List Int))×b7)×Int):Prop:=let h:=(iA y).1;let q1:=(iA y).2;let k:=((h.i:Nat):Int);let l:=((h.ab:Nat):Int);let d:=(y.1.1.1,y.1.1.2);let j:=λp:Prop=>aa [y.1.1.1,y.1.1.2] p;(∃z:b7×(List (List Nd)),aa [y.2] ([]=z.2/\j (y.1.2.i=z.1.i/\y.1.2.ab=z.1.ab/\y.1.2.an=z.1.an/\y.1.2.wh=z.1.wh/\(Iv (Li y z)))))/\(∀x:b7×(List (List Nd)),let m:=aw x.1.i (ag y.1.1.1);let e:=b7.mk x.1.i 0 x.1.ab x.1.an x.1.wh;let n:=!(bb (gq d) (nn e) 41);let o:=!(bb (gq d) (nn e) 124);let a:=((d,e),y.2);let b:=(j5 a).1;let f:=bM x.2 [(j5 a).2];let c:Prop:=(Iv (total x.2<=100000/\x.2.length<=100000)/\aa ([3]:List Int) (aa [x.2] (bW 3 x.2=q1/\j (x.1.i=k/\x.1.ab=l/\x.1.an=h.an/\x.1.wh=h.wh/\True))));let g:Prop:=(aa [x.1.an,x.1.i] (aa [y.1.1.1] (c)));(Iv (Li y x))->aj (aB x.1.an 0) (aj m (Iv (fw (d,e)/\(0:Int)<=(124:Int)/\(124:Int)<=(127:Int))/\aa ([124]:List Int) (aa [y.1.1.1,y.1.1.2] (aa [x.1.i,x.1.ab,x.1.an,x.1.wh] (aj o (Iv (fw (d,e)/\(0:Int)<=(41:Int)/\(41:Int)<=(127:Int))/\aa ([41]:List Int) (aa [y.1.1.1,y.1.1.2] (aa [x.1.i,x.1.ab,x.1.an,x.1.wh,x.1.an,x.1.i] (aa [y.1.1.1] (aj n (Iv ((fw (d,e)/\ltP a)/\(lZ a+2)<(lZ y+3))/\aa [y.2] (aa [y.1.1.1,y.1.1.2] (aa [x.1.i,x.1.ab,x.1.an,x.1.wh] (bJ (ag f) 24/\∃z:b7×(List (List Nd)),aa [y.2] (f=z.2/\j (((b.i:Nat):Int)=z.1.i/\((b.ab:Nat):Int)=z.1.ab/\b.an=z.1.an/\b.wh=z.1.wh/\(Iv (Li y z/\A' y z<A' y x)))))))) (c)))))) (g))))) (g)) (aa [x.1.an] (c)))
def Un:∀y,Iq y=Qjq y:=λy=>by kernel_rfl
def Ir (y:(((List Int)×(List Int))×b7)×Int):Prop:=let r:=(j5 y).1;let q1:=(j5 y).2;let c:=(na y).1;let H:=((r.i:Nat):Int);let s:=(na y).2.2;let I:=((r.ab:Nat):Int);let t:=(na y).2.1;let u:=((c.i:Nat):Int);let D:=((c.ab:Nat):Int);let f:=y.1.1.1;let g:=(f,y.1.1.2);let v:=b7.mk u 0 D c.an c.wh;let w:=(g,b7.mk y.1.2.i 0 y.1.2.ab y.1.2.an y.1.2.wh);let F:=bb (gq g) (nn v) 63;let h:=(w,y.2);let j:=(gg h).2;let a:=(gg h).1;let k:=((a.ab:Nat):Int);let b:=((a.i:Nat):Int);let G:=aG (ag f) b;let d:=gt 0 f b.toNat;let A:=bM [Nd.mk 5 [] t s true 0 1] j;let B:=bM [Nd.mk 5 [] t s false 0 1] j;let e:=(g,b7.mk b 0 k a.an a.wh);let l:=(rz e).1;let q:=λp:Prop=>aa [f,y.1.1.2] p;let m:=λp:Prop=>aa [j] (aa ([5]:List Int) p);let E:=λp:Prop=>aa ([0,1]:List Int) (aa [f,y.1.1.2] p);let C:Prop:=(D=I/\c.an=r.an/\c.wh=r.wh/\True);let n:Prop:=(false=false/\E (ay .i64 b 1=u/\k=D/\a.an=c.an/\a.wh=c.wh/\(Iv (A_ y))));let o:Prop:=(j=q1/\q (b=H/\k=I/\a.an=r.an/\a.wh=r.wh/\True));Iv ((fw w/\ltP h)/\(lZ h+1)<(lZ y+2))/\aa [y.2] (aa [f,y.1.1.2] (aa [y.1.2.i,y.1.2.ab,y.1.2.an,y.1.2.wh] (aj (!(aB a.an 0)) (aa [a.an] (o)) (aa [a.an,b] (aa [f] (aj G (o) ((aG 0 b/\aw b (ag f)/\aa [f] (aa [b,d] (aj (aB d 42) (∃z:Unit,m (0=t/\(-1)=s/\n)) (aj (aB d 43) (∃z:Unit,m (1=t/\(-1)=s/\n)) (aj (aB d 63) (∃z:Unit,m (0=t/\1=s/\n)) (aj (aB d 123) (Iv (fw e/\Uc e)/\aa [f,y.1.1.2] (aa [b,k,a.an,a.wh] (∃z:Unit,m ((rz e).2.1=t/\(rz e).2.2=s/\false=false/\E (((l.i:Nat):Int)=u/\((l.ab:Nat):Int)=D/\l.an=c.an/\l.wh=c.wh/\(Iv (A_ y))))))) (o)))))))/\(∀x:Unit,(Iv (A_ y))->Iv (fw (g,v)/\(0:Int)<=(63:Int)/\(63:Int)<=(127:Int))/\aa ([63]:List Int) (aa [f,y.1.1.2] (aa [u,D,c.an,c.wh] (aj F (bJ (ag A) 72/\A=q1/\q (ay .i64 u 1=H/\C)) (bJ (ag B) 72/\B=q1/\q (u=H/\C)))))))))))))
def Uo:∀y,Ir y=Qjr y:=λy=>by kernel_rfl
def Is (y:(((List Int)×(List Int))×b7)×Int):Prop:=let f:=(gg y).1;let q1:=(gg y).2;let s:=((f.ab:Nat):Int);let t:=((f.i:Nat):Int);let j:=y.1.1.1;let n:=ay .i64 y.1.2.i 1;let a:=gt 0 j y.1.2.i.toNat;let v:=(j,y.1.1.2);let e:=aI (gq v) y.1.2.i.toNat;let w:=([(a,a)]:List (Int×Int));let b:=(v,b7.mk n 0 y.1.2.ab y.1.2.an y.1.2.wh);let o:=(tL (b,e)).2;let k:=(yv (b,e)).1;let l:=(tL (b,e)).1;let q:=(yv (b,e)).2;let r:=gd (b,(y.2,e));let g:=qR (b,(y.2,e));let u:=λp:Prop=>aa [e] (aa [j,y.1.1.2] (aa [n,y.1.2.ab,y.1.2.an,y.1.2.wh] p));let h:=λp:Prop=>aa [j,y.1.1.2] p;let m:Prop:=(h (n=t/\y.1.2.ab=s/\y.1.2.an=f.an/\y.1.2.wh=f.wh/\True));let c:Prop:=(Iv True/\aa [w] (([xu w]:List Nd)=q1/\m));let d:Prop:=(Iv (fw b/\True)/\aa ([4,e]:List Int) (aa [j,y.1.1.2] (aa [n,y.1.2.ab,y.1.2.an,y.1.2.wh] ([]=q1/\h (n=t/\y.1.2.ab=s/\cy (aB y.1.2.an 0) 4 y.1.2.an=f.an/\cy (aB y.1.2.an 0) e y.1.2.wh=f.wh/\True)))));Iv (fw (v,b7.mk y.1.2.i 0 y.1.2.ab y.1.2.an y.1.2.wh)/\y.1.2.i<=(j.length:Int))/\aa [j,y.1.1.2] (aa [y.1.2.i,y.1.2.ab,y.1.2.an,y.1.2.wh] (aG 0 y.1.2.i/\aw y.1.2.i (ag j)/\aa [j] (aa [y.1.2.i,a] (aj (aB a 40) (Iv ((fw b/\Ul r/\yu (gq v) e)/\lZ r<(lZ y+1))/\aa [y.2,e] (aa [j,y.1.1.2] (aa [n,y.1.2.ab,y.1.2.an,y.1.2.wh] (g.2=q1/\h (((g.1.i:Nat):Int)=t/\((g.1.ab:Nat):Int)=s/\g.1.an=f.an/\g.1.wh=f.wh/\True))))) (aj (aB a 91) (Iv (fw b/\NW (b,e))/\u (Iv True/\aa [q] (([xu q]:List Nd)=q1/\h (((k.i:Nat):Int)=t/\((k.ab:Nat):Int)=s/\k.an=f.an/\k.wh=f.wh/\True)))) (aj (aB a 46) (Iv (1<=2000000)/\aa ([[(10,10)]]:List (List (Int×Int))) (Iv True/\aa [lH [(10,10)]] (([xu (lH [(10,10)])]:List Nd)=q1/\m))) (aj (aB a 94) (([Nd.mk 7 [] 0 0 false 0 0]:List Nd)=q1/\m) (aj (aB a 36) (([Nd.mk 8 [] 0 0 false 0 0]:List Nd)=q1/\m) (aj (aB a 92) (Iv (fw b/\NW (b,e))/\u (Iv True/\aa [o] (([xu o]:List Nd)=q1/\h (((l.i:Nat):Int)=t/\((l.ab:Nat):Int)=s/\l.an=f.an/\l.wh=f.wh/\True)))) (aj (aB a 42) (aj (aB a 42) (d) (c)) (aj (aB a 43) (aj (aB a 43) (d) (c)) (aj (aB a 63) (aj (aB a 63) (d) (c)) (aj (aB a 123) (aj (aB a 123) (d) (c)) (aj (aB a 125) (aj (aB a 125) (d) (c)) (aj (aB a 93) (aj (aB a 93) (d) (c)) (aj (aB a 41) (aj (aB a 41) (d) (c)) (aj (aB a 124) (aj (aB a 124) (d) (c)) (aj (aB a (-1)) (d) (c)))))))))))))))))))
def Up:∀y,Is y=Qjs y:=λy=>by kernel_rfl
def It (y:(((List Int)×(List Int))×b7)×Int×Int):Prop:=let k:=(qR y).1;let q1:=(qR y).2;let x:=((k.i:Nat):Int);let C:=((k.ab:Nat):Int);let c:=y.1.1.1;let l:=ay .i64 y.2.1 1;let K:=aG 4 y.1.2.ab;let F:=aB y.1.2.an 0;let J:=ay .i64 y.1.2.i 2;let G:=ay .i64 y.1.2.i 1;let r:=ay .i64 y.1.2.ab 1;let a:=(c,y.1.1.2);let b:=gq a;let v:=gt 0 c G.toNat;let f:=b7.mk y.1.2.i 0 y.1.2.ab y.1.2.an y.1.2.wh;let w:=bb b (nn f) 63;let g:=(a,b7.mk y.1.2.i 0 r y.1.2.an y.1.2.wh);let h:=(a,b7.mk J 0 y.1.2.ab y.1.2.an y.1.2.wh);let d:=(eZ (h,l)).1;let e:=(eZ (g,l)).1;let s:=((d.i:Nat):Int);let z:=((e.ab:Nat):Int);let A:=((d.ab:Nat):Int);let t:=((e.i:Nat):Int);let B:=bM [Nd.mk 6 [] 0 0 false r 1] (eZ (g,l)).2;let m:=b7.mk t 0 z e.an e.wh;let n:=b7.mk s 0 A d.an d.wh;let H:=bb b (nn n) 41;let I:=bb b (nn m) 41;let o:=ite (d.an=0/\H=false) (Ps.ax b (nn n) (ix b y.2.2) 4) (nn n);let q:=ite (e.an=0/\I=false) (Ps.ax b (nn m) (ix b y.2.2) 4) (nn m);let j:=λp:Prop=>aa [c,y.1.1.2] p;let u:Prop:=(cy F y.2.2 y.1.2.wh=k.wh/\True);let D:Prop:=(Iv (fw (a,f)/\True)/\aa ([4,y.2.2]:List Int) (aa [c,y.1.1.2] (aa [y.1.2.i,y.1.2.ab,y.1.2.an,y.1.2.wh] ([]=q1/\j (y.1.2.i=x/\y.1.2.ab=C/\cy F 4 y.1.2.an=k.an/\u)))));let E:Prop:=(aj (aG 20 y.2.1) (Iv (fw (a,f)/\True)/\aa ([10,y.2.2]:List Int) (aa [c,y.1.1.2] (aa [y.1.2.i,y.1.2.ab,y.1.2.an,y.1.2.wh] ([]=q1/\j (y.1.2.i=x/\y.1.2.ab=C/\cy F 10 y.1.2.an=k.an/\u))))) (aj w (Iv ((fw h/\Ul (h,l))/\(lZ (h,l)+4)<(lZ (gd y)+0))/\aa [l] (aa [c,y.1.1.2] (aa [J,y.1.2.ab,y.1.2.an,y.1.2.wh] (Iv (fw (a,n)/\s<=90000/\yu b y.2.2)/\aa [y.2.2] (aa [c,y.1.1.2] (aa [s,A,d.an,d.wh] ((eZ (h,l)).2=q1/\j (((o.i+1:Nat):Int)=x/\((o.ab:Nat):Int)=C/\o.an=k.an/\o.wh=k.wh/\True)))))))) (aj K (Iv (fw (a,f)/\True)/\aa ([13,y.2.2]:List Int) (aa [c,y.1.1.2] (aa [y.1.2.i,y.1.2.ab,y.1.2.an,y.1.2.wh] ([]=q1/\j (y.1.2.i=x/\y.1.2.ab=C/\cy F 13 y.1.2.an=k.an/\u))))) (Iv ((fw g/\Ul (g,l))/\(lZ (g,l)+4)<(lZ (gd y)+0))/\aa [l] (aa [c,y.1.1.2] (aa [y.1.2.i,r,y.1.2.an,y.1.2.wh] (Iv (fw (a,m)/\t<=90000/\yu b y.2.2)/\aa [y.2.2] (aa [c,y.1.1.2] (aa [t,z,e.an,e.wh] (bJ (ag B) 72/\B=q1/\j (((q.i+1:Nat):Int)=x/\((q.ab:Nat):Int)=C/\q.an=k.an/\q.wh=k.wh/\True)))))))))));Iv (fw (a,f)/\(0:Int)<=(63:Int)/\(63:Int)<=(127:Int))/\aa ([63]:List Int) (aa [c,y.1.1.2] (aa [y.1.2.i,y.1.2.ab,y.1.2.an,y.1.2.wh] (aj w (aj (aG (ag c) G) (aa [y.1.2.i] (aa [c] (D))) (aG 0 G/\aw G (ag c)/\aa [y.1.2.i] (aa [c,c] (aa [y.1.2.i,v] (aj (!(aB v 58)) (D) (E)))))) (E))))
def Uq:∀y,It y=Qjt y:=λy=>by kernel_rfl
def nz0 (h:s.ak=0):nn ⟨s.i,0,s.ab,s.an,s.wh⟩=s:=by rw[ez0,<-h]
def CB (y:QD):vj (gq y.1.1) (20-y.2.toNat) (zk y):=Cz _ _ _
theorem EP {d n:Nat} (h:s.an≠0\/bb G s 124=false):dP G A d n s l=(s,l):=by
 cases n with
 | zero=>rfl
 | succ n=>
  grind [dP]
theorem ER {d n:Nat} (h:¬(s.an=0/\s.i<G.length/\bb G s 124=false/\bb G s 41=false)):ej G A d n s l=(s,l):=by
 cases n with
 | zero=>rfl
 | succ n=>unfold ej;rw[Zaa h]
theorem Qjv (y:QD) (L:yw.pre y):Ip y:=by
 have⟨⟨p,s⟩,d⟩:=y;obtain⟨h0,z,h1⟩:fw (p,s)/\(0<=d/\d<=20)/\s.i<=p.1.length:=L;have⟨i,g,es,f⟩:=h0.out;have⟨_,_,_,e,w⟩:=s;cases es;obtain⟨d,rfl⟩:=Zau z.1;simp only at h1;have hl:=f.hl;have hlen:=f.len;have q:=λ(j k:Nat) (e w:Int) (E:j<=100000) (hk:k<=4)=>(⟨f.q,E,hk,hl,hlen⟩:QF p j k).ok e w
 have A:=CB ((p,⟨i,0,g,e,w⟩),↑d);obtain⟨B,H⟩:∃B,zk ((p,⟨i,0,g,e,w⟩),↑d)=B:=⟨_,rfl⟩;rw[H] at A;have A:vj (gq p) (20-d) B:=A;have b:∀N,zk ((p,N),↑d)=B:=λ_=>H
 have G:∀j k e w,iA ((p,⟨(j:Nat),0,(k:Nat),e,w⟩),↑d)=oG (gq p) B d ⟨j,0,k,e,w⟩:=λj k e w=>by unfold iA;rw[aC,b];rfl
 have⟨c1,c2⟩:=wc A d (s:=⟨i,0,g,e,w⟩) (by grind) f.g;obtain⟨c,D⟩:∃c,oG (gq p) B d ⟨i,0,g,e,w⟩=c:=⟨_,rfl⟩;rw[D] at c1 c2;have R:eZ ((p,⟨i,0,g,e,w⟩),↑d)=((dP (gq p) B d ((gq p).length+2-c.1.i) c.1 [c.2]).1,bW 4 (dP (gq p) B d ((gq p).length+2-c.1.i) c.1 [c.2]).2):=by
  unfold eZ;rw[aC,b,<-D];rfl
 have cl:=c1.len;have co:=c1.op;unfold Ip;simp only[bL,bC,Zad,Zan,Zao,Io,au,aT,br,dq,G,D];refine⟨⟨⟨q i g e w ω f.g,⟨z.1,z.2⟩,h1⟩,ω⟩,⟨(⟨c.1.i,0,c.1.ab,c.1.an,c.1.wh⟩,[c.2]),rfl,rfl,rfl,rfl,rfl,⟨q _ _ _ _ ω c1.gm,c1.le,by grind⟩,by simp,?_,(gq p).length+2-c.1.i,?_,?_,?_⟩,λx K=>?_⟩
 ·have Q:total [c.2]=c.2.length:=by simp[total]
  have c3:c.2.length<=3*(c.1.i-i)+1:=c2;show total [c.2]+2*1<=3*(c.1.i-i)+3
  omega
 ·grind
 ·grind
 ·grind
 ·have⟨⟨U,V,T,l,v⟩,r⟩:=x;have⟨⟨M,S,I⟩,i3,i4,n,i5,i6,i7⟩:=K;have⟨a,o,es,C⟩:=M.out;cases es;have I:a<=p.1.length+30:=I;have i4:total r+2*r.length<=3*(a-i)+3:=i4;have i5:p.1.length+2<=n+a:=i5;rw[b] at i6 i7;have i6:(dP (gq p) B d n ⟨a,0,o,l,v⟩ r).1=(eZ ((p,⟨i,0,g,e,w⟩),↑d)).1:=i6;have i7:bW 4 (dP (gq p) B d n ⟨a,0,o,l,v⟩ r).2=(eZ ((p,⟨i,0,g,e,w⟩),↑d)).2:=i7;have ex:nn ⟨↑a,0,↑o,l,v⟩=⟨a,0,o,l,v⟩:=rfl;simp only[ex,bK (n:=a) ω,G];have stop:(l≠0\/bb (gq p) ⟨a,0,o,l,v⟩ 124=false)->(total r<=100000/\r.length<=100000)/\bW 4 r=(eZ ((p,⟨i,0,g,e,w⟩),↑d)).2/\(a:Int)=((eZ ((p,⟨i,0,g,e,w⟩),↑d)).1.i:Nat)/\(o:Int)=((eZ ((p,⟨i,0,g,e,w⟩),↑d)).1.ab:Nat)/\l=(eZ ((p,⟨i,0,g,e,w⟩),↑d)).1.an/\v=(eZ ((p,⟨i,0,g,e,w⟩),↑d)).1.wh:=λh=>by
   grind [EP]
  refine⟨λk1=>⟨⟨q a o l v C.i C.g,by decide,by decide⟩,λk2=>?_,λk2=>stop (.inr k2)⟩,λk1=>stop (.inl k1)⟩;have E:=da k2;simp only at E;have⟨b1,J⟩:=wc A d (s:=⟨a+1,0,o,l,v⟩) (by assumption) C.g;obtain⟨t,ht⟩:∃t,oG (gq p) B d ⟨a+1,0,o,l,v⟩=t:=⟨_,rfl⟩;rw[ht] at b1 J ⊢;have O:=b1.len;have P:a+1<=t.1.i:=b1.le;have F:=b1.op;obtain⟨n,rfl⟩:∃m,n=m+1:=⟨n-1,ω⟩;have u:dP (gq p) B d (n+1) ⟨a,0,o,l,v⟩ r=dP (gq p) B d n t.1 (r++[t.2]):=by
   conv=>lhs;unfold dP
   rw[Zac ⟨k1,k2⟩,<-ht];rfl
  rw[u] at i6 i7;refine⟨⟨⟨q _ _ _ _ ω C.g,⟨z.1,z.2⟩,by grind⟩,by grind [lZ]⟩,by simp;omega,(⟨t.1.i,0,t.1.ab,t.1.an,t.1.wh⟩,r++[t.2]),rfl,rfl,rfl,rfl,rfl,⟨⟨q _ _ _ _ ω b1.gm,by grind,by grind⟩,by simp,?_,n,by grind,?_,?_⟩,?_⟩
  ·grind [gy]
  ·rw[nz0 F,b];exact i6
  ·rw[nz0 F,b];exact i7
  ·show p.1.length+30-(t.1.i:Int).toNat<p.1.length+30-(a:Int).toNat
   omega
theorem Qjw (y:QD) (L:A8.pre y):Iq y:=by
 have⟨⟨p,s⟩,d⟩:=y;obtain⟨h0,C,h1⟩:fw (p,s)/\(0<=d/\d<=20)/\s.i<=p.1.length:=L;have⟨i,g,es,f⟩:=h0.out;have⟨_,_,_,e,w⟩:=s;cases es;obtain⟨d,rfl⟩:=Zau C.1;simp only at h1;have hl:=f.hl;have hlen:=f.len;have q:=λ(j k:Nat) (e w:Int) (J:j<=100000) (hk:k<=4)=>(⟨f.q,J,hk,hl,hlen⟩:QF p j k).ok e w
 have A:=CB ((p,⟨i,0,g,e,w⟩),↑d);obtain⟨B,H⟩:∃B,zk ((p,⟨i,0,g,e,w⟩),↑d)=B:=⟨_,rfl⟩;rw[H] at A;have A:vj (gq p) (20-d) B:=A;have b:∀N,zk ((p,N),↑d)=B:=λ_=>H
 have G:∀j k e w,j5 ((p,⟨(j:Nat),0,(k:Nat),e,w⟩),↑d)=si (gq p) B d ⟨j,0,k,e,w⟩:=λj k e w=>by unfold j5;rw[aC,b];rfl
 have F:iA ((p,⟨i,0,g,e,w⟩),↑d)=((ej (gq p) B d ((gq p).length+2-i) ⟨i,0,g,e,w⟩ []).1,bW 3 (ej (gq p) B d ((gq p).length+2-i) ⟨i,0,g,e,w⟩ []).2):=by
  unfold iA;rw[aC,b];rfl
 unfold Iq;simp only[bL,bC,Zad,Zan,Zao,Io,au,aT,br,dq,G];refine⟨⟨(⟨i,0,g,e,w⟩,[]),rfl,rfl,rfl,rfl,rfl,⟨q _ _ _ _ ω f.g,Zah _,by show i<=p.1.length+30;omega⟩,by simp,by simp[total],(gq p).length+2-i,?_,?_,?_⟩,λx K=>?_⟩
 ·show p.1.length+2<=(gq p).length+2-i+i;omega
 ·rw[b,F];rfl
 ·rw[b,F];rfl
 ·have⟨⟨S,T,R,c,o⟩,r⟩:=x;have⟨⟨M,P,Q⟩,i3,i4,n,i5,i6,i7⟩:=K;have⟨a,l,es,z⟩:=M.out;cases es;have i3:r.length<=a-i:=i3;have i5:p.1.length+2<=n+a:=i5;rw[b] at i6 i7;have i6:(ej (gq p) B d n ⟨a,0,l,c,o⟩ r).1=(iA ((p,⟨i,0,g,e,w⟩),↑d)).1:=i6;have i7:bW 3 (ej (gq p) B d n ⟨a,0,l,c,o⟩ r).2=(iA ((p,⟨i,0,g,e,w⟩),↑d)).2:=i7;have ex:nn ⟨↑a,0,↑l,c,o⟩=⟨a,0,l,c,o⟩:=rfl;simp only[G];have stop:¬(c=0/\a<(gq p).length/\bb (gq p) ⟨a,0,l,c,o⟩ 124=false/\bb (gq p) ⟨a,0,l,c,o⟩ 41=false)->(total r<=100000/\r.length<=100000)/\bW 3 r=(iA ((p,⟨i,0,g,e,w⟩),↑d)).2/\(a:Int)=((iA ((p,⟨i,0,g,e,w⟩),↑d)).1.i:Nat)/\(l:Int)=((iA ((p,⟨i,0,g,e,w⟩),↑d)).1.ab:Nat)/\c=(iA ((p,⟨i,0,g,e,w⟩),↑d)).1.an/\o=(iA ((p,⟨i,0,g,e,w⟩),↑d)).1.wh:=λh=>by
   grind [ER]
  have D:=q a l c o z.i z.g;refine⟨λk1=>⟨λk2=>⟨⟨D,by decide,by decide⟩,λk3=>⟨⟨D,by decide,by decide⟩,λk4=>?_,λk4=>stop λh=>by grind⟩,λk3=>stop λh=>by grind⟩,λk2=>stop λh=>ω⟩,λk1=>stop λh=>k1 h.1⟩;have⟨b1,v,I⟩:=Lc A d (t:=⟨a,0,l,c,o⟩) (by grind) z.g;obtain⟨t,ht⟩:∃t,si (gq p) B d ⟨a,0,l,c,o⟩=t:=⟨_,rfl⟩;rw[ht] at b1 v I ⊢;have O:=b1.len;have E:=b1.op;have v:a<t.1.i:=v;obtain⟨n,rfl⟩:∃m,n=m+1:=⟨n-1,ω⟩;have u:ej (gq p) B d (n+1) ⟨a,0,l,c,o⟩ r=ej (gq p) B d n t.1 (r++[t.2]):=by
   grind [ej]
  rw[u] at i6 i7;refine⟨⟨⟨D,⟨C.1,C.2⟩,by assumption⟩,by grind [lZ]⟩,by simp;omega,(⟨t.1.i,0,t.1.ab,t.1.an,t.1.wh⟩,r++[t.2]),rfl,rfl,rfl,rfl,rfl,⟨⟨q _ _ _ _ ω b1.gm,by grind,by grind⟩,?_,?_,n,by grind,?_,?_⟩,?_⟩
  ·grind
  ·grind [gy]
  ·rw[nz0 E,b];exact i6
  ·rw[nz0 E,b];exact i7
  ·show p.1.length+30-(t.1.i:Int).toNat<p.1.length+30-(a:Int).toNat
   omega
theorem Qe8 (h:s.i<G.length) (a:s.ab<=4):RB G 1 s (ey G s).1:=(A4 (RB.refl (k:=0) ω a) h).1
theorem Qjx (y:QD) (S:A9.pre y):Ir y:=by
 have⟨⟨p,s⟩,d⟩:=y;obtain⟨h0,E,h1⟩:fw (p,s)/\(0<=d/\d<=20)/\s.i<p.1.length:=S;have⟨i,g,es,f⟩:=h0.out;have⟨_,_,_,e,w⟩:=s;cases es;obtain⟨d,rfl⟩:=Zau E.1;have hl:=f.hl;have hlen:=f.len;have q:=λ(j k:Nat) (e w:Int) (F:j<=100000) (hk:k<=4)=>(⟨f.q,F,hk,hl,hlen⟩:QF p j k).ok e w
 have A:=CB ((p,⟨i,0,g,e,w⟩),↑d);obtain⟨B,I⟩:∃B,zk ((p,⟨i,0,g,e,w⟩),↑d)=B:=⟨_,rfl⟩;rw[I] at A;have m:∀U,zk ((p,U),↑d)=B:=λ_=>I
 have u:gg ((p,⟨i,0,g,e,w⟩),↑d)=ga (gq p) B d ⟨i,0,g,e,w⟩:=by unfold gg;rw[aC,m];rfl
 have⟨b1,L,G⟩:=EK A d (t:=⟨i,0,g,e,w⟩) (by grind) f.g;obtain⟨t,ht⟩:∃t,ga (gq p) B d ⟨i,0,g,e,w⟩=t:=⟨_,rfl⟩;rw[ht] at b1 L G u;have M:=b1.len;have C:=b1.gm;have N:=b1.op;have O:=G;have⟨⟨a,to,c,b,l⟩,x⟩:=t;subst N;simp only at M C O;have Q:na ((p,⟨i,0,g,e,w⟩),↑d)=if bb (gq p) ⟨a,0,c,b,l⟩ 42 then(⟨a+1,0,c,b,l⟩,0,-1) else if bb (gq p) ⟨a,0,c,b,l⟩ 43 then(⟨a+1,0,c,b,l⟩,1,-1) else if bb (gq p) ⟨a,0,c,b,l⟩ 63 then(⟨a+1,0,c,b,l⟩,0,1) else ey (gq p) ⟨a,0,c,b,l⟩:=by
  unfold na;rw[aC,u];rfl
 have P:A_ ((p,⟨i,0,g,e,w⟩),↑d)=(b=0/\a<p.1.length/\(bb (gq p) ⟨a,0,c,b,l⟩ 42\/bb (gq p) ⟨a,0,c,b,l⟩ 43\/bb (gq p) ⟨a,0,c,b,l⟩ 63\/bb (gq p) ⟨a,0,c,b,l⟩ 123)):=by
  unfold A_;rw[u]
 have H:j5 ((p,⟨i,0,g,e,w⟩),↑d)=if b≠0\/(gq p).length<=a then(⟨a,0,c,b,l⟩,x) else if bb (gq p) ⟨a,0,c,b,l⟩ 42 then jG (gq p) ⟨a+1,0,c,b,l⟩ 0 (-1) x else if bb (gq p) ⟨a,0,c,b,l⟩ 43 then jG (gq p) ⟨a+1,0,c,b,l⟩ 1 (-1) x else if bb (gq p) ⟨a,0,c,b,l⟩ 63 then jG (gq p) ⟨a+1,0,c,b,l⟩ 0 1 x else if bb (gq p) ⟨a,0,c,b,l⟩ 123 then jG (gq p) (ey (gq p) ⟨a,0,c,b,l⟩).1 (ey (gq p) ⟨a,0,c,b,l⟩).2.1 (ey (gq p) ⟨a,0,c,b,l⟩).2.2 x else(⟨a,0,c,b,l⟩,x):=by
  unfold j5;rw[aC,m];unfold si;rw[show ga (gq p) B ((d:Int).toNat) (nn ⟨i,0,g,e,w⟩)=(⟨a,0,c,b,l⟩,x) from ht];rfl
 have F:a<p.1.length->b=0->(bb (gq p) ⟨a,0,c,b,l⟩ 42\/bb (gq p) ⟨a,0,c,b,l⟩ 43\/bb (gq p) ⟨a,0,c,b,l⟩ 63\/bb (gq p) ⟨a,0,c,b,l⟩ 123)->j5 ((p,⟨i,0,g,e,w⟩),↑d)=jG (gq p) (na ((p,⟨i,0,g,e,w⟩),↑d)).1 (na ((p,⟨i,0,g,e,w⟩),↑d)).2.1 (na ((p,⟨i,0,g,e,w⟩),↑d)).2.2 x/\RB (gq p) 1 ⟨a,0,c,b,l⟩ (na ((p,⟨i,0,g,e,w⟩),↑d)).1:=λh1 W X=>by
  have nx:RB (gq p) 1 ⟨a,0,c,b,l⟩ ⟨a+1,0,c,b,l⟩:=⟨by grind,by grind,rfl,Zah _,C⟩;grind [Qe8]
 have R:rz (p,⟨a,0,c,b,l⟩)=ey (gq p) ⟨a,0,c,b,l⟩:=by unfold rz;rw[aC];rfl
 unfold Ir;simp only[bL,bC,Zad,Zan,Zao,Io,au,aT,br,dq,ZaY,ZaZ,u,R,P,bK (n:=a) ω];have same:j5 ((p,⟨i,0,g,e,w⟩),↑d)=(⟨a,0,c,b,l⟩,x)->x=(j5 ((p,⟨i,0,g,e,w⟩),↑d)).2/\(a:Int)=((j5 ((p,⟨i,0,g,e,w⟩),↑d)).1.i:Nat)/\(c:Int)=((j5 ((p,⟨i,0,g,e,w⟩),↑d)).1.ab:Nat)/\b=(j5 ((p,⟨i,0,g,e,w⟩),↑d)).1.an/\l=(j5 ((p,⟨i,0,g,e,w⟩),↑d)).1.wh:=λh=>by grind
 refine⟨⟨⟨q i g e w f.i f.g,⟨E.1,E.2⟩,h1⟩,ω⟩,λk1=>same (H.trans (Zac (.inl k1))),λk1=>⟨λk2=>same (H.trans (Zac (.inr ω))),λk2=>⟨⟨ZaF _,k2,?_⟩,λD=>?_⟩⟩⟩
 ·have o:a<p.1.length:=ω;have rune:∀r:Int,0<=r->r<128->(p.1.getD a 0=r↔bb (gq p) ⟨a,0,c,b,l⟩ r):=λr Z r1=>by
   rw[Ih r (show a<(gq p).length by omega),ZaP];show _↔aK (gq p) a=r
   rcases f.q.rune (i:=a) o with⟨_,h⟩ | ⟨_,h,Y⟩
   ·rw[h]
   ·omega
  refine⟨λv=>?_,λv=>⟨λz=>?_,λz=>⟨λv3=>?_,λv3=>⟨λK=>?_,λK=>?_⟩⟩⟩⟩
  ·grind
  ·grind
  ·grind
  ·have v:=λh=>v ((rune 42 (by decide) (by decide)).2 h)
   have z:=λh=>z ((rune 43 (by decide) (by decide)).2 h)
   have v3:=λh=>v3 ((rune 63 (by decide) (by decide)).2 h)
   rw[Q,Zaa v,Zaa z,Zaa v3];exact⟨⟨(q a c b l ω C),k2⟩,rfl,rfl,rfl,rfl,rfl,rfl,k1,o,.inr (.inr (.inr ((rune 123 (by decide) (by decide)).1 K)))⟩
  ·grind
 ·have⟨V,z2⟩:=F D.2.1 D.1 D.2.2;rw[V];generalize na ((p,⟨i,0,g,e,w⟩),↑d)=J at*
  have z3:=z2.len;rw[nz0 z2.op];have fit:∀n:Nd,((([n]++x).length:Nat):Int)*(72:Nat)<=140737488355328:=λn=>by grind
  have T:bb (gq p) J.1 63->ay .i64 ↑J.1.i 1=((J.1.i+1:Nat):Int):=λ_=>bK ω
  unfold jG;refine⟨⟨q _ _ _ _ ω z2.gm,by decide,by decide⟩,λk=>?_,λk=>?_⟩
  ·rw[T k,rp k,k];exact⟨fit _,rfl,rfl,rfl,rfl,rfl⟩
  ·rw[rq k,k];exact⟨fit _,rfl,rfl,rfl,rfl,rfl⟩
theorem Qjy (y:QD) (A:EN.pre y):Is y:=by
 have⟨⟨p,s⟩,d⟩:=y;obtain⟨h0,l,h1⟩:fw (p,s)/\(0<=d/\d<=20)/\s.i<p.1.length:=A;have⟨i,g,es,f⟩:=h0.out;have⟨_,_,_,e,w⟩:=s;cases es;obtain⟨d,rfl⟩:=Zau l.1;simp only at h1;have hl:=f.hl;have hlen:=f.len;have q:=λ(j k:Nat) (e w:Int) (z:j<=100000) (hk:k<=4)=>(⟨f.q,z,hk,hl,hlen⟩:QF p j k).ok e w
 obtain⟨B,x⟩:∃B,zk ((p,⟨i,0,g,e,w⟩),↑d)=B:=⟨_,rfl⟩;have c:∀D,zk ((p,D),↑d)=B:=λ_=>x
 have b:ix (gq p) (aI (gq p) i)=i:=EL f.q.n ω;have u:qR ((p,⟨((i+1:Nat):Int),0,g,e,w⟩),↑d,aI (gq p) i)=jh (gq p) B d ⟨i+1,0,g,e,w⟩ i:=by
  unfold qR;rw[aC,b];show jh (gq p) (zk ((p,_),↑d)) _ _ _=_
  rw[c];rfl
 have v:yv ((p,⟨((i+1:Nat):Int),0,g,e,w⟩),aI (gq p) i)=zy (gq p) ⟨i+1,0,g,e,w⟩ i:=by
  unfold yv;rw[aC,b];rfl
 have t:tL ((p,⟨((i+1:Nat):Int),0,g,e,w⟩),aI (gq p) i)=sf (gq p) ⟨i+1,0,g,e,w⟩ i:=by
  unfold tL;rw[b];rfl
 have a:gg ((p,⟨i,0,g,e,w⟩),↑d)=ga (gq p) B d ⟨i,0,g,e,w⟩:=by unfold gg;rw[aC,c];rfl
 have C:=q (i+1) g e w ω f.g;unfold Is;simp only[bL,bC,Zad,Io,au,dq,bK (n:=i) ω,u,v,t];have E:NW ((p,⟨((i+1:Nat):Int),0,g,e,w⟩),aI (gq p) i):=⟨by assumption,i,by grind,rfl⟩;refine⟨⟨(q i g e w ω f.g),ω⟩,ZaF _,h1,?_⟩;have G:=EM (gq p) (i+1) g i e w 4 _ rfl;rcases f.q.rune (i:=i) ω with⟨o,h⟩ | ⟨o,h,_⟩
 ·have F:=f.q.p0 i;rw[h];unfold ga at a;rw[Zaa (by grind)] at a;generalize aK (gq p) i=r at*
  generalize gg ((p,⟨i,0,g,e,w⟩),↑d)=at_ at*
  have nx:Ps.next ⟨i,0,g,e,w⟩=⟨i+1,0,g,e,w⟩:=rfl;refine⟨λk1=>?_,λk1=>⟨λk2=>?_,λk2=>⟨λk3=>?_,λk3=>⟨λk4=>?_,λk4=>⟨λk5=>?_,λk5=>⟨λk6=>?_,λk6=>?_⟩⟩⟩⟩⟩⟩
  ·rw[Zac k1] at a;rw[a];exact⟨⟨⟨C,⟨⟨l.1,l.2⟩,by assumption⟩,i,ω,rfl⟩,by show lZ _<lZ _+1;unfold lZ gd;simp only;omega⟩,rfl,rfl,rfl,rfl,rfl⟩
  ·grind
  ·grind
  ·rw[Zaa k1,Zaa k2,Zaa k3,Zac k4] at a;rw[a];exact⟨rfl,rfl,rfl,rfl,rfl⟩
  ·rw[Zaa k1,Zaa k2,Zaa k3,Zaa k4,Zac k5] at a;rw[a];exact⟨rfl,rfl,rfl,rfl,rfl⟩
  ·grind
  ·have W:(r=42\/r=43\/r=63\/r=123\/r=125\/r=93\/r=41\/r=124)->fw (p,⟨((i+1:Nat):Int),0,g,e,w⟩)/\[]=at_.2/\((i+1:Nat):Int)=↑at_.1.i/\(g:Int)=↑at_.1.ab/\cy (aB e 0) 4 e=at_.1.an/\cy (aB e 0) (aI (gq p) i) w=at_.1.wh:=λh=>by
    grind
   have N:¬(r=42\/r=43\/r=63\/r=123\/r=125\/r=93\/r=41\/r=124)->[xu [(r,r)]]=at_.2/\((i+1:Nat):Int)=↑at_.1.i/\(g:Int)=↑at_.1.ab/\e=at_.1.an/\w=at_.1.wh:=λh=>by
    grind
   refine⟨λm=>⟨λ_=>W ω,λn=>absurd m n⟩,λm1=>⟨λm=>⟨λ_=>W ω,λn=>absurd m n⟩,λm2=>⟨λm=>⟨λ_=>W ω,λn=>absurd m n⟩,λm3=>⟨λm=>⟨λ_=>W ω,λn=>absurd m n⟩,λm4=>⟨λm=>⟨λ_=>W ω,λn=>absurd m n⟩,λm5=>⟨λm=>⟨λ_=>W ω,λn=>absurd m n⟩,λm6=>⟨λm=>⟨λ_=>W ω,λn=>absurd m n⟩,λm7=>⟨λm=>⟨λ_=>W ω,λn=>absurd m n⟩,λm8=>⟨λm=>ω,λ_=>N ω⟩⟩⟩⟩⟩⟩⟩⟩⟩
 ·rw[h];have a:gg ((p,⟨i,0,g,e,w⟩),↑d)=(Ps.ax (gq p) ⟨i+1,0,g,e,w⟩ i 4,[]):=by
   rw[a];unfold ga;rw[Zac (o)];rfl
  grind
theorem Qjz (y:QG) (O:EO.pre y):It y:=by
  have⟨⟨p,s⟩,d,a0⟩:=y;obtain⟨h0,⟨L,h1⟩,r⟩:fw (p,s)/\((0<=d/\d<=20)/\s.i<=p.1.length)/\yu (gq p) a0:=O;have⟨i,g,es,f⟩:=h0.out;have⟨_,_,_,e,w⟩:=s;cases es;obtain⟨d,rfl⟩:=Zau L.1;simp only at h1;have I:=Ld r;have hl:=f.hl;have hlen:=f.len;have q:=λ(j k:Nat) (e w:Int) (N:j<=100000) (hk:k<=4)=>(⟨f.q,N,hk,hl,hlen⟩:QF p j k).ok e w
  obtain⟨B,o⟩:∃B,zk ((p,⟨i,0,g,e,w⟩),↑d)=B:=⟨_,rfl⟩;have H:qR ((p,⟨i,0,g,e,w⟩),↑d,a0)=jh (gq p) B d ⟨i,0,g,e,w⟩ (ix (gq p) a0):=by
    unfold qR;rw[aC];show jh (gq p) (zk ((p,⟨i,0,g,e,w⟩),↑d)) _ _ _=_
    rw[o];rfl
  have E:d<20->∀j k,eZ ((p,⟨(j:Nat),0,(k:Nat),e,w⟩),((d+1:Nat):Int))=B ⟨j,0,k,e,w⟩:=λM j k=>by
    rw[<-o];unfold eZ zk;rw[aC];simp only[Zad];rw[show 20-d=(20-(d+1))+1 by omega];rfl
  have A:vj (gq p) (20-d) B:=by
    have:=CB ((p,⟨i,0,g,e,w⟩),↑d);rw[o] at this;exact this
  unfold It;simp only[bL,bC,Zad,Zan,Zao,Io,au,aT,br,dq,ez0,Zbn,bK (n:=i) ω,bK (n:=d) ω,bK (n:=g) (by have:=f.g;omega)];have i2:ay .i64 ↑i 2=((i+2:Nat):Int):=by grind
  rw[i2];generalize W:qR ((p,⟨i,0,g,e,w⟩),↑d,a0)=R at*
  obtain⟨F,u⟩:∃F,ix (gq p) a0=F:=⟨_,rfl⟩;rw[u] at I H ⊢;have Z:=λer=>EM (gq p) i g F e w er a0 I.symm
  have X:Ps.next ⟨i,0,g,e,w⟩=⟨i+1,0,g,e,w⟩:=rfl;have Y:Ps.next (Ps.next ⟨i,0,g,e,w⟩)=⟨i+2,0,g,e,w⟩:=rfl;have bad:bb (gq p) ⟨i,0,g,e,w⟩ 63->bb (gq p) ⟨i+1,0,g,e,w⟩ 58=false->fw (p,⟨i,0,g,e,w⟩)/\[]=R.2/\(i:Int)=↑R.1.i/\(g:Int)=↑R.1.ab/\cy (aB e 0) 4 e=R.1.an/\cy (aB e 0) a0 w=R.1.wh:=λk1 k2=>by
    have:R=(Ps.ax (gq p) ⟨i,0,g,e,w⟩ F 4,[]):=by rw[H];exact Zac ⟨k1,k2⟩
    grind
  have main:(bb (gq p) ⟨i,0,g,e,w⟩ 63->bb (gq p) ⟨i+1,0,g,e,w⟩ 58)->R=(if 20<=d then(Ps.ax (gq p) ⟨i,0,g,e,w⟩ F 10,[]) else if bb (gq p) ⟨i,0,g,e,w⟩ 63=true then(fe (gq p) (B ⟨i+2,0,g,e,w⟩).1 F,(B ⟨i+2,0,g,e,w⟩).2) else if 4<=g then(Ps.ax (gq p) ⟨i,0,g,e,w⟩ F 13,[]) else(fe (gq p) (B ⟨i,0,g+1,e,w⟩).1 F,{ nd 6 with cap:=((g+1:Nat):Int),ae:=1 }::(B ⟨i,0,g+1,e,w⟩).2)):=λc=>by
    grind [jh]
  have tail:(bb (gq p) ⟨i,0,g,e,w⟩ 63->bb (gq p) ⟨i+1,0,g,e,w⟩ 58)->_:=λc=>by
    have m:=main c;refine(show((20:Int)<=d->fw (p,⟨i,0,g,e,w⟩)/\[]=R.2/\(i:Int)=↑R.1.i/\(g:Int)=↑R.1.ab/\cy (aB e 0) 10 e=R.1.an/\cy (aB e 0) a0 w=R.1.wh)/\
      ((d:Int)<20->(bb (gq p) ⟨i,0,g,e,w⟩ 63->((fw (p,⟨((i+2:Nat):Int),0,g,e,w⟩)/\Ul ((p,⟨((i+2:Nat):Int),0,g,e,w⟩),((d+1:Nat):Int)))/\lZ ((p,⟨((i+2:Nat):Int),0,g,e,w⟩),((d+1:Nat):Int))+4<lZ (gd ((p,⟨i,0,g,e,w⟩),↑d,a0)))/\
        (∀t,t=eZ ((p,⟨((i+2:Nat):Int),0,g,e,w⟩),((d+1:Nat):Int))->t.1.ak=0/\fw (p,⟨t.1.i,0,t.1.ab,t.1.an,t.1.wh⟩)/\(t.1.i:Int)<=90000/\t.2=R.2/\R.1=fe (gq p) t.1 F))/\
       (bb (gq p) ⟨i,0,g,e,w⟩ 63=false->((4:Int)<=g->fw (p,⟨i,0,g,e,w⟩)/\[]=R.2/\(i:Int)=↑R.1.i/\(g:Int)=↑R.1.ab/\cy (aB e 0) 13 e=R.1.an/\cy (aB e 0) a0 w=R.1.wh)/\
        ((g:Int)<4->((fw (p,⟨i,0,((g+1:Nat):Int),e,w⟩)/\Ul ((p,⟨i,0,((g+1:Nat):Int),e,w⟩),((d+1:Nat):Int)))/\lZ ((p,⟨i,0,((g+1:Nat):Int),e,w⟩),((d+1:Nat):Int))+4<lZ (gd ((p,⟨i,0,g,e,w⟩),↑d,a0)))/\
        (∀t,t=eZ ((p,⟨i,0,((g+1:Nat):Int),e,w⟩),((d+1:Nat):Int))->t.1.ak=0/\fw (p,⟨t.1.i,0,t.1.ab,t.1.an,t.1.wh⟩)/\(t.1.i:Int)<=90000/\t.2.length<=10000/\{ nd 6 with cap:=((g+1:Nat):Int),ae:=1 }::t.2=R.2/\R.1=fe (gq p) t.1 F)))) from⟨λk=>?_,λk=>⟨λk1=>?_,λk1=>⟨λk2=>?_,λk2=>?_⟩⟩⟩)
    · grind
    · rw[Zaa ω,Zac k1] at m;have l:=da (c k1);refine⟨⟨⟨q (i+2) g e w ω f.g,⟨ZaF _,by assumption⟩,by grind⟩,by show lZ _+4<lZ _;unfold lZ gd;simp only;omega⟩,λt ht=>?_⟩;rw[E ω] at ht;have⟨a,a2⟩:=A ⟨i+2,0,g,e,w⟩ (by assumption) f.g;rw[<-ht] at a a2 m;have a3:=a.len;exact⟨a.op,q _ _ _ _ ω a.gm,ω,by rw[m],by rw[m]⟩
    · grind
    · rw[Zaa ω,Zaa (by grind),Zaa ω] at m;refine⟨⟨⟨q i (g+1) e w ω ω,⟨ZaF _,by assumption⟩,h1⟩,by show lZ _+4<lZ _;unfold lZ gd;simp only;omega⟩,λt ht=>?_⟩;rw[E ω] at ht;have⟨a,a2⟩:=A ⟨i,0,g+1,e,w⟩ (by grind) (by grind);rw[<-ht] at a a2 m;have a3:=a.len;exact⟨a.op,q _ _ _ _ ω a.gm,ω,ω,by rw[m],by rw[m]⟩
  generalize eZ ((p,⟨((i+2:Nat):Int),0,g,e,w⟩),((d+1:Nat):Int))=U at tail ⊢;generalize eZ ((p,⟨i,0,((g+1:Nat):Int),e,w⟩),((d+1:Nat):Int))=V at tail ⊢;have G:∀t:Ps,t.ak=0->(⟨t.i,0,t.ab,t.an,t.wh⟩:Ps)=t:=λt h=>by rw[<-h]
  have l:i+1<p.1.length->(p.1.getD (i+1) 0=58↔bb (gq p) ⟨i+1,0,g,e,w⟩ 58):=λh=>by
    rw[Ih 58 (show i+1<(gq p).length by omega),ZaP];rcases f.q.rune (i:=i+1) h with⟨_,h⟩ | ⟨_,h,T⟩
    all_goals grind
  refine⟨⟨(q i g e w ω f.g),by decide,by decide⟩,λb=>⟨λJ=>bad b ?_,λJ=>⟨ZaF _,J,λP=>bad b ?_,λP=>?_⟩⟩,λb=>?_⟩
  · grind [Cv]
  · grind
  all_goals
    have c:bb (gq p) ⟨i,0,g,e,w⟩ 63->bb (gq p) ⟨i+1,0,g,e,w⟩ 58:=by
      grind
    have⟨Q,v⟩:=tail c;refine⟨Q,λk=>⟨λk1=>?_,λk1=>⟨((v k).2 k1).1,λk2=>?_⟩⟩⟩
    · have⟨x,z⟩:=(v k).1 k1;have⟨C,D,v3,K,v5⟩:=z U rfl;rw[G _ C,v5];exact⟨x,⟨D,v3,r⟩,K,rfl,rfl,rfl,rfl⟩
    · have⟨x,z⟩:=((v k).2 k1).2 k2;have⟨C,D,v3,K,v5,S⟩:=z V rfl;rw[G _ C,S];exact⟨x,⟨D,v3,r⟩,by rw[Zab,ZbA];omega,v5,rfl,rfl,rfl,rfl⟩
inductive Fr where
 | aH | cat | rep | zG | vg
variable {i:Nat} {G:List Gt}
def frC:Fr->bh D
 | .aH=>yw | .cat=>A8 | .rep=>A9 | .zG=>EN | .vg=>EO
def Qqg:∀i,(frC i).Y->Nat
 | .aH=>λy=>lZ y+4 | .cat=>λy=>lZ y+3 | .rep=>λy=>lZ y+2 | .zG=>λy=>lZ y+1 | .vg=>λy=>lZ (gd y)
def frF:Fr->Func
 | .aH=>f125 | .cat=>f183 | .rep=>f224 | .zG=>f254 | .vg=>f277
def QjA:Fr->s7
 | .aH=>[rv,Cx] | .cat=>[rv,Cx] | .rep=>[rv,Ij] | .zG=>[zJ,sF,Il,Ii,A3,pr] | .vg=>[rv,sF,NX]
def frO:∀i,(frC i).Y->cH D
 | .aH=>Qcr | .cat=>Qcs | .rep=>Qct | .zG=>λ_=>dY () | .vg=>λ_=>dY ()
def frL:List Fr:=[.aH,.cat,.rep,.zG,.vg]
set_option maxRecDepth 100000 in
theorem Qqh (b:Ok lW) (c:Ok pr):∀i,Ok (frC i):=
 xH frL frC Qqg (fn:=frF) (tab:=QjA) (fI:=frO)
  (λi=>match i with
   | .aH=>⟨yr,Qcn⟩ | .cat=>⟨yr,Qcn⟩ | .rep=>⟨yr,Qjm⟩ | .zG=>⟨EJ,uL,Qjn b c,Qco b,Qe4,c⟩ | .vg=>⟨yr,uL,Qjk⟩)
  (λi=>match i with
   | .aH=>by kernel_rfl | .cat=>by kernel_rfl | .rep=>by kernel_rfl | .zG=>by kernel_rfl | .vg=>by kernel_rfl)
  (λi=>match i with
   | .aH=>by kernel_rfl | .cat=>by kernel_rfl | .rep=>by kernel_rfl | .zG=>by kernel_rfl | .vg=>by kernel_rfl)
  λi=>match i with
   | .aH=>λy a=>Eq.mp (Um y) (Qjv y a) | .cat=>λy a=>Eq.mp (Un y) (Qjw y a) | .rep=>λy a=>Eq.mp (Uo y) (Qjx y a) | .zG=>λy a=>Eq.mp (Up y) (Qjy y a) | .vg=>λy a=>Eq.mp (Uq y) (Qjz y a)
def we (G:List Gt):List Int:=(List.range G.length).map λi=>if fi G i then-1 else aK G i
def vk (G:List Gt):List Int:=(List.range (G.length+1)).map (aI G)
def Iu:bh D:={ zH with f:=79 }
def Qqi (y:Iu.Y):cH D:=⟨[],[],[(506,⟨Nat,[7],λx=>[(5,.ptr 0 0),(6,Qvo (aI (bg y) x)),(8,Qvo x)],[],λx=>[(0,.cells [.grow 14 ((we (bg y)).take x) 1,.grow 5 ((vk (bg y)).take x) 2,Qvo 0,Qvo 0,Qvo 0,Qvo 0] 216 false),(1,.tok 14 21),(2,.tok 5 3)],3,λx=>x<=(bg y).length,λx=>(bg y).length-x⟩)],[],1,[]⟩
def Ur (y:List UInt8):Prop:=let b:=bg y;let q1:=b.length;let s:=(cm y).1;let t:=(cm y).2.2;let u:=(cm y).2.1;let w:=λp:Prop=>aa ([0,0,0,0]:List Int) p;aj (aw 120 (dD y)) ([]=s/\2=u/\0=t/\True) (Iv (y.length<=1000000)/\RAG y ((∃z:Nat,aa [b] (0=aI b z/\0=(z:Int)/\[]=List.take z (we b)/\[]=List.take z (vk b)/\w ((Iv (z<=q1)))))/\(∀x:Nat,let d:=List.take x (we b);let l:=aw (x:Int) (ag b);let e:=bM (List.take x (vk b)) [aI b x];let k:=gt (0,0) b (x:Int).toNat;let f:=((d,e),b7.mk 0 0 0 0 0);let a:=(eZ (f,0)).1;let c:=((a.i:Nat):Int);let g:=((a.ab:Nat):Int);let h:=aB a.an 0;let v:=aw c (ag d);let m:=aI (gq (d,e)) c.toNat;let j:=cy h 4 a.an;let n:=cy h m a.wh;let o:Prop:=((eZ (f,0)).2=s/\0=u/\0=t/\True);let q:Prop:=(aG 0 (x:Int)/\l/\bJ (ag (bM d [k.1])) 4/\aa [d] (aa [k.1] (bJ (ag e) 8/\aG 0 (x:Int)/\l/\∃z:Nat,aa [b] (ay .i64 (aI b x) k.2=aI b z/\ay .i64 (x:Int) 1=(z:Int)/\bM d [k.1]=List.take z (we b)/\e=List.take z (vk b)/\w ((Iv (z<=q1/\(q1-z)<(q1-x))))))));let r:Prop:=(aj (!h) (aa [a.an,a.wh] ([]=s/\a.an=u/\a.wh=t/\True)) (o));(Iv (x<=q1))->aj l (aG 0 (x:Int)/\l/\aj (aB k.1 65533) (aG 0 (x:Int)/\l/\aj (aB k.2 1) (bJ (ag (bM d [-1])) 4/\bJ (ag e) 8/\aG 0 (x:Int)/\l/\∃z:Nat,aa [b] (ay .i64 (aI b x) k.2=aI b z/\ay .i64 (x:Int) 1=(z:Int)/\bM d [-1]=List.take z (we b)/\e=List.take z (vk b)/\w ((Iv (z<=q1/\(q1-z)<(q1-x)))))) (q)) (q)) (bJ (ag e) 8/\Iv (fw f/\Ul (f,0))/\aa ([0]:List Int) (aa [d,e] (aa ([0,0,0,0]:List Int) (aj h (aa [a.an,c] (aa [d] (aj v (Iv (fw ((d,e),b7.mk c 0 g a.an a.wh)/\c<=(d.length:Int))/\aa [d,e] (aa [c,g,a.an,a.wh] (Iv (fw ((d,e),b7.mk c 0 g a.an a.wh)/\True)/\aa ([4,m]:List Int) (aa [d,e] (aa [c,g,a.an,a.wh] (aj (!(aB j 0)) (aa [j,n] ([]=s/\j=u/\n=t/\True)) (o))))))) (r)))) (aa [a.an] (r)))))))))
theorem jw (G:List Gt):(we G).length=G.length:=by grind [we]
theorem l0 (G:List Gt):(vk G).length=G.length+1:=by grind [vk]
theorem Iw (h:i<G.length):(we G)[i]'(by rw[jw];exact h)=if fi G i then-1 else aK G i:=by simp[we]
theorem yx (h:i<=G.length):(vk G)[i]'(by rw[l0];omega)=aI G i:=by simp[vk]
theorem eL {α:Type} {l:List α} (h:i<l.length) (d:α):l.getD i d=l[i]:=by grind
def ZZ (h:i<G.length):fi G i=(decide ((G.getD i (0,0)).1=65533)&&decide ((G.getD i (0,0)).2=1)):=K0 h
theorem Us (y:By):gq (we (bg y),vk (bg y))=bg y:=by
 have d:=(nR y.length y).2;refine Zdx (by rw[yq,jw]) λi h1 a=>?_
 have c:i<(we (bg y)).length:=by grind [jw]
 have b:(gq (we (bg y),vk (bg y)))[i]=(if (we (bg y)).getD i 0= -1 then 65533 else(we (bg y)).getD i 0,(vk (bg y)).getD (i+1) 0-(vk (bg y)).getD i 0):=by simp[gq]
 rw[b,eL c,eL (by rw[l0];omega),eL (by rw[l0];omega),Iw a,yx ω,yx ω,ik a];have f:aK (bg y) i=(bg y)[i].1:=by grind [aK]
 have e:=KK y i;grind [EI]
theorem Ut (y:By) (h:(bg y).length<=1000):Cw (we (bg y),vk (bg y)):=by
 have e:=Us y;refine⟨by grind [jw],λi hi=>?_,λi hi=>?_,by grind [l0,jw],by grind [He],by rw[e];exact(nR y.length y).2,by rw[e];exact KK y⟩
 ·grind [Iw,jw]
 ·grind [jw,l0,yx]
theorem Qqk (y:By) (v:Iu.pre y):Ur y:=by
 have hl:=EG y;have C:=(nR y.length y).2;have o:=yn (G:=bg y) C;unfold Ur;simp only[bL,bC,au,ib,aT,br,Zad,Zan,Zao,dq];have J:120<y.length->cm y=([],2,0):=λh=>Zac h
 refine⟨λh=>by grind,λh=>⟨ω,⟨0,by rfl,rfl,by simp,by simp,Zaj _⟩,λx O=>⟨λc=>?_,λc=>?_⟩⟩⟩
 ·have b:x<(bg y).length:=ω;have b1:=o x ω;have A:=o (x+1) ω;rw[ik b] at A;have p:=jw (bg y);have P:=l0 (bg y);have tC:∀r,r=(if fi (bg y) x then-1 else aK (bg y) x)->((((List.take x (we (bg y))++[r]).length:Nat):Int)*(4:Nat)<=140737488355328)/\((((List.take x (vk (bg y))++[aI (bg y) x]).length:Nat):Int)*(8:Nat)<=140737488355328)/\0<=(x:Int)/\(x:Int)<((bg y).length:Int)/\∃z:Nat,ay .i64 (aI (bg y) x) ((bg y).getD x (0,0)).2=aI (bg y) z/\ay .i64 (x:Int) 1=(z:Int)/\List.take x (we (bg y))++[r]=List.take z (we (bg y))/\List.take x (vk (bg y))++[aI (bg y) x]=List.take z (vk (bg y))/\z<=(bg y).length/\(bg y).length-z<(bg y).length-x:=λr N=>by
   refine⟨by simp;omega,by simp;omega,ZaF _,c,x+1,?_,ba ω ω,?_,?_,b,ω⟩
   ·rw[ba ω ω,ik b]
   ·grind [List.take_succ,Iw]
   ·grind [List.take_succ,yx]
  have d:=ZZ b;refine⟨ZaF _,c,λk1=>⟨ZaF _,c,λk2=>?_,λk2=>?_⟩,λk1=>?_⟩
  ·grind
  ·exact⟨ZaF _,c,tC _ (by rw[d,ZaN k2,Zbw];rfl)⟩
  ·exact⟨ZaF _,c,tC _ (by rw[d,ZaN k1,Zcw];rfl)⟩
 ·have f:x=(bg y).length:=ω;subst f;have H:List.take (bg y).length (we (bg y))=we (bg y):=ZaA (by rw[jw];omega);have I:List.take (bg y).length (vk (bg y))++[aI (bg y) (bg y).length]=vk (bg y):=by
   have L:(bg y).length<(vk (bg y)).length:=by rw[l0];omega
   have M:=ZbE (l:=vk (bg y)) (i:=(bg y).length);grind [yx,l0]
  rw[H,I];have u:=Ut y ω;have m:=Us y;have q:=λ(j k:Nat) (e w:Int) (D:j<=100000) (hk:k<=4)=>(⟨u,D,hk,yq _,u.len⟩:QF (we (bg y),vk (bg y)) j k).ok e w
  obtain⟨a,n⟩:∃a,eZ (((we (bg y),vk (bg y)),⟨0,0,0,0,0⟩),0)=a:=⟨_,rfl⟩;have B:a=Cj (bg y) 21 0 Pe:=by
   rw[<-n];unfold eZ;rw[aC];show uA (gq (we (bg y),vk (bg y))) (Cj (gq (we (bg y),vk (bg y))) 20 1) 0 Pe=_
   rw[m];rfl
  obtain⟨g,E⟩:=Cz (bg y) 21 0 Pe (Zaj _) (Zaj _);rw[<-B] at g E;have p:=jw (bg y);have Q:=g.len;have F:=g.gm;rw[n,m,p];obtain⟨s,hs⟩:∃s,(if a.1.an=0/\a.1.i<(bg y).length then a.1.ax (bg y) a.1.i 4 else a.1)=s:=⟨_,rfl⟩;have K:cm y=if s.an≠0 then([],s.an,s.wh) else(a.2,0,0):=by
   grind [cm,Hf,GN]
  have t:=q a.1.i a.1.ab a.1.an a.1.wh ω F;refine⟨by grind,⟨q 0 0 0 0 ω ω,⟨ZaQ _,ω⟩,ZaF _⟩,λk=>⟨λk1=>⟨⟨t,ω⟩,t,λk2=>?_,λk2=>?_⟩,λk1=>⟨λk2=>absurd k k2,λ_=>?_⟩⟩,λk=>⟨λ_=>?_,λk2=>absurd k2 k⟩⟩
  ·grind [wrE,wrW]
  ·grind [cy]
  ·grind
  ·grind
def QjB (h1:Ok xY) (a:Ok lW) (b:Ok pr):Ok Iu:=okZ [xY,yw,zJ,sF] f79 Qqi ⟨h1,Qqh a b .aH,EJ,uL⟩ Qqk
def Uu (x:Nd):Option (Nd×Int):=
 if x.op=1\/x.op=7\/x.op=8 then some (⟨x.op,[],0,0,false,0,x.ae⟩,0)
 else if x.op=2 then(if x.r=aU x.r then some (⟨x.op,x.r,0,0,false,0,x.ae⟩,0) else none)
 else if x.op=3\/x.op=4 then(if x.ae<2 then none else some (⟨x.op,[],0,0,false,0,x.ae⟩,x.ae))
 else if x.op=5 then(if x.mn<0\/30<x.mn\/30<x.mx\/x.mx< -1\/(0<=x.mx/\x.mx<x.mn) then none else some (⟨x.op,[],x.mn,x.mx,x.lz,0,x.ae⟩,1))
 else if x.op=6 then(if x.cap<1\/4<x.cap then none else some (⟨x.op,[],0,0,false,x.cap,x.ae⟩,1))
 else none
def Uv (x:Nd):Nd×Int:=lk ((Uu x).getD (nd 0,0))
abbrev WY:=List Nd×Int×Int
def ES (y:WY):Nd:=y.1.getD y.2.1.toNat (nd 0)
def ob:Option Nat->Int
 | none=>-1
 | some b=>b
def nV (y:WY):Option Nat:=gC y.1 (241-y.2.2.toNat) y.2.1.toNat
def inW (args:List (AV D.E)) (s:St D.E):C WY:=match args with
 | [l,a,d]=>az (aL D s 7 l) λl=>aP (cT a) λ_ a=>aP (cT d) λ_ d=>.ret ((l:List Nd),a,d)
 | _=>.fail
def Uw (y:WY):Prop:=(y.1.length<=1000000/\∀x∈y.1,iO x)/\(0<=y.2.1/\y.2.1<=2000000)/\0<=y.2.2/\y.2.2<=241
def Ix:bh D:=bO 225 WY inW Uw (λy=>[.list 7 y.1,Qvo y.2.1,Qvo y.2.2]) λy=>Qvo (ob (lk (nV y)))
def Ux (y:WY):Prop:=y.2.1<y.1.length/\y.2.2<=240/\(Uu (ES y)).isSome
def NZ (y:WY) (x:Option Nat×Nat):Prop:=(x.1=none\/(x.2:Int)<=(Uv (ES y)).2)/\x.2<=y.1.length+1/\
 match x.1 with
 | none=>nV y=none
 | some b=>x.2<=b/\b<=y.1.length/\mY (gC y.1 (240-y.2.2.toNat)) ((Uv (ES y)).2.toNat-x.2) b=nV y
def Lj (y:WY) (x:Option Nat×Nat):Nat:=if x.1=none then 0 else y.1.length+1-x.2
def Qql (y:Ix.Y):cH D:=⟨[],[],[(4090,⟨Option Nat×Nat,[0,2,9],λx=>[(1,Qvo (ob x.1)),(10,Qvo x.2)],[],λ_=>[],0,NZ y,Lj y⟩)],
 [(63,⟨Unit,[0,1,2],λ_=>[(7,.ptr 0 0),(8,.ptr 1 0),(9,Qvo (Uv (ES y)).2)],[],λ_=>[(0,.cells (D.a_ 7 (ES y)) 206 false),(1,.cells (D.a_ 7 (Uv (ES y)).1) 206 false)],2,λ_=>Ux y,λ_=>0⟩)],1,[]⟩
def Qqm (y:Ix.Y):Prop:=vc [Ix.under (λy=>241-y.2.2.toNat) (241-y.2.2.toNat),x_] f225 Ix Qql y
def Uy:bh D:=bO 186 (List Nd×Int) (λa s=>match a with
 | [l,a]=>az (aL D s 7 l) λl=>aP (cT a) λ_ a=>.ret ((l:List Nd),a)
 | _=>.fail) (λy=>Uw (y.1,y.2,0)) (λy=>[.list 7 y.1,Qvo y.2]) λy=>Qvo (ob (lk (nV (y.1,y.2,0))))
def N0:bh D:={ Ie with f:=128 }
def Uz (y:List Nd) (x:Nat×Nat):Prop:=x.1<=y.length/\x.2<=x.1/\gV (y.drop x.1) x.2=gV y 0/\1<=y.length/\y.length<=480/\gC y 241 0=some y.length
def Qqo (y:N0.Y):cH D:=⟨[],[],[(122,⟨Nat×Nat,[0],λx=>[(3,Qvo ((x.2:Int)+1)),(4,Qvo x.1)],[],λ_=>[],0,Uz y,λx=>y.length-x.1⟩)],[],1,[]⟩
def UA (y:(List Nd)×Int×Int):Prop:=let c:=ES y;let q1:=(Uv c).1;let b:=ob (lk (nV y));let f:=(Uv c).2;let A:=!(aB c.ae f);let B:=!(oD c.lz q1.lz);let C:=!(aB c.cap q1.cap);let D:=!(aB c.mx q1.mx);let E:=!(aB c.mn q1.mn);let q:=ay .i64 y.2.2 1;let s:=aG (ag y.1) y.2.1;let t:=!(aB (ag c.r) (ag q1.r));let a:=gt (Nd.mk 0 [] 0 0 false 0 0) y.1 y.2.1.toNat;let u:=aw a.mx a.mn;let v:=!(decide (a.r=aU a.r));let e:=λp:Prop=>aa [y.1] (aa [y.2.1,y.2.2] p);let g:Prop:=(a.ae=q1.ae/\a.op=c.op/\a.r=c.r/\a.mn=c.mn/\a.mx=c.mx/\a.lz=c.lz/\a.cap=c.cap/\a.ae=c.ae/\(Iv (Ux y)));let j:Prop:=(0=q1.mn/\0=q1.mx/\false=q1.lz/\0=q1.cap/\g);let k:Prop:=(a.op=q1.op/\[]=q1.r/\j);let h:Prop:=(∃z:Unit,e (0=f/\k));let l:Prop:=(∃z:Unit,e (1=f/\a.op=q1.op/\[]=q1.r/\a.mn=q1.mn/\a.mx=q1.mx/\a.lz=q1.lz/\0=q1.cap/\g));let m:Prop:=(aj (aw a.ae 2) ((-1)=b/\True) (∃z:Unit,e (a.ae=f/\k)));let n:Prop:=(aj (aB a.op 5) (aa [a.mn,a.mx,a.mx] (aa [a.lz,a.lz,a.lz] (aj (aw a.mn 0) ((-1)=b/\True) (aj (aw 30 a.mn) ((-1)=b/\True) (aj (aw 30 a.mx) ((-1)=b/\True) (aj (aw a.mx (-1)) ((-1)=b/\True) (aj (aG 0 a.mx) (aj u ((-1)=b/\True) (l)) (l)))))))) (aj (aB a.op 6) (aj (aw a.cap 1) ((-1)=b/\True) (aj (aw 4 a.cap) ((-1)=b/\True) (∃z:Unit,e (1=f/\a.op=q1.op/\[]=q1.r/\0=q1.mn/\0=q1.mx/\false=q1.lz/\a.cap=q1.cap/\g)))) ((-1)=b/\True)));let i:Prop:=(aj (aB a.op 2) (Iv (a.r.length<=2000000)/\aa [a.r] (aj v ((-1)=b/\True) (∃z:Unit,e (0=f/\a.op=q1.op/\a.r=q1.r/\j)))) (aj (aB a.op 3) (aj (aB a.op 3) (m) (n)) (aj (aB a.op 4) (m) (n))));aj s ((-1)=b/\True) (aj (aw 240 y.2.2) ((-1)=b/\True) (aG 0 y.2.1/\aw y.2.1 (ag y.1)/\(aj (aB a.op 1) (aj (aB a.op 1) (h) (i)) (aj (aB a.op 7) (aj (aB a.op 7) (h) (i)) (aj (aB a.op 8) (h) (i))))/\(∀x:Unit,(Iv (Ux y))->aj A ((-1)=b/\True) (aj E ((-1)=b/\True) (aj D ((-1)=b/\True) (aj B ((-1)=b/\True) (aj C ((-1)=b/\True) (aj t ((-1)=b/\True) ((∃z:(Option Nat)×Nat,aa [y.1] (aa [y.2.2,f] (ay .i64 y.2.1 1=ob z.1/\0=(z.2:Int)/\(Iv (NZ y z)))))/\(∀o:(Option Nat)×Nat,let d:=ob o.1;let w:=aw (o.2:Int) f;(Iv (NZ y o))->aj w (aj (aG 0 d) (Iv (Uw (y.1,(d,q))/\(241-q.toNat)<(241-y.2.2.toNat))/\aa [y.1] (aa [d,q] (∃z:(Option Nat)×Nat,aa [y.1] (aa [y.2.2,f] (ob (lk (nV (y.1,(d,q))))=ob z.1/\ay .i64 (o.2:Int) 1=(z.2:Int)/\(Iv (NZ y z/\Lj y z<Lj y o))))))) (d=b/\True)) (d=b/\True)))))))))))
def Z0:∀y,UA y=Qqm y:=λy=>by kernel_rfl
def UB (y:(List Nd)×Int):Prop:=let a:=(y.1,(y.2,(0:Int)));let q1:=ob (lk (nV a));Iv (Uw a)/\aa [y.1] (aa ([y.2,0,q1]:List Int) (True))
def UC (y:List Nd):Prop:=let b:=ag y;let q1:=(y,((0:Int),(0:Int)));let d:=!(aB (ob (lk (nV q1))) b);aj (aB b 0) (false=dS y/\True) (aj (aw 480 b) (false=dS y/\True) (Iv (Uw q1)/\RAG y (RAC (aj d (false=dS y/\True) ((∃z:Nat×Nat,aa [y] (1=((z.2:Int)+1)/\0=(z.1:Int)/\(Iv (Uz y z))))/\(∀x:Nat×Nat,let a:=(x.1:Int);let c:=gt (Nd.mk 0 [] 0 0 false 0 0) y a.toNat;let e:=!(aB c.cap ((x.2:Int)+1));(Iv (Uz y x))->aj (aw a b) (aG 0 a/\aw a b/\aj (aB c.op 6) (aG 0 a/\aw a b/\aj e (false=dS y/\True) (∃z:Nat×Nat,aa [y] (ay .i64 ((x.2:Int)+1) 1=((z.2:Int)+1)/\ay .i64 a 1=(z.1:Int)/\(Iv (Uz y z/\(y.length-z.1)<(y.length-x.1)))))) (∃z:Nat×Nat,aa [y] (((x.2:Int)+1)=((z.2:Int)+1)/\ay .i64 a 1=(z.1:Int)/\(Iv (Uz y z/\(y.length-z.1)<(y.length-x.1)))))) (true=dS y/\True)))))))
def Ba (x b:Nd) (k:Int):Prop:=x.ae=k/\x.mn=b.mn/\x.mx=b.mx/\x.lz=b.lz/\x.cap=b.cap/\x.r.length=b.r.length
theorem Iy (x:Nd) (h:Uu x=none):nS x=none:=by
 grind [Uu,nS]
theorem Iz (x b:Nd) (k:Int) (h:Uu x=some (b,k)):(Ba x b k->nS x=some k)/\(¬Ba x b k->nS x=none):=by
 grind [Uu,nS,Ba]
theorem Z3 {x b:Nd} {k:Int} (h:Uu x=some (b,k)):0<=k:=by
 grind [Uu]
theorem Qqq (y:WY) (hy:Ix.pre y):UA y:=by
 obtain⟨l,a,d⟩:=y;obtain⟨⟨h1,m⟩,s,F⟩:(l.length<=1000000/\∀x∈l,iO x)/\(0<=a/\a<=2000000)/\0<=d/\d<=241:=hy;obtain⟨a,rfl⟩:=Zau s.1;obtain⟨d,rfl⟩:=Zau F.1;have t:nV (l,(a:Int),(d:Int))=gC l (241-d) a:=rfl;have E:ES (l,(a:Int),(d:Int))=l.getD a (nd 0):=rfl;have X:l.getD a ⟨0,[],0,0,false,0,0⟩=l.getD a (nd 0):=rfl;unfold UA;simp only[bL,bC,Zad,Zan,Zao,ZaP,Zbi,au,dq,ZaX,ZaY,ZaZ,X,E,aC];have stop:l.length<=a\/240<d->(-1:Int)=ob (nV (l,(a:Int),(d:Int))):=λh=>by
  rw[t];cases hd:241-d with
  | zero=>rfl
  | succ n=>
   unfold gC;rw[Zac ω];rfl
 refine⟨λk=>stop (.inl ω),λk=>⟨λk2=>stop (.inr ω),λk2=>⟨s.1,k,?_,λhJ=>?_⟩⟩⟩
 ·have H:a<l.length:=ω;have hr:(l.getD a (nd 0)).r.length<=2000000:=by
   grind [List.getElem_mem,iO]
  have bad:Uu (l.getD a (nd 0))=none->(-1:Int)=ob (nV (l,(a:Int),(d:Int))):=λh=>by
   rw[t,show 241-d=(240-d)+1 by omega];unfold gC;rw[Zaa ω,Iy _ h];rfl
  have J:∀b g,Uu (l.getD a (nd 0))=some (b,g)->Uv (l.getD a (nd 0))=(b,g)/\Ux (l,(a:Int),(d:Int)):=λb g h=>by
   refine⟨by grind [Uv,aC],show(a:Int)<(l.length:Int) by omega,k2,?_⟩;grind
  clear t;generalize nV (l,(a:Int),(d:Int))=W at*
  generalize Ux (l,(a:Int),(d:Int))=q at*
  generalize l.getD a (nd 0)=x at*
  generalize Uv x=Q at*
  unfold Uu at bad J;obtain⟨op,r,mn,mx,lz,cap,ae⟩:=x;simp only at bad J hr ⊢;generalize aU r=D at*
  clear m stop;have R:(op=1\/op=7\/op=8)->Q=(⟨op,[],0,0,false,0,ae⟩,0)/\q:=λh=>J _ _ (by rw[Zac h])
  have S:op=2->r=D->Q=(⟨op,r,0,0,false,0,ae⟩,0)/\q:=λh o=>J _ _ (by grind)
  have T:(op=3\/op=4)->¬ae<2->Q=(⟨op,[],0,0,false,0,ae⟩,ae)/\q:=λh o=>J _ _ (by grind)
  have U:op=5->¬(mn<0\/30<mn\/30<mx\/mx< -1\/(0<=mx/\mx<mn))->Q=(⟨op,[],mn,mx,lz,0,ae⟩,1)/\q:=λh o=>J _ _ (by grind)
  have V:op=6->¬(cap<1\/4<cap)->Q=(⟨op,[],0,0,false,cap,ae⟩,1)/\q:=λh o=>J _ _ (by grind)
  have L:op=2->¬r=D->-1=ob W:=λh o=>bad (by grind)
  have M:(op=3\/op=4)->ae<2->-1=ob W:=λh o=>bad (by grind)
  have N:op=5->(mn<0\/30<mn\/30<mx\/mx< -1\/(0<=mx/\mx<mn))->-1=ob W:=λh o=>bad (by grind)
  have O:op=6->(cap<1\/4<cap)->-1=ob W:=λh o=>bad (by grind)
  have P:¬(op=1\/op=7\/op=8)->op≠2->¬(op=3\/op=4)->op≠5->op≠6->-1=ob W:=λh1 m s F h5=>bad (by grind)
  clear bad J;generalize ob W=w at*
  obtain⟨u,v⟩:=Q;have q0:∀{p:Prop},(op=1\/op=7\/op=8)->(u=(⟨op,[],0,0,false,0,ae⟩:Nd)->v=0->q->p)->p:=λh f=>by
   grind
  have q2:∀{p:Prop},op=2->r=D->(u=(⟨op,r,0,0,false,0,ae⟩:Nd)->v=0->q->p)->p:=λh o f=>by
   grind
  have q3:∀{p:Prop},(op=3\/op=4)->¬ae<2->(u=(⟨op,[],0,0,false,0,ae⟩:Nd)->v=ae->q->p)->p:=λh o f=>by
   grind
  have q5:∀{p:Prop},op=5->¬(mn<0\/30<mn\/30<mx\/mx< -1\/(0<=mx/\mx<mn))->(u=(⟨op,[],mn,mx,lz,0,ae⟩:Nd)->v=1->q->p)->p:=λh o f=>by
   grind
  have q6:∀{p:Prop},op=6->¬(cap<1\/4<cap)->(u=(⟨op,[],0,0,false,cap,ae⟩:Nd)->v=1->q->p)->p:=λh o f=>by
   grind
  clear R S T U V
  with_reducible repeat' first | apply And.intro | intro _
  all_goals first
   | assumption
   | (exfalso;omega)
   | (apply P<;>omega)
   | (exact L (by assumption) (by assumption))
   | (apply M<;>omega)
   | (apply N<;>omega)
   | (apply O<;>omega)
   | (refine q0 ω λh1 m s=>?_;subst h1;subst m;first | rfl | assumption)
   | (refine q2 (by assumption) (by assumption) λh1 m s=>?_;subst h1;subst m;first | rfl | assumption)
   | (refine q3 ω ω λh1 m s=>?_;subst h1;subst m;first | rfl | assumption)
   | (refine q5 ω ω λh1 m s=>?_;subst h1;subst m;first | rfl | assumption)
   | (refine q6 ω ω λh1 m s=>?_;subst h1;subst m;first | rfl | assumption)
 ·obtain⟨j1,I,K⟩:=hJ;rw[E] at K;have H:a<l.length:=ω;obtain⟨⟨b,g⟩,B⟩:=Option.isSome_iff_exists.mp K;have hQ:Uv (l.getD a (nd 0))=(b,g):=by grind [Uv,aC]
  obtain⟨g1,g2⟩:=Iz _ _ _ B;have A:Ba (l.getD a (nd 0)) b g->nV (l,(a:Int),(d:Int))=mY (gC l (240-d)) g.toNat (a+1):=λh=>by
   rw[t,show 241-d=(240-d)+1 by omega];grind [gC]
  have j:¬Ba (l.getD a (nd 0)) b g->(-1:Int)=ob (nV (l,(a:Int),(d:Int))):=λh=>by
   rw[t,show 241-d=(240-d)+1 by omega];unfold gC;rw[Zaa ω,g2 h];rfl
  rw[hQ];simp only;refine⟨λe=>j λh=>absurd h.1 (by assumption),λe1=>⟨λe=>j λh=>absurd h.2.1 (by assumption),λe2=>⟨λe=>j λh=>absurd h.2.2.1 (by assumption),λe3=>⟨λe=>j λh=>absurd h.2.2.2.1 (by grind [oD]),λe4=>⟨λe=>j λh=>absurd h.2.2.2.2.1 (by assumption),λe5=>⟨λe=>j λh=>by have:=h.2.2.2.2.2;omega,λe6=>?_⟩⟩⟩⟩⟩⟩;have G:Ba (l.getD a (nd 0)) b g:=⟨by assumption,by assumption,by assumption,by grind [oD],by assumption,ω⟩;have eW:=A G;have C:∀x:Option Nat×Nat,NZ (l,(a:Int),(d:Int)) x↔((x.1=none\/(x.2:Int)<=g)/\x.2<=l.length+1/\match x.1 with
    | none=>nV (l,(a:Int),(d:Int))=none
    | some c=>x.2<=c/\c<=l.length/\mY (gC l (240-d)) (g.toNat-x.2) c=nV (l,(a:Int),(d:Int))):=λx=>by
   grind [NZ]
  clear t A j G;generalize nV (l,(a:Int),(d:Int))=W at*
  refine⟨⟨(some (a+1),0),by rw[bK ω];rfl,rfl,(C _).mpr ⟨.inr ?_,by simp,by simp,H,by grind⟩⟩,λx hx=>?_⟩
  ·exact Z3 B
  obtain⟨z,i⟩:=x;obtain⟨i1,i2,i3⟩:=(C _).mp hx;have hiL:(i:Int)=(i:Int):=rfl;cases z with
  | none=>
   have i3:W=none:=i3;rw[i3];refine⟨λe=>⟨λe2=>absurd (show(0:Int)<=-1 from e2) (by decide),λ_=>rfl⟩,λ_=>rfl⟩
  | some c=>
   obtain⟨c1,c2,c3⟩:i<=c/\c<=l.length/\mY (gC l (240-d)) (g.toNat-i) c=W:=i3;have i1:(i:Int)<=g:=i1.resolve_left (by simp);have I:(d:Int)<=240:=I;refine⟨λe=>⟨λe2=>?_,λe2=>absurd (show(c:Int)<0 from e2) ω⟩,λe=>?_⟩
   ·have e:(i:Int)<g:=e;have Y:ay .i64 (d:Int) 1=((d+1:Nat):Int):=bK ω;have Z:ay .i64 (i:Int) 1=((i+1:Nat):Int):=bK ω;rw[Y];refine⟨⟨⟨⟨h1,m⟩,⟨show(0:Int)<=(c:Int) by omega,show(c:Int)<=2000000 by omega⟩,show(0:Int)<=((d+1:Nat):Int) by omega,show((d+1:Nat):Int)<=241 by omega⟩,ω⟩,(gC l (240-d) c,i+1),?_,Z,(C _).mpr ⟨.inr (show((i+1:Nat):Int)<=g by omega),show i+1<=l.length+1 by omega,?_⟩,?_⟩
    ·rw[show nV (l,ob (some c),((d+1:Nat):Int))=gC l (241-(d+1)) c from rfl,show 241-(d+1)=240-d by omega]
    ·rw[show g.toNat-i=(g.toNat-(i+1))+1 by omega] at c3;unfold mY at c3;have B:=m_ l (240-d) c
     revert c3 B
     grind
    ·grind [Lj]
   ·have e:g<=(i:Int):=e;rw[show g.toNat-i=0 by omega] at c3;grind [mY]
def Qqr (y:List Nd×Int) (a:Uy.pre y):UB y:=by
 unfold UB;simp only[dw,Zai,kU];exact a
def QjC (h:Ok gA):Ok Ix:=RC (λy=>241-y.2.2.toNat) Z0 (SO h) Qqq
def QjD (h:Ok gA):Ok Uy:=okZ [Ix] f186 (λ_=>dY ()) (QjC h) Qqr
theorem Qqs (y:List Nd) (q:N0.pre y):UC y:=by
 have o:∀x∈y,iO x:=q;unfold UC;simp only[bL,bC,Zad,Zan,Zao,ZaP,Zbi,au,dq,ZaX,ZaY,ZaZ,aC];have d:nV (y,(0:Int),(0:Int))=gC y 241 0:=rfl;have f:=NR y;rw[d,<-f];clear f d;unfold Ic;refine⟨λk=>?_,λk=>⟨λk2=>?_,λk2=>⟨⟨⟨show y.length<=1000000 by omega,o⟩,⟨show(0:Int)<=0 by omega,show(0:Int)<=2000000 by omega⟩,show(0:Int)<=0 by omega,show(0:Int)<=241 by omega⟩,λk3=>?_,λk3=>⟨⟨(0,0),rfl,rfl,Zaj _,Zah _,rfl,ω,ω,?_⟩,λx p=>?_⟩⟩⟩⟩
 ·grind
 ·grind
 ·have e:¬gC y 241 0=some y.length:=λh=>k3 (by rw[h];rfl)
  grind
 ·revert k3
  generalize gC y 241 0=w;intro k3;cases w with
  | none=>exact absurd (show(-1:Int)=(y.length:Int) from k3) ω
  | some b=>rw[show b=y.length by have:(b:Int)=(y.length:Int):=k3;omega]
 ·obtain⟨i,g⟩:=x;obtain⟨c1,c2,c3,c4,c5,c6⟩:i<=y.length/\g<=i/\gV (y.drop i) g=gV y 0/\1<=y.length/\y.length<=480/\gC y 241 0=some y.length:=p;rw[show decide (1<=y.length)=true by grind,show decide (y.length<=480)=true by grind,c6,ZcB,ZbI,ZbI,ZbI,<-c3];refine⟨λe=>?_,λe=>?_⟩
  ·have e:i<y.length:=ω;have n:ay .i64 (i:Int) 1=((i+1:Nat):Int):=bK ω;have m:ay .i64 ((g:Int)+1) 1=((g+1:Nat):Int)+1:=by grind
   have l:y.getD i ⟨0,[],0,0,false,0,0⟩=y.getD i (nd 0):=rfl;have j:y.drop i=y.getD i (nd 0)::y.drop (i+1):=by
    simp_all
   generalize a:gV y 0=r at*
   simp only[l,n,m,Zad] at c3 ⊢;rw[j] at c3 ⊢;unfold gV at c3 ⊢;refine⟨ω,ω,λc=>⟨ω,ω,λe2=>?_,λe2=>?_⟩,λc=>?_⟩
   ·grind
   ·rw[Zac c,Zac e2] at c3;exact⟨(i+1,g+1),rfl,rfl,⟨by assumption,ω,c3.trans a.symm,c4,c5,c6⟩,ω⟩
   ·rw[Zaa c] at c3;exact⟨(i+1,g),rfl,rfl,⟨by assumption,ω,c3.trans a.symm,c4,c5,c6⟩,ω⟩
  ·have e:¬i<y.length:=ω;rw[show y.drop i=[] from Za9 ω];rfl
def Qcu (h:Ok gA):Ok N0:=okZ [Uy] f128 Qqo (QjD h) Qqs
def bF:ah:=.mk 0 [] 0 0 false 0 0 []
def IA (v:AV D.E):C ah:=az (asAgg v) λcs=>uW D 15 cs
def im (op:Int):List ah->ah
 | []=>.mk 1 [] 0 0 false 0 0 []
 | [k]=>k
 | a=>.mk op [] 0 0 false 0 0 a
def Qfa (args:List (AV D.E)) (s:St D.E):C (Int×List ah):=match args with
 | [o,l]=>aP (cT o) λ_ o=>az (aL D s 15 l) λl=>.ret (o,(l:List ah))
 | _=>.fail
def N5:bh D:=bO 219 (Int×List ah) Qfa (λy=>y.2.length<=1000000) (λy=>[Qvo y.1,.list 15 y.2]) λy=>.agg (D.a_ 15 (lk (im y.1 y.2)))
def eN (x:Nd):Bool:=x.op==5&&!x.lz&&x.mx==-1&&decide (x.mn<=1)
def UD:bh D:=bO 223 Nd (λa _=>Qi3 a) (λ_=>True) (λy=>[.agg (D.a_ 7 y)]) λy=>.bool (eN y)
def aF (op:Int) (a:List ah):List ah:=a.flatMap λk=>if k.op=op then k.ae else[k]
def N6:bh D:=bO 216 (Int×List ah) Qfa (λy=>y.2.length<=1000000/\(aF y.1 y.2).length<=1000000) (λy=>[Qvo y.1,.list 15 y.2]) λy=>.list 15 (aF y.1 y.2)
def Qqv (y:N6.Y):cH D:=⟨[],[],[(58,⟨Nat,[0,8,9],λx=>[(5,.grow 15 (aF y.1 (y.2.take x)) 0),(10,Qvo x)],[],λ_=>[(0,.tok 15 209)],1,λx=>x<=y.2.length/\(aF y.1 (y.2.take x)).length<=1000000,λx=>y.2.length-x⟩)],[],1,[]⟩
def jI (f:List Nd->Option (ah×List Nd)):Nat->List Nd->Option (List ah×List Nd)
 | 0,l=>some ([],l)
 | k+1,l=>match f l with
  | none=>none
  | some (t,a)=>match jI f k a with
   | none=>none
   | some (c,b)=>some (t::c,b)
def fN:Nat->List Nd->Option (ah×List Nd)
 | 0,_=>none
 | _+1,[]=>none
 | n+1,x::l=>match jI (fN n) x.ae.toNat l with
  | none=>none
  | some (b,a)=>some (.mk x.op x.r x.mn x.mx x.lz x.cap x.ae b,a)
def cu (l:List Nd):ah×List Nd:=lk ((fN l.length l).getD (bF,[]))
def IB:bh D:=bO 121 (List Nd) ZE (λy=>y.length<=1000000/\(fN y.length y).isSome) (λy=>[.list 7 y]) λy=>.tuple [.agg (D.a_ 15 (cu y).1),.list 7 (cu y).2]
def tM (y:List Nd):Nd:=y.getD 0 (nd 0)
def N7 (y:List Nd) (x:List ah×List Nd×Nat):Prop:=x.1.length=x.2.2/\x.2.2<=(tM y).ae.toNat/\x.2.1.length<y.length/\x.1.length+x.2.1.length+1<=y.length/\∃a l,jI (fN x.2.1.length) ((tM y).ae.toNat-x.2.2) x.2.1=some (a,l)/\x.1++a=(cu y).1.ae/\l=(cu y).2
def Qqx (y:IB.Y):cH D:=⟨[],[],[(122,⟨List ah×List Nd×Nat,[],λx=>[(0,.list 7 x.2.1),(2,.ptr 2 0),(4,.ptr 0 0),(14,Qvo (tM y).ae),(15,Qvo x.2.2)],[],λx=>[(0,.cells [Qvo (tM y).op,.list 6 (tM y).r,Qvo (tM y).mn,Qvo (tM y).mx,.bool (tM y).lz,Qvo (tM y).cap,Qvo (tM y).ae,.grow 15 x.1 1] 209 false),(1,.tok 15 209),(2,.cells (D.a_ 15 bF) 209 false)],3,N7 y,λx=>(tM y).ae.toNat-x.2.2⟩)],[],1,[]⟩
def Qqy (y:IB.Y):Prop:=vc [IB.under (λy=>y.length) y.length] f121 IB Qqx y
mutual
def aD:ah->List Nd
 | .mk op r mn mx lz cap _ ks=>⟨op,r,mn,mx,lz,cap,ks.length⟩::aA ks
def aA:List ah->List Nd
 | []=>[]
 | t::ts=>aD t++aA ts
end
def dg (t:ah):List Nd:=lk (aD t)
def dm (t:ah):Nat:=lk (SizeOf.sizeOf t)
def dO (t:ah):Prop:=(aD t).length<=1000000/\∀x∈aD t,iO x
def IC:bh D:=bO 123 ah (λa _=>match a with
 | [t]=>IA t
 | _=>.fail) dO (λy=>[.agg (D.a_ 15 y)]) λy=>.list 7 (dg y)
def pA (y:ah) (n:Nat):List Nd:=lk (⟨y.op,y.r,y.mn,y.mx,y.lz,y.cap,y.ae.length⟩::aA (y.ae.take n))
def Qqz (y:IC.Y):cH D:=⟨[],[],[(506,⟨Nat,[20,21],λx=>[(4,.grow 7 (pA y x) 0),(22,Qvo x)],[],λ_=>[(0,.tok 7 206)],1,λx=>x<=y.ae.length,λx=>y.ae.length-x⟩)],[],1,[]⟩
def QqA (y:IC.Y):Prop:=vc [IC.under dm (dm y)] f123 IC Qqz y
def UE (y:Int×(List ah)):Prop:=let a:=lk (im y.1 y.2);let q1:=gt (ah.mk 0 [] 0 0 false 0 0 []) y.2 0;aj (aB (ag y.2) 0) (1=a.op/\[]=a.r/\0=a.mn/\0=a.mx/\false=a.lz/\0=a.cap/\0=a.nk/\[]=a.ae/\True) (aj (aB (ag y.2) 1) (Tt 1 (aw 0 (ag y.2)/\q1.op=a.op/\q1.r=a.r/\q1.mn=a.mn/\q1.mx=a.mx/\q1.lz=a.lz/\q1.cap=a.cap/\q1.nk=a.nk/\q1.ae=a.ae/\True)) (y.1=a.op/\[]=a.r/\0=a.mn/\0=a.mx/\false=a.lz/\0=a.cap/\0=a.nk/\y.2=a.ae/\True))
def UF (y:Nd):Prop:=aj (aB y.op 5) (aj (!y.lz) (aj (aB y.mx (-1)) (aG y.mn 1=eN y/\True) (false=eN y/\True)) (false=eN y/\True)) (false=eN y/\True)
def UG (y:Int×(List ah)):Prop:=let b:=y.2.length;let q1:=ag y.2;let d:=λp:Prop=>aa [y.1] (aa [y.2] (aa [q1] p));(∃z:Nat,let e:=aF y.1 (List.take z y.2);d ([]=e/\0=(z:Int)/\(Iv (z<=b/\e.length<=1000000))))/\(∀x:Nat,let c:=aF y.1 (List.take x y.2);let a:=gt (ah.mk 0 [] 0 0 false 0 0 []) y.2 (x:Int).toNat;let f:=bM c [ah.mk a.op a.r a.mn a.mx a.lz a.cap a.nk a.ae];(Iv (x<=b/\c.length<=1000000))->aj (aw (x:Int) q1) (aG 0 (x:Int)/\aw (x:Int) q1/\aj (aB a.op y.1) (bJ (ag (bM c a.ae)) 96/\∃z:Nat,let g:=aF y.1 (List.take z y.2);d (bM c a.ae=g/\ay .i64 (x:Int) 1=(z:Int)/\(Iv ((z<=b/\g.length<=1000000)/\(b-z)<(b-x))))) (bJ (ag f) 96/\∃z:Nat,let h:=aF y.1 (List.take z y.2);d (f=h/\ay .i64 (x:Int) 1=(z:Int)/\(Iv ((z<=b/\h.length<=1000000)/\(b-z)<(b-x)))))) (c=aF y.1 y.2/\True))
abbrev RAB (p:Prop):Prop:=aa ([[]]:List (List (Int×Int))) p
abbrev RAF (p:Prop):Prop:=aa ([[]]:List (List ah)) p
def UH (y:List Nd):Prop:=let a:=tM y;let q1:=(cu y).1;let b:=gt (Nd.mk 0 [] 0 0 false 0 0) y 0;let f:=λp:Prop=>RAC (RAB (RAA p));let g:=λp:Prop=>RAA (RAF p);Tt 1 (aw 0 (ag y)=true/\Tt 1 (aG 1 (ag y)=true/\(∃z:(List ah)×(List Nd)×Nat,wD y 1=z.2.1/\b.ae=a.ae/\0=(z.2.2:Int)/\b.op=a.op/\b.r=a.r/\b.mn=a.mn/\b.mx=a.mx/\b.lz=a.lz/\b.cap=a.cap/\b.ae=a.ae/\[]=z.1/\f (false=false/\g ((Iv (N7 y z)))))/\(∀x:(List ah)×(List Nd)×Nat,let d:=x.2.1.length;let c:=(cu x.2.1).1;let h:=aw (x.2.2:Int) a.ae;let e:=bM x.1 [ah.mk c.op c.r c.mn c.mx c.lz c.cap c.nk c.ae];(Iv (N7 y x))->aj h (Iv ((d<=1000000/\Option.isSome (fN d x.2.1)=true)/\d<y.length)/\RAG x.2.1 (bJ (ag e) 96=true/\∃z:(List ah)×(List Nd)×Nat,(cu x.2.1).2=z.2.1/\aa [a.ae] (ay .i64 (x.2.2:Int) 1=(z.2.2:Int)/\aa [a.op] (aa [a.r] (aa [a.mn,a.mx] (aa [a.lz] (aa [a.cap,a.ae] (e=z.1/\f (false=false/\g ((Iv (N7 y z/\(a.ae.toNat-z.2.2)<(a.ae.toNat-x.2.2))))))))))))) (a.op=q1.op/\a.r=q1.r/\a.mn=q1.mn/\a.mx=q1.mx/\a.lz=q1.lz/\a.cap=q1.cap/\a.ae=q1.nk/\x.1=q1.ae/\x.2.1=(cu y).2/\True))))
def Z7:∀y,UH y=Qqy y:=λy=>by kernel_rfl
abbrev RA0 (v:ah) (p:Prop):Prop:=aa [v.op] (aa [v.r] (aa [v.mn] (aa [v.mx] (aa [v.lz] (aa [v.cap] (aa [v.nk] p))))))
def UI (y:ah):Prop:=let b:=y.ae;let q1:=ag b;bJ (ag y.r) 8=true/\(∃z:Nat,RAH b q1 (([Nd.mk y.op y.r y.mn y.mx y.lz y.cap q1]:List Nd)=pA y z/\0=(z:Int)/\(Iv (z<=b.length))))/\(∀x:Nat,let c:=b.length;let a:=gt (ah.mk 0 [] 0 0 false 0 0 []) b (x:Int).toNat;let d:=ah.mk a.op a.r a.mn a.mx a.lz a.cap a.nk a.ae;let e:=bM (pA y x) (dg d);(Iv (x<=c))->aj (aw (x:Int) q1) (aG 0 (x:Int)=true/\aw (x:Int) q1=true/\Iv (dO d/\dm d<dm y)/\RA0 a (RAG a.ae (bJ (ag e) 72=true/\∃z:Nat,aa [b] (aa [q1] (e=pA y z/\ay .i64 (x:Int) 1=(z:Int)/\(Iv (z<=c/\(c-z)<(c-x)))))))) (pA y x=dg y/\True))
def Z8:∀y,UI y=QqA y:=λy=>by kernel_rfl
end
end sx
end Go.Proofs.YtiiiphndmbabcaaGreat
