/- StreamAgain: a part of the proof. -/
import Derived.Test.YtfkmlhnhkdbjeaaGreatC9
import Derived.Test.YtfkmlhnhkdbjeaaGreatC8
import Derived.Shelf.SlGeneric
import Derived.Shelf.SlSortCmp.WholeK
import Derived.Ground.SlsfProg
import Derived.Ground.NamesProg
import Derived.Shelf.Strings.Builder1
import Derived.Shelf.LaysM
import Derived.Test.YtfkmlhnhkdbjeaaGreatProg
import Derived.Test.YtfkmlhnhkdbjeaaGreatC2
import Derived.Lib.MinMax
import Derived.Deep.DeepMust
import Derived.RegionTactic
import Derived.Shelf.SlSortCmp.NoneTotal
import Derived.Test.YtfkmlhnhkdbjeaaGreatC4
import Derived.Test.YtfkmlhnhkdbjeaaGreatC3
import Derived.Deep.RegionHeld3
import Derived.Shelf.Spec.SlicesInsert
import Derived.Lib.AppendZerosOnto
import Derived.Laws.NewBlocks
import Derived.Test.YtfkmlhnhkdbjeaaGreatC7
import Derived.WalkKit
import Derived.ProofKit
set_option linter.all false
namespace Go.Proofs.YtfkmlhnhkdbjeaaGreat
open Go.Proofs.Tryz
set_option maxRecDepth 100000
set_option maxHeartbeats 4000000
namespace sx
noncomputable section
open Go Go.RowKit cls syn
def YL (y:List db):Prop:=(∃z:Nat,RAP y (ab y) (0=ab (List.take z y)/\0=(z:Int)/\[]=List.take z y/\(Iv (z<=y.length))))/\(∀x:Nat,let a:=y.length;let q1:=List.take x y;let c:=aD (x:Int) (ab y);let b:=gt (db.mk false 0 0 0 0 0 0 0 0 0 0 []) y (x:Int).toNat;let d:=ab (bn q1 [b]);(Iv (x<=a))->aj c (aM 0 (x:Int)/\c/\ba (ab b.aU) 88/\ba d 112/\∃z:Nat,RAP y (ab y) (d=ab (List.take z y)/\ay .i64 (x:Int) 1=(z:Int)/\bn q1 [b]=List.take z y/\(Iv (z<=a/\(a-z)<(a-x))))) (ab q1=ab y/\q1=y/\True))
def Qfk (y:mJ):Prop:=let a:=rE (y.p.ag.length:Int);Iv (pb y.p)/\RA2 y.p (Iv (Hh y)/\aa [y.p.ag] (aa [y.p.ai] (aa [y.m] (aa [y.L] (aj (!(jX y)) (False) (Iv (zN y.L)/\aa [y.L] (aa [y.m,y.m] (aa [y.L] (aa [y.p.ag] (aa [y.p.ai] (aa [y.m,ab y.L,ab a,ab gI] (aa [gI] (aa [a] (aa [y.L] (True)))))))))))))))
def Qfl (y:qD):Prop:=Iv ((y.h=[])\/(gy y.h))/\RAO y.h (aj (aE 0 0) (Iv (Hh y.v)/\aa [y.v.p.ag] (aa [y.v.p.ai] (aa [y.v.m] (aa [y.v.L] (aa [jX y.v] (True)))))) (false=jX y.v/\True))
def Qfm (y:qD):Prop:=let a:=y.h.length;let q1:=rE (y.v.p.ag.length:Int);let b:=ite (a<=4) (a:Int) 4;Iv (QoG y.v)/\RA2 y.v.p (RAP y.v.m y.v.L (Iv ((y.h=[])\/(gy y.h))/\aa [y.h] (aj (!(aE 0 0)) (False) (aa [y.v.p.ag] (aa [y.v.p.ai] (aa [y.v.m,ab y.v.L,ab q1,ab gI] (aa [gI] (aa [q1] (aa [y.v.L] (aa [df y.h 0,df y.h 1,df y.h 2,df y.h 3,b] (True)))))))))))
def Qfn (y:qD×Int):Prop:=Iv (NO y.1)/\RA2 y.1.v.p (RAQ y.1.h y.1.v.m y.1.v.L (aj (jX y.1.v) (aE (ay .i64 y.1.v.m (ab y.1.h)) y.2=u0 y/\True) (false=u0 y/\True)))
theorem Qw7 (y:List db) (a:zN y):YL y:=by
 unfold YL;simp only[bN,bj,aw,bq,a_,dL,Zad];have⟨h1,b⟩:=a;refine⟨⟨0,rfl,rfl,rfl,Zaj _⟩,λx c=>⟨λk=>?_,λk=>?_⟩⟩
 ·grind [List.take_append_getElem]
 ·grind
def QoJ:Ok YK:=okZ [] f85 QwZ trivial Qw7
def Qif {y:mJ} (h:Hh y):zN y.L:=⟨h.2.1,h.2.2⟩
def QoK (a:Ok cW):Ok QcH:=okZ (V:=Qfk) [Wy,QE,YK] f45 (λ_=>dk ()) ⟨QeU a,Qfj a,QoJ⟩ λy c=>by
 unfold Qfk;simp only[cE,Zai,cC];have⟨h1,b⟩:=c;exact⟨h1.1,h1,λe=>by(rw[b] at e;cases e),λ_=>Qif h1⟩
def QoL (b:Ok cW):Ok QcI:=okZ (V:=Qfl) [uoC,QE] f82 (λ_=>dk ()) ⟨QgI,Qfj b⟩ λy a=>by
 unfold Qfl;simp only[ej,cC,iA];exact⟨a.2.1,λ_=>a.1,λe=>absurd rfl e⟩
def QoM (b:Ok cW):Ok QcJ:=okZ (V:=Qfm) [QcH,uoC] f20 (λ_=>dk ()) ⟨QoK b,QgI⟩ λy a=>by
 unfold Qfm;simp only[bj,ib,iA,Zan,Zao];exact⟨⟨a.1.1,a.2⟩,a.1.2.1,λe=>e rfl,λ_=>trivial⟩
theorem QoN (a:Ok cW):Ok QcK:=okZ (V:=Qfn) [QcI] f41 (λ_=>dk ()) (QoL a) λy b=>by
 unfold Qfn;simp only[cE,cC];exact⟨b,λe=>by grind [u0],λe=>by grind [u0]⟩
structure Ce where
 h:By
 m:Int
 L:List db
def snL (y:Ce):List (AV D.E):=[.list 0 y.h,.int .i64 y.m,.list 2 y.L]
def QcQ (h m l:AV D.E) (s:St D.E):C Ce:=aB (aW D s 0 h) λh=>aP (cQ m) λ_ m=>aB (aW D s 2 l) λl=>.ret ⟨(h:By),m,(l:List db)⟩
def sC (y:Ce):Bool:=aE (ab y.h) 0&&aE y.m 0&&aE (ab y.L) 0
def QcR:bp D:=cq 42 Ce (λa s=>match a with
 | [v]=>aB (asAgg v) λcs=>match cs with
  | [h,m,l]=>QcQ h m l s
  | _=>.fail
 | _=>.fail) (λ_=>True) (λy=>[.agg (snL y)]) λy=>.bool (sC y)
structure Q3 where
 l:List db
 n:Int
 z:Int
def edC (d:Bool) (z:Int) (t:a7):Bool:=(qA t).all λx=>decide (-1<=x)&&decide (x<=z)&&(d||decide (x= -1))
def YM (y:Q3) (i:Nat):Bool:=decide ((y.l.getD i pB).aU.length=0)&&edC (y.l.getD i pB).done y.z (Zn (y.l.getD i pB))
def sD (y:Q3):Nat->Bool
 | 0=>true
 | k+1=>sD y k&&YM y k
def o7 (y:Q3):Bool:=lk (decide ((y.l.length:Int)=y.n)&&sD y y.l.length)
def QH:bp D:=cq 43 Q3 (λa s=>match a with
 | [l,n,z]=>aB (aW D s 2 l) λl=>aP (cQ n) λ_ n=>aP (cQ z) λ_ z=>.ret ⟨(l:List db),n,z⟩
 | _=>.fail) (λy=>y.l.length<=1000) (λy=>[.list 2 y.l,Qyy y.n,Qyy y.z]) λy=>.bool (o7 y)
def Qw9 (y:QH.Y):dj D:=⟨[],[],[(58,⟨Nat,[2,15,16],λk=>[(17,Qyy k)],[],λ_=>[],0,λk=>k<=(Q3.l y).length/\sD y k,λk=>(Q3.l y).length-k⟩)],[],11,[]⟩
def Qfo (y:Ce):Prop:=aj (aE (ab y.h) 0) (aj (aE y.m 0) (aE (ab y.L) 0=sC y/\True) (false=sC y/\True)) (false=sC y/\True)
def YN (y:Q3):Prop:=let b:=y.l.length;let q1:=ab y.l;let u:=λp:Prop=>RAQ y.z y.l q1 p;aj (!(aE q1 y.n)) (false=o7 y/\True) ((∃z:Nat,u (0=(z:Int)/\(Iv (z<=b/\sD y z))))/\(∀x:Nat,let a:=gt (db.mk false 0 0 0 0 0 0 0 0 0 0 []) y.l (x:Int).toNat;let v:=aD 0 (ab a.aU);let w:=!(aE a.c5 (-1));let A:=!(aE a.c4 (-1));let B:=!(aE a.c2 (-1));let C:=!(aE a.c6 (-1));let D:=!(aE a.c3 (-1));let o:=!(aE a.c7 (-1));let q:=!(aE a.c0 (-1));let r:=!(aE a.c1 (-1));let s:=!(aE a.c9 (-1));let t:=!(aE a.c8 (-1));let c:Prop:=(∃z:Nat,u (ay .i64 (x:Int) 1=(z:Int)/\(Iv ((z<=b/\sD y z)/\(b-z)<(b-x)))));let d:Prop:=(aj (aD a.c9 (-1)) (false=o7 y/\True) (aj (aD y.z a.c9) (false=o7 y/\True) (aj (!a.done) (aj s (false=o7 y/\True) (c)) (c))));let e:Prop:=(aj (aD a.c8 (-1)) (false=o7 y/\True) (aj (aD y.z a.c8) (false=o7 y/\True) (aj (!a.done) (aj t (false=o7 y/\True) (d)) (d))));let f:Prop:=(aj (aD a.c7 (-1)) (false=o7 y/\True) (aj (aD y.z a.c7) (false=o7 y/\True) (aj (!a.done) (aj o (false=o7 y/\True) (e)) (e))));let g:Prop:=(aj (aD a.c6 (-1)) (false=o7 y/\True) (aj (aD y.z a.c6) (false=o7 y/\True) (aj (!a.done) (aj C (false=o7 y/\True) (f)) (f))));let h:Prop:=(aj (aD a.c5 (-1)) (false=o7 y/\True) (aj (aD y.z a.c5) (false=o7 y/\True) (aj (!a.done) (aj w (false=o7 y/\True) (g)) (g))));let i:Prop:=(aj (aD a.c4 (-1)) (false=o7 y/\True) (aj (aD y.z a.c4) (false=o7 y/\True) (aj (!a.done) (aj A (false=o7 y/\True) (h)) (h))));let j:Prop:=(aj (aD a.c3 (-1)) (false=o7 y/\True) (aj (aD y.z a.c3) (false=o7 y/\True) (aj (!a.done) (aj D (false=o7 y/\True) (i)) (i))));let k:Prop:=(aj (aD a.c2 (-1)) (false=o7 y/\True) (aj (aD y.z a.c2) (false=o7 y/\True) (aj (!a.done) (aj B (false=o7 y/\True) (j)) (j))));let m:Prop:=(aj (aD a.c1 (-1)) (false=o7 y/\True) (aj (aD y.z a.c1) (false=o7 y/\True) (aj (!a.done) (aj r (false=o7 y/\True) (k)) (k))));(Iv (x<=b/\sD y x))->aj (aD (x:Int) q1) (aM 0 (x:Int)/\aD (x:Int) q1/\aj v (false=o7 y/\True) (aj (aD a.c0 (-1)) (false=o7 y/\True) (aj (aD y.z a.c0) (false=o7 y/\True) (aj (!a.done) (aj q (false=o7 y/\True) (m)) (m))))) (true=o7 y/\True)))
theorem QoO:Ok QcR:=okZ (V:=Qfo) [] f42 (λ_=>dk ()) trivial λy _=>by
 grind [Qfo,sC]
theorem KX (y:Q3):o7 y=(decide ((y.l.length:Int)=y.n)&&sD y y.l.length):=az _
theorem NP {y:Q3}:∀{n k:Nat},k<=n->sD y n->sD y k
 | 0,k,h,e=>by
  obtain rfl:k=0:=ω;exact e
 | n+1,k,h,e=>by
  rw[sD,ZaW] at e;by_cases hk:k=n+1
  ·grind [sD]
  ·exact NP ω e.1
theorem QoP {y:Q3} {x:Nat} (a:x<y.l.length) (h:YM y x=false):false=o7 y:=by
 rw[KX];cases e:sD y y.l.length with
 | false=>simp
 | true=>
  have:=NP (show x+1<=y.l.length by omega) e;grind [sD]
def NQ (c z:Int) (d:Bool):Bool:=decide (-1<=c)&&decide (c<=z)&&(d||decide (c= -1))
theorem QcU {c z:Int} {d:Bool} {A q:Prop} (h1:NQ c z d=false->A) (a:NQ c z d->q):aj (aD c (-1)) (A/\True) (aj (aD z c) (A/\True) (aj (!d) (aj (!(aE c (-1))) (A/\True) q) q)):=by
 grind [NQ]
theorem Qxb (y:Q3) (c:QH.pre y):YN y:=by
 replace c:y.l.length<=1000:=c;unfold YN;rw[lG];refine⟨λk=>?_,λk=>⟨?_,λx g=>?_⟩⟩
 ·grind [KX]
 ·simp only[cE,cC];exact⟨0,rfl,Zaj _,rfl⟩
 ·simp only[cC] at g;rw[lG];refine⟨λh=>?_,λh=>?_⟩
  ·simp only[gF,aw] at h;have b:x<y.l.length:=ω;have i:YM y x=false->false=o7 y:=QoP b;have f:YM y x->sD y (x+1):=λe=>by grind [sD]
   have a:(⟨false,0,0,0,0,0,0,0,0,0,0,[]⟩:db)=pB:=rfl;have hu:YM y x=(decide ((y.l.getD x pB).aU.length=0)&&edC (y.l.getD x pB).done y.z (Zn (y.l.getD x pB))):=rfl;have hi:ay .i64 (x:Int) 1=((x+1:Nat):Int):=bA ω ω;simp only[a,dL,Zad,cE,cC,gg,gF,aw,hi];generalize y.l.getD x pB=t at*
   have d:edC t.done y.z (Zn t)=(NQ t.c0 y.z t.done&&NQ t.c1 y.z t.done&&NQ t.c2 y.z t.done&&NQ t.c3 y.z t.done&&NQ t.c4 y.z t.done&&NQ t.c5 y.z t.done&&NQ t.c6 y.z t.done&&NQ t.c7 y.z t.done&&NQ t.c8 y.z t.done&&NQ t.c9 y.z t.done):=by
    simp[edC,Zn,qA,NQ,Bool.and_assoc]
   rw[d] at hu;refine⟨ω,h,?_⟩;rw[lG];grind [QcU]
  ·grind [KX]
def QoQ:Ok QH:=okZ [] f43 Qw9 trivial Qxb
end
end sx
namespace sx
open Go Go.RowKit cls syn
variable {p:iY}
theorem Hj (ag:List a8) (a:List Bool) {F:Int->Bool} {k:Int} (h:F k):∀n,wtG ag a n F k
 | 0=>h
 | n+1=>by
  have:=Hj ag a h n;rw[wtG];split<;>simp[this]
def QoR (p:iY):(wm p).L=p.ai.map fL:=by simp[wm,OO,Qhv,jH]
theorem QcV {i:Nat} (hi:i<p.ai.length):(p.ai.map fL).getD i pB=fL (p.ai.getD i 0):=by
 grind
theorem YO {i:Nat} (hi:i<p.ai.length):Cd ⟨p,0,p.ai.map fL⟩ i:=by
 show(!(!((p.ai.map fL).getD i pB).done&&!wlN ((p.ai.map fL).getD i pB))&&gU (Zn ((p.ai.map fL).getD i pB)) 0&&sA ⟨p,i,(p.ai.map fL).getD i pB,0⟩)
 rw[QcV hi];generalize a:p.ai.getD i 0=st;have hs:wtS ⟨p,i,fL st,0⟩=st:=by assumption
 have hw:sA ⟨p,i,fL st,0⟩:=by
  unfold sA;rw[hs];show wtT 0 [⟨st,-1,-1,-1,-1,-1,-1,-1,-1,-1,-1⟩] _
  rw[wtT,Hj _ _ (by simp)];rfl
 rw[hw];rfl
theorem KY {p:iY}:jX ⟨p,0,p.ai.map fL⟩:=by
 rw[rA];have:∀n,n<=p.ai.length->iV ⟨p,0,p.ai.map fL⟩ n:=λn=>by
  induction n with
  | zero=>exact λ_=>rfl
  | succ n a=>exact λh=>by grind [iV,YO]
 grind
def QcW (h:pb p):Hh ⟨p,0,p.ai.map fL⟩:=by
 refine⟨h,?_,λl hl=>?_⟩
 ·show(p.ai.map fL).length<=1000
  rw[Za2];have:=h.2.1;omega
 ·obtain⟨s,_,rfl⟩:=ZcL.1 hl;show 1<=1000000
  decide
end sx
set_option maxRecDepth 100000
set_option maxHeartbeats 4000000
namespace sx
noncomputable section
open Go Go.RowKit cls syn
def QcX:bp D:=⟨44,mD,Qbm,λ_=>True,λ_=>[.ptr 0 0],BR,λy=>Qyy (ab y.s.r),BR,3,3⟩
structure po where
 ru:mD
 st:GM
 bg:Ce
 ax:Ce
 aT:Ce
def Au (p:iY) (s:Ce):qD:=⟨⟨p,s.m,s.L⟩,s.h⟩
def wsN (y:po):Int:=if y.st.aO=true then 0 else dE .i64 y.st.pos y.st.aF
def wsT (p:iY) (s:Ce) (n:Int):Bool:=u0 (Au p s,n)
def Hk (y:po):Bool:=lk (!(aD y.st.aF 0||aD y.st.pos y.st.aF||aD 1099511627776 y.st.pos||!(y.st.aO==aD 200 (dE .i64 y.st.pos y.st.aF)))&&(wsT y.ru.p y.ax (wsN y)&&(if m_ y.ru=true then wsT y.ru.q y.aT (wsN y) else sC y.aT))&&
  (if y.st.nE=false then aE y.st.aK 0&&aE y.st.size 0&&aE (ab y.st.aL) 0&&sC y.bg
   else m_ y.ru&&!y.st.aO&&aM 0 y.st.size&&aM y.st.size 500&&aM 0 y.st.aK&&aE y.st.aK (dE .i64 (dE .i64 y.st.aF y.st.size) 1)&&o7 ⟨y.st.aL,ab y.ru.s.r,y.st.size⟩&&wsT y.ru.p y.bg (ay .i64 (ay .i64 y.st.size 1) (wsN y))))
def wsP (y:po):Prop:=NO (Au y.ru.p y.ax)/\NO (Au y.ru.p y.bg)/\Mg y.ru.q/\(m_ y.ru->NO (Au y.ru.q y.aT))/\y.st.aL.length<=1000
def wsA (y:po):AV D.E:=GN y.st (snL y.bg) (snL y.ax) (snL y.aT)
def Qig (r x:AV D.E) (s:St D.E):C po:=aB (Qbl r s) λr=>aB (asAgg x) λcs=>match cs with
  | [p,l,g,o,e,z,n,h1,p1,h,b,p2,i,f,p3,j]=>aP (cQ p) λ_ p=>aP (cQ l) λ_ l=>aP (xg g) λg _=>aP (xg o) λo _=>aP (cQ e) λ_ e=>aP (cQ z) λ_ z=>aB (aW D s 2 n) λn=>aB (QcQ h1 p1 h s) λc=>aB (QcQ b p2 i s) λa=>aB (QcQ f p3 j s) λd=>.ret ⟨r,⟨p,l,g,o,e,z,n⟩,c,a,d⟩
  | _=>.fail
def QcY:bp D:=⟨19,po,λa s=>match a with
 | [r,x]=>Qig r x s
 | _=>.fail,wsP,λy=>[.ptr 0 0,wsA y],λy=>BR y.ru,λy=>.bool (Hk y),λy=>BR y.ru,3,3⟩
def Qfq (y:mD):Prop:=aa [ab y.s.r] (cJ y (True))
abbrev RA1 (v:Ce) (p:Prop):Prop:=aa [v.h] (aa [v.m] (aa [v.L] p))
abbrev RAC (v:po) (p:Prop):Prop:=aa [v.st.aL] (aa [v.st.aL] (aa [v.st.size] (aa [v.st.size] p)))
def YP (y:po):Prop:=let B:=ab y.ru.s.r;let q1:=aD y.st.pos y.st.aF;let i:=!(seq y.ru.s.c []);let j:=dE .i64 y.st.pos y.st.aF;let C:=aD 500 y.st.size;let H:=aD 1099511627776 y.st.pos;let D:=ay .i64 y.st.size 1;let E:=aE (ab y.st.aL) 0;let w:=qD.mk (mJ.mk y.ru.p y.bg.m y.bg.L) y.bg.h;let x:=qD.mk (mJ.mk y.ru.q y.aT.m y.aT.L) y.aT.h;let e:=qD.mk (mJ.mk y.ru.p y.ax.m y.ax.L) y.ax.h;let k:=o7 (Q3.mk y.st.aL B y.st.size);let l:=ay .i64 D 0;let z:=!(sN y.st.aO (aD 200 j));let n:=!(aE y.st.aK (dE .i64 (dE .i64 y.st.aF y.st.size) 1));let o:=ay .i64 D j;let A:=!(u0 (e,j));let t:=λp:Prop=>RA1 y.aT (RA1 y.ax (RA1 y.ax (RA2 y.ru.q (RA1 y.aT (RA1 y.aT p)))));let u:=λp:Prop=>RA1 y.aT (RA1 y.ax (RA1 y.ax (RA1 y.aT p)));let f:=λp:Prop=>RA1 y.ax (RA1 y.ax (RA2 y.ru.q (RA1 y.aT p)));let v:=λp:Prop=>RAQ y.st.aL B y.st.size p;let g:=λp:Prop=>RA1 y.ax (RA1 y.ax p);let a:Prop:=(false=Hk y/\cJ y.ru (True));let I:=aj (aE y.st.aK 0) (aj (aE y.st.size 0) (aj E (Iv True/\RA1 y.bg (sC y.bg=Hk y/\cJ y.ru (True))) (a)) (a)) (a);let b:Prop:=(aj (!y.st.nE) I (aj (!i) (a) (aj y.st.aO (a) (aj (aD y.st.size 0) (a) (aj C (a) (aj (aD y.st.aK 0) (a) (aj n (a) (Iv True/\cJ y.ru (Iv (y.st.aL.length<=1000)/\v (aj k (Iv (GD y.ru)/\cJ y.ru (Iv (NO w)/\RA2 y.ru.p (RA1 y.bg (RAO l (RAC y (RA1 y.bg (RA1 y.bg (RAP y.st.size y.st.size (u0 (w,l)=Hk y/\cJ y.ru (True)))))))))) (RAC y (a))))))))))));let d:Prop:=(aj (!y.st.nE) I (aj (!i) (a) (aj y.st.aO (a) (aj (aD y.st.size 0) (a) (aj C (a) (aj (aD y.st.aK 0) (a) (aj n (a) (Iv True/\cJ y.ru (Iv (y.st.aL.length<=1000)/\v (aj k (Iv (GD y.ru)/\cJ y.ru (Iv (NO w)/\RA2 y.ru.p (RA1 y.bg (RAO o (RAC y (RA1 y.bg (RA1 y.bg (RAP y.st.size y.st.size (u0 (w,o)=Hk y/\cJ y.ru (True)))))))))) (RAC y (a))))))))))));let F:Prop:=(RA1 y.aT (aj (!(sC y.aT)) (a) (b)));let G:Prop:=(RA1 y.aT (aj (!(sC y.aT)) (a) (d)));aj (aD y.st.aF 0) (a) (aj q1 (a) (aj H (a) (aj z (a) (aj y.st.aO (Iv (PT y.ru)/\cJ y.ru (Iv (GD y.ru)/\cJ y.ru (Iv (NO e)/\RA2 y.ru.p (RA1 y.ax (RAG (aj (!(u0 (e,0))) (g (a)) (aj i (Iv (NO x)/\aa [y.ru.q.ag] (aa [y.ru.q.ai] (aa [y.aT.h] (aa [y.aT.m] (aa [y.aT.L] (aa ([0]:List Int) (aj (!(u0 (x,0))) (f (a)) (aj (!i) (Iv True/\t (aj (!(sC y.aT)) (a) (b))) (f (b)))))))))) (aj (!i) (Iv True/\u (aj (!(sC y.aT)) (a) (b))) (g (b)))))))))) (Iv (PT y.ru)/\cJ y.ru (Iv (GD y.ru)/\cJ y.ru (Iv (NO e)/\RA2 y.ru.p (RA1 y.ax (RAO j (aj A (g (a)) (aj i (Iv (NO x)/\aa [y.ru.q.ag] (aa [y.ru.q.ai] (aa [y.aT.h] (aa [y.aT.m] (aa [y.aT.L] (aa [j] (aj (!(u0 (x,j))) (f (a)) (aj (!i) (Iv True/\t (aj (!(sC y.aT)) (a) (d))) (f (d)))))))))) (aj (!i) (Iv True/\u (aj (!(sC y.aT)) (a) (d))) (g (d))))))))))))))
def QoT:Ok QcX:=okZ (V:=Qfq) [] f44 (λ_=>dk ()) trivial λ(y:mD) _=>by
 unfold Qfq;simp only[cE,cD]
theorem QoU (a b:Int):aM a b=!(aD b a):=by
 grind
theorem Qxe (y:po) (h:wsP y):YP y:=by
 have⟨h1,b,e,a,i⟩:=h;have l:GD y.ru:=h1.1.1.pg;have d:Hk y=_:=az _;unfold YP;simp only[ej,cD,cC];unfold wsT wsN Au at d;unfold Au at h1 b a;have g:m_ y.ru=!(seq y.ru.s.c []):=rfl;rw[g] at d a;generalize Hk y=W at*
 subst d;have j:=h1;have k:=b;have m:PT y.ru:=e;have f:=a;clear h1 b e a
 with_reducible repeat' first | assumption | apply And.intro | intro _
 all_goals first | (exact f (by assumption)) | (simp_all;done) | skip
 all_goals simp_all [sN,QoU]
def QoV (a:Ok cW):Ok QcY:=okZ [PU,PV,QcX,QcK,QcR,QH] f19 (λ_=>dk ()) ⟨QeS,QeT,QoT,QoN a,QoO,QoQ⟩ Qxe
def zD (y:List db×Bool):Prop:=y.1.length<=1000/\y.2=aE (ab y.1) 0
def Hl:bp D:=cq 17 (List db×Bool) (λa s=>match a with
 | [l]=>aB (aW D s 2 l) λl=>.split (aE (ab (l:List db)) 0) (.ret ((l:List db),true)) (.ret ((l:List db),false))
 | _=>.fail) zD (λy=>[.list 2 y.1]) λy=>match y.2 with
 | true=>.dc
 | false=>.list 2 (List.map lY y.1)
def QoW (y:Hl.Y):dj D:=match Prod.snd y with
 | true=>⟨[],[],[],[],1,[]⟩
 | false=>⟨[],[],[(58,⟨Nat,[6,7],λk=>[(3,.grow 2 (List.map lY (List.take k (Prod.fst y:List db))) 0),(8,Qyy k)],[],λ_=>[(0,.tok 2 113)],1,λk=>k<=List.length (Prod.fst y:List db),λk=>List.length (Prod.fst y:List db) -k⟩)],[],1,[]⟩
def KZ (y:List db):Prop:=let a:=gt (db.mk false 0 0 0 0 0 0 0 0 0 0 []) y 0;aj (aD 0 (ab y)) (Tt 1 (aD 0 (ab y)/\ba (ab [db.mk a.done a.c0 a.c1 a.c2 a.c3 a.c4 a.c5 a.c6 a.c7 a.c8 a.c9 []]) 112/\False)) (True)
def K0 (y:List db):Prop:=(∃z:Nat,RAP y (ab y) ([]=List.map lY (List.take z y)/\0=(z:Int)/\(Iv (z<=y.length))))/\(∀x:Nat,let b:=y.length;let q1:=List.map lY (List.take x y);let c:=aD (x:Int) (ab y);let a:=gt (db.mk false 0 0 0 0 0 0 0 0 0 0 []) y (x:Int).toNat;let d:=bn q1 [db.mk a.done a.c0 a.c1 a.c2 a.c3 a.c4 a.c5 a.c6 a.c7 a.c8 a.c9 []];(Iv (x<=b))->aj c (aM 0 (x:Int)/\c/\ba (ab d) 112/\∃z:Nat,RAP y (ab y) (d=List.map lY (List.take z y)/\ay .i64 (x:Int) 1=(z:Int)/\(Iv (z<=b/\(b-z)<(b-x))))) (q1=List.map lY y/\True))
theorem QoZ (y:List db) (a:Hl.pre (y,true)):KZ y:=by
 obtain⟨h1,b⟩:y.length<=1000/\true=aE (ab y) 0:=a;grind [KZ]
theorem Qo0 (y:List db) (a:Hl.pre (y,false)):K0 y:=by
 obtain⟨a,_⟩:y.length<=1000/\false=aE (ab y) 0:=a;unfold K0;simp only[ej,cC,gg,gF,iz,aw,Zad,bq,a_];refine⟨⟨0,rfl,rfl,Zaj _⟩,λx b=>⟨λk=>?_,λk=>?_⟩⟩
 ·grind [lY,List.take_append_getElem]
 ·grind
def Qo1:Ok Hl:=QyR (k:=Hl) (T:=KZ) (F:=K0) [] f17 QoW id id (λ_=>rfl) trivial QoZ Qo0
def Qo2 (y:po):aG:=⟨y.ru,y.st.pos,y.st.aF,0,0,y.st.aO,[],Qie (Au y.ru.p y.ax),Qie (Au y.ru.q y.aT),fl⟩
def K5 (y:po×Bool):Prop:=wsP y.1/\Hk y.1/\y.1.st.nE=false/\fO (y.1.ru,y.2)
def Hm:bp D:=⟨12,po×Bool,λa s=>match a with
 | [r,x]=>aB (Qig r x s) λy=>.split (m_ y.ru) (.ret (y,true)) (.ret (y,false))
 | _=>.fail,K5,λy=>[.ptr 0 0,wsA y.1],λy=>BR y.1.ru,λ_=>.tuple [.ptr 3 0,.num .i64 0],λy=>match y.2 with
 | true=>fa .c 4 (Qo2 y.1)
 | false=>fa .n 4 (Qo2 y.1),3,25⟩
def Qo3 (y:Hm.Y):dj D:=⟨[(7,.rR 4 10 0),(7,.rR 4 11 0)],[],[],[],1,[]⟩
def Qo4:vU:=[QcY,Kf,Hl,QcJ]
abbrev RA7 (v:GM) (p:Prop):Prop:=aa [v.pos] (aa [v.aF] (aa [v.aO] (aa [v.nE] (aa [v.aK] (aa [v.size] (aa [v.aL] p))))))
def K8 (y:po):Prop:=let f:=y.ax.h.length;let q1:=y.aT.h.length;let g:=rE (y.ru.p.ag.length:Int);let i:=rE (y.ru.q.ag.length:Int);let j:=aE (ab y.st.aL) 0;let l:=ite (f<=4) (f:Int) 4;let n:=ite (q1<=4) (q1:Int) 4;let e:=λp:Prop=>RA2 y.ru.p (RA1 y.ax (RA2 y.ru.p (RA1 y.ax p)));let k:=λp:Prop=>RA2 y.ru.q (RA1 y.aT (RA2 y.ru.q (RA1 y.aT p)));let d:=λp:Prop=>RAQ y.st.pos y.st.aF y.st.aO p;let a:=λp:Prop=>RA2 y.ru.p (RA1 y.bg (RA2 y.ru.p (RA1 y.bg p)));let b:=λp:Prop=>RAO y.st.aL p;let u:=o6 (qD.mk (mJ.mk y.ru.p y.ax.m y.ax.L) y.ax.h);let A:=o6 (qD.mk (mJ.mk y.ru.p y.bg.m y.bg.L) y.bg.h);let c:Prop:=(b (Iv u/\e (aj y.st.nE (Iv A/\a (dN y.ru (False))) (dN y.ru (False)))));let B:=dN y.ru (d (y.st.nE=false/\False));let F:=o6 (qD.mk (mJ.mk y.ru.q y.aT.m y.aT.L) y.aT.h);Iv (wsP y)/\RA7 y.st (RA1 y.bg (RA1 y.ax (RA1 y.aT (cJ y.ru (aj (!(Hk y)) (False) (aj (m_ y.ru) (Iv (fO (y.ru,true))/\cJ y.ru (aE y.st.aK 0=true/\aE y.st.size 0=true/\aj j (Iv (zD (y.st.aL,true))/\b (Iv u/\e (Iv F/\k (aj y.st.nE (Iv A/\a B) (dN y.ru (d (y.st.nE=false/\aa [y.ru.q.ag] (aa [y.ru.q.ai] (aa [y.aT.m,ab y.aT.L,ab i,ab gI] (aa [gI] (aa [i] (aa [y.aT.L] (aa [df y.aT.h 0,df y.aT.h 1,df y.aT.h 2,df y.aT.h 3,n] (aa [y.ru.p.ag] (aa [y.ru.p.ai] (aa [y.ax.m,ab y.ax.L,ab g,ab gI] (aa [gI] (aa [g] (aa [y.ax.L] (aa [df y.ax.h 0,df y.ax.h 1,df y.ax.h 2,df y.ax.h 3,l] (cJ y.ru (True)))))))))))))))))))))) (Iv (zD (y.st.aL,false))/\b (Iv u/\e (Iv F/\k (aj y.st.nE (Iv A/\a B) B)))))) (Iv (fO (y.ru,false))/\cJ y.ru (aE y.st.aK 0=true/\aE y.st.size 0=true/\aj j (Iv (zD (y.st.aL,true))/\c) (Iv (zD (y.st.aL,false))/\c)))))))))
def K9 (y:po):Prop:=let e:=y.ax.h.length;let q1:=rE (y.ru.p.ag.length:Int);let f:=aE (ab y.st.aL) 0;let i:=ite (e<=4) (e:Int) 4;let b:=λp:Prop=>RAO y.st.aL p;let c:=λp:Prop=>RA2 y.ru.p (RA1 y.ax (RA2 y.ru.p (RA1 y.ax p)));let d:=λp:Prop=>RA2 y.ru.p (RA1 y.bg (RA2 y.ru.p (RA1 y.bg p)));let a:=λp:Prop=>RAQ y.st.pos y.st.aF y.st.aO p;let u:=o6 (qD.mk (mJ.mk y.ru.p y.ax.m y.ax.L) y.ax.h);let A:=o6 (qD.mk (mJ.mk y.ru.p y.bg.m y.bg.L) y.bg.h);let g:Prop:=(b (Iv u/\c (Iv (o6 (qD.mk (mJ.mk y.ru.q y.aT.m y.aT.L) y.aT.h))/\RA2 y.ru.q (RA1 y.aT (RA2 y.ru.q (RA1 y.aT (aj y.st.nE (Iv A/\d (dN y.ru (False))) (dN y.ru (False)))))))));let B:=dN y.ru (a (y.st.nE=false/\False));Iv (wsP y)/\RA7 y.st (RA1 y.bg (RA1 y.ax (RA1 y.aT (cJ y.ru (aj (!(Hk y)) (False) (aj (m_ y.ru) (Iv (fO (y.ru,true))/\cJ y.ru (aE y.st.aK 0/\aE y.st.size 0/\aj f (Iv (zD (y.st.aL,true))/\g) (Iv (zD (y.st.aL,false))/\g))) (Iv (fO (y.ru,false))/\cJ y.ru (aE y.st.aK 0/\aE y.st.size 0/\aj f (Iv (zD (y.st.aL,true))/\b (Iv u/\c (aj y.st.nE (Iv A/\d B) (dN y.ru (a (y.st.nE=false/\aa [y.ru.p.ag] (aa [y.ru.p.ai] (aa [y.ax.m,ab y.ax.L,ab q1,ab gI] (aa [gI] (aa [q1] (aa [y.ax.L] (aa [df y.ax.h 0,df y.ax.h 1,df y.ax.h 2,df y.ax.h 3,i] (cJ y.ru (True)))))))))))))) (Iv (zD (y.st.aL,false))/\b (Iv u/\c (aj y.st.nE (Iv A/\d B) B)))))))))))
theorem zE {y:po} (h:Hk y) (a:y.st.nE=false):aE y.st.aK 0/\aE y.st.size 0/\aE (ab y.st.aL) 0/\jX ⟨y.ru.p,y.ax.m,y.ax.L⟩/\(m_ y.ru->jX ⟨y.ru.q,y.aT.m,y.aT.L⟩):=by
 grind [Hk,az,wsT,Au,u0]
theorem Qo7 (y:po) (i:Hm.pre (y,true)):K8 y:=by
 obtain⟨h1,e,f,g⟩:wsP y/\Hk y/\y.st.nE=false/\fO (y.ru,true):=i;have⟨k,e2,b,c,d⟩:=zE e f;have a:=g.2.2.2.symm;have j:o6 (qD.mk (mJ.mk y.ru.p y.ax.m y.ax.L) y.ax.h):=⟨h1.1,c⟩;have a2:o6 (qD.mk (mJ.mk y.ru.q y.aT.m y.aT.L) y.aT.h):=⟨h1.2.2.2.1 a,d a⟩;have a3:zD (y.st.aL,true):=⟨h1.2.2.2.2,b.symm⟩;unfold K8;simp only[cD,cC]
 with_reducible repeat' first | assumption | apply And.intro | intro _
 all_goals simp_all
theorem Qo8 (y:po) (f:Hm.pre (y,false)):K9 y:=by
 obtain⟨h1,c,d,e⟩:wsP y/\Hk y/\y.st.nE=false/\fO (y.ru,false):=f;have⟨i,e2,a,b,j⟩:=zE c d;have k:=e.2.2.2.symm;have g:o6 (qD.mk (mJ.mk y.ru.p y.ax.m y.ax.L) y.ax.h):=⟨h1.1,b⟩;have a3:zD (y.st.aL,true):=⟨h1.2.2.2.2,a.symm⟩;unfold K9;simp only[cD,cC]
 with_reducible repeat' first | assumption | apply And.intro | intro _
 all_goals simp_all
def Qo9 (a:Ok cW):Ok Hm:=QyR (k:=Hm) (T:=K8) (F:=K9) Qo4 f12 Qo3 id id (λ_=>rfl) ⟨QoV a,Qe8 a,Qo1,QoM a⟩ Qo7 Qo8
def Cf:bp D:=⟨10,aG,yY .n,wq .n,λ_=>[.ptr 3 0],fa .n 4,λy=>GN ⟨y.pos,y.aF,y.aO,false,0,0,[]⟩ Kh (nW y.ax) Kh,fa .n 4,25,25⟩
def ja (y:po):Int:=if y.st.nE=true then y.st.aK else y.st.aF
def K_:bp D:=⟨11,po×Bool,λa s=>match a with
 | [r,x]=>aB (Qig r x s) λy=>.split (m_ y.ru) (.ret (y,true)) (.ret (y,false))
 | _=>.fail,λy=>fO (y.1.ru,y.2),λy=>[.ptr 0 0,wsA y.1],λy=>BR y.1.ru,λy=>.tuple [GN ⟨ja y.1,ja y.1,false,false,0,0,[]⟩ Kh (nW (bu y.1.ru.p)) (match y.2 with
 | true=>nW (bu y.1.ru.q)
 | false=>Kh),.num .i64 0],λy=>BR y.1.ru,3,3⟩
def YU (y:aG):Prop:=Iv (0<=1000)/\RAL (Iv True/\Iv (uC y.ax.d/\zN y.ax.v.L)/\bC y.ax (Iv True/\aa [y.pos,y.pos,y.pos,y.pos,y.pos,y.aF,y.aF,y.aF,y.aF,y.aF] (aa [y.aO,y.aO,y.aO,y.aO,y.aO] (nY y (false=false/\aa ([0,0]:List Int) (List.map lY []=[]/\aa [di y.ax.d] (aa [y.ax.v.aq] (aa [y.ax.v.L] (dV y.ru (nY y (iM y.ax (True))))))))))))
abbrev RA6 (v:im) (p:Prop):Prop:=aa [v.v.aq] (aa [v.v.L] p)
def La (y:po):Prop:=let a:=bu y.ru.p;let q1:=bu y.ru.q;let b:Prop:=(false=false/\false=false/\RAF (RAL (aa [di a.d] (RA6 a ([]=di q1.d/\0=q1.v.aq/\[]=q1.v.L/\cJ y.ru (True))))));let e:Prop:=(false=false/\false=false/\RAF (RAL (aa [di a.d] (RA6 a (aa [di q1.d] (RA6 q1 (cJ y.ru (True))))))));aj (m_ y.ru) (Iv (fO (y.ru,true))/\cJ y.ru (Iv (wq aZ.c (aG.mk y.ru 0 0 0 0 false [] a q1 fl))/\dN y.ru (RAF (false=false/\bC q1 (bC a (cJ y.ru (aj y.st.nE (y.st.aK=ja y/\y.st.aK=ja y/\e) (y.st.aF=ja y/\y.st.aF=ja y/\e)))))))) (Iv (fO (y.ru,false))/\cJ y.ru (Iv (wq aZ.n (aG.mk y.ru 0 0 0 0 false [] a fl fl))/\dN y.ru (RAF (false=false/\bC a (cJ y.ru (aj y.st.nE (y.st.aK=ja y/\y.st.aK=ja y/\b) (y.st.aF=ja y/\y.st.aF=ja y/\b)))))))
def Lb (y:po):Prop:=let a:=bu y.ru.p;let f:=λp:Prop=>RAF (RAL (aa [di a.d] (RA6 a p)));let b:Prop:=(false=false/\false=false/\f (False));let e:Prop:=(false=false/\false=false/\f (cJ y.ru (True)));aj (m_ y.ru) (Iv (fO (y.ru,true))/\cJ y.ru (Iv (wq aZ.c (aG.mk y.ru 0 0 0 0 false [] a (bu y.ru.q) fl))/\dN y.ru (RAF (false=false/\bC (bu y.ru.q) (bC a (cJ y.ru (aj y.st.nE (y.st.aK=ja y/\y.st.aK=ja y/\b) (y.st.aF=ja y/\y.st.aF=ja y/\b)))))))) (Iv (fO (y.ru,false))/\cJ y.ru (Iv (wq aZ.n (aG.mk y.ru 0 0 0 0 false [] a fl fl))/\dN y.ru (RAF (false=false/\bC a (cJ y.ru (aj y.st.nE (y.st.aK=ja y/\y.st.aK=ja y/\e) (y.st.aF=ja y/\y.st.aF=ja y/\e)))))))
def YY:Ok Cf:=okZ (V:=YU) [Kg,Qc,Qd] f10 (λ_=>dk ()) ⟨Xu,Xv,Xw⟩ λ(y:aG) a=>by
 unfold YU;simp only[cE,cD,cF,Zai,Zal,cC];exact⟨Zaj _,a.1,rfl⟩
theorem Qpd (y:po) (a:K_.pre (y,true)):La y:=by
 have a:=a;have b:=a.2.2.2;unfold La;simp only[cE,cD,Zal,cC,lG,<-b,ZaX];refine⟨⟨a,⟨y6 a.1,y6 (a.2.2.1 b.symm),nofun⟩,λk=>?_,λk=>?_⟩,nofun⟩
 all_goals grind [ja]
theorem Qpe (y:po) (a:K_.pre (y,false)):Lb y:=by
 have a:=a;unfold Lb;simp only[cE,cD,Zal,cC,lG,<-a.2.2.2,ZaX];have b:scQ fl:=by
  refine⟨⟨by decide,by decide⟩,by decide,λl hl=>nomatch hl⟩
 refine⟨nofun,a,⟨y6 a.1,b,nofun⟩,λk=>?_,λk=>?_⟩
 all_goals grind [ja]
def Qpf (a:Ok cW):Ok K_:=QyR (k:=K_) (T:=La) (F:=Lb) [tQ,y4,Cf] f11 (λ_=>dk ()) id id (λ_=>rfl) ⟨DI a,Kn,YY⟩ Qpd Qpe
end
end sx
namespace sx
open Go Go.RowKit cls syn
def shO (d:Int) (x:cH):cH:={ x with pos:=x.pos+d }
structure Sh (d:Int) (f:aZ) (y z:aG):Prop where
 pos:z.pos=y.pos+d
 aF:z.aF=y.aF+d
 aK:f=.o->z.aK=y.aK+d
 size:z.size=y.size
 aO:z.aO=y.aO
 aL:z.aL=y.aL
 ax:z.ax=y.ax
 aT:z.aT=y.aT
 bg:z.bg=y.bg
variable {d:Int} {Z:aZ} {y z:aG}
theorem NR (e d:Int) (l:List db):fj (e+d) l=(fj e l).map (shO d):=by
 unfold fj;rw[az,az];generalize l.length=n
 induction n with
 | zero=>rfl
 | succ n a=>
  grind [dY,shO,PX]
def Sh.kd (h:Sh d Z y z) (c:Int):jw z c=jw y c:=by
 have:z.pos-z.aF=y.pos-y.aF:=by rw[h.pos,h.aF];omega
 unfold jw pD;rw[this,h.aO]
def Sh.ln (h:Sh d Z y z):pD z=pD y:=by
 have:z.pos-z.aF=y.pos-y.aF:=by rw[h.pos,h.aF];omega
 unfold pD;rw[this,h.aO]
def Sh.go (h:Sh d Z y z):D7 z=D7 y:=by
 unfold D7 HF;rw[h.ln,h.aT,h.size]
theorem Sh.out (h:Sh d Z y z) (c:Int):fC Z z c=(fC Z y c).map (shO d):=by
 unfold fC;rw[az,az,h.kd];have hl:tN z=shO d (tN y):=by simp[tN,shO,h.aF]
 cases Z<;>simp only[pj,h.go,h.aL,h.ax,h.aF,NR]
 case o=>
  rw[h.aK rfl,NR];grind
 all_goals grind
def Sh.byt (h:Sh d Z y z) (c:Int):Sh d (sK Z y c) (oS Z y c) (oS Z z c):=by
 refine⟨?_,?_,λe=>?_,?_,?_,?_,?_,?_,?_⟩<;>unfold oS<;>simp only
 ·rw[h.pos];omega
 ·unfold bV;rw[h.kd,h.pos,h.aF];split<;>omega
 ·unfold mf;cases Z<;>simp only[h.aF];rw[h.kd,h.go,h.aK rfl];split<;>rfl
 ·unfold kx;rw[h.kd,h.go,h.size,h.ln]
 ·unfold dm;rw[h.kd,h.aO]
 ·unfold mg;rw[h.kd,h.go,h.bg,h.ax,h.aL]
 ·unfold iN DD;rw[h.kd,h.go,h.ax]
 ·unfold iq;rw[h.kd,h.aT]
 ·unfold ky;rw[h.kd,h.go,h.bg,h.ax]
def Sh.nx (h:Sh d Z y z) (c:Int):sK Z z c=sK Z y c:=by
 cases Z<;>simp[sK,fk,h.kd]
theorem YZ {f:aZ} (h:Sh d f y z) (b:By):∀k,(b5 f z b k).1=(b5 f y b k).1/\Sh d (b5 f y b k).1 (b5 f y b k).2.1 (b5 f z b k).2.1/\(b5 f z b k).2.2=((b5 f y b k).2.2).map (shO d)
 | 0=>⟨rfl,h,rfl⟩
 | k+1=>by
  have⟨h1,a,c⟩:=YZ h b k;rw[b5,b5,h1];exact⟨a.nx _,a.byt _,by rw[c,a.out,ZcG]⟩
end sx
set_option maxRecDepth 100000
set_option maxHeartbeats 4000000
namespace sx
noncomputable section
open Go Go.RowKit cls syn
structure qE where
 a:cx
 b:cx
 l:List mN
 k:Int
variable {Z:aZ}
def rQ (y:qE):By:=lk (As ⟨y.l,500⟩)
def sE (y:qE):Int:=mU ⟨y.k,0,ab (rQ y)⟩
def xb (f:aZ) (n:Int) (s:cx):aG:=⟨iU s,n,n,0,0,false,[],bu (iU s).p,(match f with
 | .n=>fl
 | _=>bu (iU s).q),fl⟩
def gW (s:cx):aZ:=if m_ (iU s)=true then .c else .n
def wy (y:qE):aZ×aG×List cH:=lk (cZ (gW y.a) (xb (gW y.a) 0 y.a) (c_ (rQ y) (sE y)))
def Q4 (s:im):Ce:=⟨di s.d,s.v.aq,s.v.L⟩
def Zo:Ce:=⟨[],0,jH⟩
def Qxf (f:aZ) (s:aG):GM:=match f with
 | .o=>⟨s.pos,s.aF,s.aO,true,s.aK,s.size,s.aL.map lY⟩
 | _=>⟨s.pos,s.aF,s.aO,false,0,0,jH⟩
def Qxg (f:aZ) (s:aG):Ce:=match f with
 | .o=>Q4 s.bg
 | _=>Zo
def Qxh (f:aZ) (s:aG):Ce:=match f with
 | .n=>Zo
 | _=>Q4 s.aT
def eY (y:qE):po:=lk ⟨iU y.b,Qxf (wy y).1 (wy y).2.1,Qxg (wy y).1 (wy y).2.1,Q4 (wy y).2.1.ax,Qxh (wy y).1 (wy y).2.1⟩
def kB (y:qE):Int:=ja (eY y)
def aqD (y:qE):By:=o_ (rQ y) (kB y)
def D8 (y:qE):List cH:=lk (cZ (gW y.b) (xb (gW y.b) (kB y) y.b) (aqD y)).2.2
def wz (y:qE):List cH:=lk (cZ (gW y.b) (xb (gW y.b) 0 y.b) (aqD y)).2.2
def aqP (y:qE×Bool):Prop:=y.1.l.length<=1000000000000/\(∀r∈y.1.l,r.piece.length<=1000000000000)/\y.2=m_ (iU y.1.b)
def aqC:bp D:=cq 3 (qE×Bool) (λ_ _=>.fail) aqP (λy=>[Dv y.1.a,Dv y.1.b,.list 19 y.1.l,Qyy y.1.k]) λ_=>.lit true
def sL (y:qE):Prop:=X' y.a/\X' y.b
def Lc (y:qE):Prop:=sL y
def aqS (n:Nat) (y:qE):Nat×AO D.E:=(n,.cells (dr (wsA (eY y))) 46 false)
def rB (y:qE):Ce:=lk (if m_ (iU y.b)=true then Q4 (bu (iU y.b).q) else Zo)
def Y0 (n:Nat) (y:qE):Nat×AO D.E:=(n,.cells (dr (GN ⟨kB y,kB y,false,false,0,0,jH⟩ (snL Zo) (nW (bu (iU y.b).p)) (snL (rB y)))) 46 false)
def Q5 (w:po) (p:Prop):Prop:=RA7 w.st (RA1 w.bg (RA1 w.ax (RA1 w.aT p)))
def Q6 (y:qE) (p:Prop):Prop:=aa [di (bu (iU y.b).p).d] (RA6 (bu (iU y.b).p) (RA1 (rB y) p))
def Ld:(∀w p,Q5 w p=p)/\∀y p,Q6 y p=p:=⟨λ_ _=>by simp[Q5],λ_ _=>by simp[Q6]⟩
def fmB (b:Bool):aZ:=match b with
 | true=>.c
 | false=>.n
def Qpg (y:qE):List (Nat×AV D.E):=[(12,.ptr 0 0),(15,.list 0 (rQ y)),(18,.int .i64 (sE y)),(19,.ptr 47 0)]
def Qph (y:qE):List (Nat×AV D.E):=Qpg y++[(20,.ptr 48 0),(21,.num .i64 0)]
def Qpi (y:qE):List (Nat×AV D.E):=Qph y++[(22,.ptr 3 0),(23,.num .i64 0)]
def aqJ (sl:List (Nat×AV D.E)) (pc:List (Nat×AO D.E)) (p:Prop):ir D:=⟨Unit,[],λ_=>sl,[],λ_=>pc,49,λ_=>p,λ_=>0⟩
def aqO (y:aqC.Y):dj D:=⟨[],[],[(1048570,⟨Nat,[],λk=>[(20,.ptr 48 0),(26,.list 4 (D8 y.1)),(27,.list 4 (wz y.1)),(28,Qyy k)],[],λ_=>[Y0 48 y.1],49,λk=>k<=(D8 y.1).length,λk=>(D8 y.1).length-k⟩)],
  [(1023,aqJ (Qpg y.1) (BR (iU y.1.b)++[aqS 47 y.1]) (sL y.1)),
   (2047,aqJ (Qph y.1) (BR (iU y.1.b)++[aqS 47 y.1,Y0 48 y.1]) (sL y.1)),
   (4095,aqJ (Qpi y.1) (fa (fmB y.2) 4 (xb (fmB y.2) (kB y.1) y.1.b)++[aqS 47 y.1,Y0 48 y.1]) (sL y.1)),
   (8191,aqJ (Qpi y.1++[(24,.ptr 25 0),(25,.num .i64 0)]) (fa (fmB y.2) 4 (xb (fmB y.2) (kB y.1) y.1.b)++QmR 25 (fmB y.2) 26 (xb (fmB y.2) 0 y.1.b)++[aqS 47 y.1,Y0 48 y.1]) (sL y.1)),
   (32767,aqJ [(20,.ptr 48 0),(26,.list 4 (D8 y.1)),(27,.list 4 (wz y.1))] [Y0 48 y.1] (Lc y.1))],1,[]⟩
def aqT:vU:=[Qt,X9,X_,tQ,X8,QbE,fdC,Cf,y4,GO,K_,Hm]
def Qxj (y:qE):Prop:=vc aqT Tryz.f3 aqC aqO (y,true)
def Qxk (y:qE):Prop:=vc aqT Tryz.f3 aqC aqO (y,false)
def NS (y:qE) (B:Prop):Prop:=let f:=iU y.a;let q1:=bu f.p;let s:=As (zP.mk y.l 500);let i:=WtY.mk y.k 0 (ab s);let j:=c_ s (mU i);let D:=aG.mk f 0 0 0 0 false [] q1 fl fl;let C:=aG.mk f 0 0 0 0 false [] q1 (bu f.q) fl;let g:=(cZ aZ.n D j).2.1;let e:=(cZ aZ.c C j).2.1;let E:=λp:Prop=>aa ([y.k,0,ab s]:List Int) p;let A:=λp:Prop=>RAP y.l (500:Int) p;let u:=λp:Prop=>RAF p;let t:Prop:=(RA4 y.b (Iv (Qr (zP.mk y.l 500))/\A (Iv True/\True)));let w:Prop:=(di e.ax.d=(eY y).ax.h/\e.ax.v.aq=(eY y).ax.m/\e.ax.v.L=(eY y).ax.L/\di e.aT.d=(eY y).aT.h/\e.aT.v.aq=(eY y).aT.m/\e.aT.v.L=(eY y).aT.L/\cJ (iU y.b) ((Iv (sL y))));let F:=(∀x:Unit,(Iv (sL y))->B);aj (X' y.a) (Iv (DR (y.a,true))/\RA4 y.a (aj (X' y.b) (Iv (DR (y.b,true))/\aa [y.b.r] (aa [y.b.c] (Iv (Qr (zP.mk y.l 500))/\A (aj (m_ f) (Iv (fO (f,true))/\cJ f (Iv (Qp i)/\E (aM 0 (mU i)/\aM (mU i) (ab s)/\aj (sw aZ.c C j) (Iv (y2 aZ.c ((C,j),true))/\aa [j] (dN f (u (false=false/\bC (bu f.q) (bC q1 (cJ f ((Iv (wq aZ.o (aG.mk f e.pos e.aF e.aK e.size e.aO e.aL e.ax e.aT e.bg))/\dN f (rq e (bC e.aT (bC e.ax (bC e.bg (cJ f (∃z:Unit,s=rQ y/\mU i=sE y/\e.pos=(eY y).st.pos/\e.aF=(eY y).st.aF/\e.aO=(eY y).st.aO/\true=(eY y).st.nE/\e.aK=(eY y).st.aK/\e.size=(eY y).st.size/\List.map lY e.aL=(eY y).st.aL/\di e.bg.d=(eY y).bg.h/\e.bg.v.aq=(eY y).bg.m/\e.bg.v.L=(eY y).bg.L/\w)))))))/\F))))))) (Iv (y2 aZ.c ((C,j),false))/\aa [j] (dN f (u (false=false/\bC (bu f.q) (bC q1 (cJ f ((Iv (wq aZ.c (aG.mk f e.pos e.aF 0 0 e.aO [] e.ax e.aT fl))/\dN f (nY e (bC e.aT (bC e.ax (cJ f (∃z:Unit,s=rQ y/\mU i=sE y/\e.pos=(eY y).st.pos/\e.aF=(eY y).st.aF/\e.aO=(eY y).st.aO/\false=(eY y).st.nE/\0=(eY y).st.aK/\0=(eY y).st.size/\[]=(eY y).st.aL/\[]=(eY y).bg.h/\0=(eY y).bg.m/\[]=(eY y).bg.L/\w))))))/\F)))))))))) (Iv (fO (f,false))/\cJ f (Iv (Qp i)/\E (aM 0 (mU i)/\aM (mU i) (ab s)/\Iv (An aZ.n (D,j))/\aa [j] (dN f (u (false=false/\bC q1 (cJ f ((Iv (wq aZ.n (aG.mk f g.pos g.aF 0 0 g.aO [] g.ax fl fl))/\dN f (nY g (bC g.ax (cJ f (∃z:Unit,s=rQ y/\mU i=sE y/\g.pos=(eY y).st.pos/\g.aF=(eY y).st.aF/\g.aO=(eY y).st.aO/\false=(eY y).st.nE/\0=(eY y).st.aK/\0=(eY y).st.size/\[]=(eY y).st.aL/\[]=(eY y).bg.h/\0=(eY y).bg.m/\[]=(eY y).bg.L/\di g.ax.d=(eY y).ax.h/\g.ax.v.aq=(eY y).ax.m/\g.ax.v.L=(eY y).ax.L/\[]=(eY y).aT.h/\0=(eY y).aT.m/\[]=(eY y).aT.L/\cJ (iU y.b) ((Iv (sL y))))))))/\F)))))))))))) (Iv (DR (y.b,false))/\t))) (Iv (DR (y.a,false))/\RA4 y.a (aj (X' y.b) (Iv (DR (y.b,true))/\t) (Iv (DR (y.b,false))/\t)))
abbrev RAM (p:Prop):Prop:=aa ([[]]:List (List UInt8)) p
def Lg (y:qE) (B:Prop):Prop:=let g:=kB y;let q1:=iU y.b;let f:=bu q1.q;let e:=bu q1.p;let J:=(rB y).h.length;let k:=o_ (rQ y) g;let u:=di e.d;let K:=rE (q1.q.ag.length:Int);let M:=rE (q1.p.ag.length:Int);let N:=aD 701 (dE .i64 (sE y) g);let l:=aG.mk q1 g g 0 0 false [] e f fl;let o:=aG.mk q1 0 0 0 0 false [] e f fl;let H:=sw aZ.c l k;let I:=sw aZ.c o k;let w:=po.mk q1 (GM.mk g g false false 0 0 jH) (Ce.mk [] 0 jH) (Ce.mk u e.v.aq e.v.L) (rB y);let F:=λp:Prop=>RAO u (RA6 e p);let i:=λp:Prop=>RAP g g p;let j:=λp:Prop=>RAP (rQ y) (sE y) p;let G:=λp:Prop=>RAM (RAG p);let r:=λp:Prop=>RAF (RAO jH (RAM (RAG (RAO jH p))));let t:=λp:Prop=>RAF p;let V:=Q5 (eY y) (cJ q1 ((Iv (sL y))));let A:Prop:=(i (false=false/\false=false/\r (Q6 y V)));let C:Prop:=(RAO k (dN q1 (t (false=false/\bC f (bC e (cJ q1 (aa [g,g,g] (∃z:Unit,(cZ aZ.c l k).2.2=D8 y/\(cZ aZ.c o k).2.2=wz y/\i (false=false/\false=false/\r (Q6 y ((Iv (Lc y)))))))))))));let D:Prop:=(RAO k (dN q1 (i (false=false/\bC f (bC e (cJ q1 (aM 0 g=true/\aM g (ab (rQ y))=true/\aj I (Iv (y2 aZ.c ((o,k),true))/\C) (Iv (y2 aZ.c ((o,k),false))/\C))))))));let E:Prop:=((aM 0 g=true/\aM g (ab (rQ y))=true/\aj H (Iv (y2 aZ.c ((l,k),true))/\D) (Iv (y2 aZ.c ((l,k),false))/\D))/\(∀x:Unit,(Iv (Lc y))->B));let U:=po.mk q1 (eY y).st (eY y).bg (eY y).ax (eY y).aT;let W:=cJ q1 (∃z:Unit,j (dN q1 (False)));(aj (m_ q1) (Iv (fO (q1,true))/\Q5 (eY y) (cJ q1 (∃z:Unit,j (ja U=g/\ja U=g/\false=false/\false=false/\t ([]=jH/\G ([]=jH/\F (di f.d=(rB y).h/\f.v.aq=(rB y).m/\f.v.L=(rB y).L/\V))))))) (Iv (fO (q1,false))/\Q5 (eY y) (cJ q1 (∃z:Unit,j (ja U=g/\ja U=g/\false=false/\false=false/\t ([]=jH/\G ([]=jH/\F ([]=(rB y).h/\0=(rB y).m/\[]=(rB y).L/\V))))))))/\(∀x:Unit,(Iv (sL y))->(aj (m_ q1) (Iv (K5 (w,true))/\i (false=false/\false=false/\r (Q6 y (cJ q1 (∃z:Unit,j (dN q1 (i (false=false/\q1.q.ag=f.v.p.ag/\q1.q.ai=f.v.p.ai/\(rB y).m=f.v.aq/\ab (rB y).L=ab f.v.L/\ab K=ab f.v.s.pl/\ab gI=ab f.v.s.us/\gI=f.v.s.us/\K=f.v.s.pl/\(rB y).L=f.v.L/\df (rB y).h 0=f.d.a/\df (rB y).h 1=f.d.b/\df (rB y).h 2=f.d.c/\df (rB y).h 3=f.d.d/\ite (J<=4) (J:Int) 4=f.d.n/\q1.p.ag=e.v.p.ag/\q1.p.ai=e.v.p.ai/\aa [e.v.aq,ab e.v.L] (ab M=ab e.v.s.pl/\ab gI=ab e.v.s.us/\gI=e.v.s.us/\M=e.v.s.pl/\aa [e.v.L] (df u 0=e.d.a/\df u 1=e.d.b/\df u 2=e.d.c/\df u 3=e.d.d/\ite (u.length<=4) (u.length:Int) 4=e.d.n/\A)))))))))) (Iv (K5 (w,false))/\i (false=false/\false=false/\r (Q6 y W))))/\(∀x1:Unit,(Iv (sL y))->(aj (m_ q1) (Iv (fO (q1,true))/\cJ q1 (∃z:Unit,j (dN q1 (t (false=false/\bC f (bC e (dN q1 (i (false=false/\bC f (bC e (A))))))))))) (Iv (fO (q1,false))/\W))/\(∀O:Unit,(Iv (sL y))->aj (aD (sE y) g) (False) (aj (aD g 0) (False) (aj (!(eY y).st.aO) (aj N (False) (E)) (E))))))
def Lh (y:qE) (B:Prop):Prop:=let f:=kB y;let q1:=iU y.b;let e:=bu q1.p;let o:=o_ (rQ y) f;let l:=di e.d;let A:=rE (q1.p.ag.length:Int);let F:=aD 701 (dE .i64 (sE y) f);let C:=aG.mk q1 f f 0 0 false [] e fl fl;let D:=aG.mk q1 0 0 0 0 false [] e fl fl;let E:=po.mk q1 (GM.mk f f false false 0 0 jH) (Ce.mk [] 0 jH) (Ce.mk l e.v.aq e.v.L) (rB y);let g:=λp:Prop=>RAP f f p;let u:=λp:Prop=>RAO l (RA6 e p);let i:=λp:Prop=>RAP (rQ y) (sE y) p;let w:=λp:Prop=>RAM (RAG p);let j:=λp:Prop=>RAF (RAO jH (RAM (RAG (RAO jH p))));let k:=λp:Prop=>RAF p;let J:=Q5 (eY y) (cJ q1 ((Iv (sL y))));let r:Prop:=(g (false=false/\false=false/\j (Q6 y J)));let t:Prop:=((aM 0 f/\aM f (ab (rQ y))/\Iv (An aZ.n (C,o))/\RAO o (dN q1 (g (false=false/\bC e (cJ q1 (aM 0 f/\aM f (ab (rQ y))/\Iv (An aZ.n (D,o))/\aa [o] (dN q1 (k (false=false/\bC e (cJ q1 (aa [f,f,f] (∃z:Unit,(cZ aZ.n C o).2.2=D8 y/\(cZ aZ.n D o).2.2=wz y/\g (false=false/\false=false/\j (Q6 y ((Iv (Lc y)))))))))))))))))/\(∀x:Unit,(Iv (Lc y))->B));let I:=po.mk q1 (eY y).st (eY y).bg (eY y).ax (eY y).aT;let N:=cJ q1 (∃z:Unit,i (dN q1 (False)));(aj (m_ q1) (Iv (fO (q1,true))/\Q5 (eY y) (cJ q1 (∃z:Unit,i (ja I=f/\ja I=f/\false=false/\false=false/\k ([]=jH/\w ([]=jH/\u (di (bu q1.q).d=(rB y).h/\(bu q1.q).v.aq=(rB y).m/\(bu q1.q).v.L=(rB y).L/\J))))))) (Iv (fO (q1,false))/\Q5 (eY y) (cJ q1 (∃z:Unit,i (ja I=f/\ja I=f/\false=false/\false=false/\k ([]=jH/\w ([]=jH/\u ([]=(rB y).h/\0=(rB y).m/\[]=(rB y).L/\J))))))))/\(∀x:Unit,(Iv (sL y))->(aj (m_ q1) (Iv (K5 (E,true))/\g (false=false/\false=false/\j (Q6 y N))) (Iv (K5 (E,false))/\g (false=false/\false=false/\j (Q6 y (cJ q1 (∃z:Unit,i (dN q1 (g (false=false/\q1.p.ag=e.v.p.ag/\q1.p.ai=e.v.p.ai/\aa [e.v.aq,ab e.v.L] (ab A=ab e.v.s.pl/\ab gI=ab e.v.s.us/\gI=e.v.s.us/\A=e.v.s.pl/\aa [e.v.L] (df l 0=e.d.a/\df l 1=e.d.b/\df l 2=e.d.c/\df l 3=e.d.d/\ite (l.length<=4) (l.length:Int) 4=e.d.n/\r)))))))))))/\(∀x1:Unit,(Iv (sL y))->(aj (m_ q1) (Iv (fO (q1,true))/\N) (Iv (fO (q1,false))/\cJ q1 (∃z:Unit,i (dN q1 (k (false=false/\bC e (dN q1 (g (false=false/\bC e (r))))))))))/\(∀G:Unit,(Iv (sL y))->aj (aD (sE y) f) (False) (aj (aD f 0) (False) (aj (!(eY y).st.aO) (aj F (False) (t)) (t))))))
def NT (y:qE):Prop:=let c:=D8 y;let q1:=ab c;let d:=ab (wz y);let g:=λp:Prop=>RAF (RAO jH (RAM (RAG (RAO jH p))));let u:=cH.mk 0 0 0 0 0 0 0 0 0 0 0 0 0;aj (!(aE q1 d)) (False) ((∃z:Nat,aa [c,wz y] (0=(z:Int)/\aa [kB y,kB y] (false=false/\false=false/\g (Q6 y ((Iv (z<=c.length)))))))/\(∀x:Nat,let e:=c.length;let a:=gt u (wz y) (x:Int).toNat;let b:=gt u c (x:Int).toNat;let h:=!(aE b.kind a.kind);let i:=!(aE b.Aa a.Aa);let j:=!(aE b.pos (ay .i64 a.pos (kB y)));let f:=!((aE b.c0 a.c0)&&((aE b.c1 a.c1)&&((aE b.c2 a.c2)&&((aE b.c3 a.c3)&&((aE b.c4 a.c4)&&((aE b.c5 a.c5)&&((aE b.c6 a.c6)&&((aE b.c7 a.c7)&&((aE b.c8 a.c8)&&(aE b.c9 a.c9))))))))));(Iv (x<=e))->aj (aD (x:Int) q1) (aM 0 (x:Int)/\aD (x:Int) q1/\aM 0 (x:Int)/\aD (x:Int) d/\aj h (RAP b.kind a.kind (False)) (aM 0 (x:Int)/\aD (x:Int) q1/\aM 0 (x:Int)/\aD (x:Int) d/\aj j (aa [b.kind,a.kind,b.pos,a.pos,kB y] (False)) (aM 0 (x:Int)/\aD (x:Int) q1/\aM 0 (x:Int)/\aD (x:Int) d/\aj i (aa [b.kind,a.kind,b.pos,a.pos,kB y,b.Aa,a.Aa] (False)) (aM 0 (x:Int)/\aD (x:Int) q1/\aM 0 (x:Int)/\aD (x:Int) d/\aa [b.kind,a.kind,b.pos,a.pos,kB y,b.Aa,a.Aa,b.c0,b.c1,b.c2,b.c3,b.c4,b.c5,b.c6,b.c7,b.c8,b.c9,a.c0,a.c1,a.c2,a.c3,a.c4,a.c5,a.c6,a.c7,a.c8,a.c9] (aj f (False) (∃z:Nat,aa [c,wz y] (ay .i64 (x:Int) 1=(z:Int)/\aa [kB y,kB y] (false=false/\false=false/\g (Q6 y ((Iv (z<=e/\(e-z)<(e-x))))))))))))) (Iv True/\True)))
def Qc2:∀y,NS y (Lg y (NT y))=Qxj y:=λy=>by kernel_rfl
def Qc3:∀y,NS y (Lh y (NT y))=Qxk y:=λy=>by kernel_rfl
theorem Qih (l:List mN):(As ⟨l,500⟩).length<=500:=by
 grind [As]
def evI (f:aZ) (y:aG):Prop:=f=.o->y.aO=false/\y.aK=y.aF-y.size-1/\0<=y.aK
theorem Qc4 {y:aG} (c:Int) (a:Z=.n\/Z=.c\/Z=.o) (hl:0<=y.aF) (h:evI Z y):evI (sK Z y c) (oS Z y c):=by
 have k:=Nc y c;intro b;rcases a with rfl | rfl | rfl
 ·cases b
 ·have:jw y c=2:=by
   grind [sK,fk]
  grind [oS,dm,bV,mf,kx,pD]
 ·obtain⟨h1,d,g⟩:=h rfl;have:jw y c≠3:=λe=>by grind [sK,fk]
  simp only[oS,dm,bV,mf,kx,pD];grind
theorem Li {y:aG} {b:By} (a:Z=.n\/Z=.c\/Z=.o) (h:rM Z y) (e:y.pos+b.length<=100000000) (d:evI Z y):∀k,k<=b.length->evI (b5 Z y b k).1 (b5 Z y b k).2.1
 | 0,_=>d
 | k+1,hk=>by
  have⟨i1,i2,i3,i4,i5⟩:=lX (b:=b) a h e k ω;refine Qc4 _ ?_ i1.2.2.2.1 (Li a h e d k ω);rcases a with rfl | rfl | rfl
  ·grind
  all_goals exact .inr (i5 rfl)
def NU (p:iY):bu p=⟨HC,wm p⟩:=az _
def Qc5 {s:cx} {n:Int} (e:0<=n) (h:X' s) (b:Z=gW s):rM Z (xb Z n s):=by
 have⟨h1,_,i⟩:=B4 h;have a:=(DT h1).1.le (show(0:Int)<=16*n by omega);have d:(false=false->n-n<=(200:Int)):=λ_=>by omega
 rw[gW] at b;split at b
 ·rename_i j
  subst b;have⟨b1,g⟩:=i j;have c:=DT b1;exact⟨a,λ_=>⟨c.1.le (show(0:Int)<=16*n by omega),by show 0<(bu _).v.L.length;rw[c.2,g];exact Nat.one_pos⟩,nofun,e,ZaQ _,d⟩
 ·subst b;exact⟨a,nofun,nofun,e,ZaQ _,d⟩
theorem Cg (s:cx):gW s=.n\/gW s=.c\/gW s=.o:=by grind [gW]
theorem Qfs {r:mD} {n:Int} {c:Ce} (h1:pb r.p) (f:Mg r.q) (g:m_ r->pb r.q/\c=Q4 (bu r.q)) (i:m_ r=false->c=Zo) (j:0<=n) (l:n<=1000):wsP ⟨r,⟨n,n,false,false,0,0,jH⟩,Zo,Q4 (bu r.p),c⟩/\Hk ⟨r,⟨n,n,false,false,0,0,jH⟩,Zo,Q4 (bu r.p),c⟩:=by
 have F:∀p,pb p->NO (Au p (Q4 (bu p)))/\wsT p (Q4 (bu p)) 0:=λp k=>by
  have a:=QcW k;have b:=@KY p;rw[<-QoR] at a b;rw[NU];refine⟨⟨a,.inl rfl,Zaj _⟩,?_⟩;show(jX ⟨p,0,(wm p).L⟩&&aE (ay .i64 0 0) 0)
  rw[b];rfl
 refine⟨⟨(F _ h1).1,⟨⟨h1,Zaj _,nofun⟩,.inl rfl,Zaj _⟩,f,λd=>?_,Zaj _⟩,?_⟩
 ·grind
 ·rw[show Hk _=_ from az _];have e:dE .i64 n n=0:=by grind
  have e2:∀a b:Int,a<=b->aD b a=false:=λa b h=>iz.2 h
  simp only[wsN,e,e2 0 n j,e2 n n (ZaQ _),e2 n 1099511627776 ω,e2 0 200 ω,Zbv,ZaE,Za0,(F _ h1).2];cases d:m_ r
  ·rw[i d];rfl
  ·obtain⟨a,rfl⟩:=g d;rw[Zac rfl,(F _ a).2];rfl
structure Qxl (y:qE):Prop where
 lB:(rQ y).length<=500
 k0:0<=sE y
 k1:sE y<=(rQ y).length
 sI:rM (wy y).1 (wy y).2.1
 i0:0<=kB y
 i1:kB y<=sE y
 i2:(eY y).st.aO=false->sE y-kB y<=701
variable {Z:aZ} {y:aG}
theorem Hn {y:qE} (h:X' y.a):Qxl y:=by
 have r:rQ y=As ⟨y.l,500⟩:=az _;have lB:(rQ y).length<=500:=by grind [Qih]
 have⟨k0,k1⟩:=Ns (y:=⟨y.k,0,ab (rQ y)⟩) ⟨ZaQ _,by grind,by grind⟩;have k0:0<=sE y:=k0;have k1:sE y<=(rQ y).length:=k1;have t:(c_ (rQ y) (sE y)).length=(sE y).toNat:=by grind [c_]
 have j:wy y=b5 (gW y.a) (xb (gW y.a) 0 y.a) (c_ (rQ y) (sE y)) (sE y).toNat:=by grind [wy,az,gH]
 have b:=Qc5 (n:=0) (ZaQ _) h rfl;have c:(0:Int)+(c_ (rQ y) (sE y)).length<=100000000:=ω;have⟨i1,i2,_⟩:=lX (Cg _) b c (sE y).toNat ω;have i3:=Li (Cg _) b c (λe=>by grind [gW]) (sE y).toNat ω;rw[<-j] at i1 i2 i3;have i2:(wy y).2.1.pos=0+(sE y).toNat:=i2;have m:eY y=_:=az _;have⟨_,_,p,q,s,d⟩:=i1;have key:0<=kB y/\kB y<=sE y/\((eY y).st.aO=false->sE y-kB y<=701):=by
  rw[kB,ja,m];generalize (wy y).1=f at*
  cases f
  case o=>
   have⟨g,e2,i⟩:=i3 rfl;have⟨_,_,u,z2⟩:=p rfl;have z3:=d g;show 0<=(wy y).2.1.aK/\(wy y).2.1.aK<=_/\_
   exact⟨i,ω,λ_=>by show _-(wy y).2.1.aK<=_;omega⟩
  all_goals exact⟨q,(by show(wy y).2.1.aF<=_;omega),λe=>by have:=d e;show _-(wy y).2.1.aF<=_;omega⟩
 exact⟨lB,k0,k1,i1,key.1,key.2.1,key.2.2⟩
theorem DY {s:cx}:(m_ (iU s)->gW s=.c)/\(m_ (iU s)=false->gW s=.n):=by grind [gW]
def Qij (y:qE):As ⟨y.l,500⟩=rQ y:=(az _).symm
theorem Qxm {b:By}:sw Z y b↔(cZ Z y b).1=.o:=by
 grind [gH,sw]
def Qik:scQ fl:=⟨⟨by decide,by decide⟩,by decide,nofun⟩
theorem Qpk (y:qE) (b:Bool) (x:aqP (y,b)) {B:Prop} (j:sL y->B):NS y B:=by
 have ht:Qr ⟨y.l,500⟩:=⟨by grind,by grind,x.1,x.2.1⟩;unfold NS;simp only[bj,cD,cF,cP,Qij];refine⟨λhl=>⟨hl.symm,λd=>⟨d.symm,ht,?_⟩,λd=>⟨d.symm,ht⟩⟩,λhl=>⟨hl.symm,λd=>⟨d.symm,ht⟩,λd=>⟨d.symm,ht⟩⟩⟩;have L:=Hn hl;have j:=j ⟨hl,d⟩;have z:mU ⟨y.k,0,ab (rQ y)⟩=sE y:=rfl;have W:Qp ⟨y.k,0,ab (rQ y)⟩:=⟨ZaQ _,by grind,by have:=L.lB;grind⟩;have k1:=gg.2 L.k1;have k0:=gg.2 L.k0;simp only[z];have h:=Qc5 (n:=0) (ZaQ _) hl rfl;have g:An (gW y.a) (xb (gW y.a) 0 y.a,c_ (rQ y) (sE y)):=⟨h,by have:=L.lB;show(List.take _ _).length<=_;rw[Zar];omega,by have:=L.lB;show(0:Int)+((List.take _ _).length:Nat)<=_;rw[Zar];omega⟩;have s:wy y=cZ (gW y.a) (xb (gW y.a) 0 y.a) (c_ (rQ y) (sE y)):=az _;have w:eY y=_:=az _;have u:sL y:=⟨hl,d⟩;refine⟨λr=>⟨DU hl r.symm,W,k0,k1,?_⟩,λr=>⟨DU hl r.symm,W,k0,k1,?_⟩⟩
 ·have m:=DY.1 r;rw[m] at s g;have v:(⟨iU y.a,0,0,0,0,false,[],bu (iU y.a).p,bu (iU y.a).q,fl⟩:aG)=xb .c 0 y.a:=rfl;have t:=L.sI;simp only[v,<-s];have A:sw .c (xb .c 0 y.a) (c_ (rQ y) (sE y))↔(wy y).1=.o:=by grind [Qxm]
  refine⟨λk=>⟨⟨g,k.symm⟩,?_⟩,λk=>⟨⟨g,k.symm⟩,?_⟩⟩
  ·have e:=A.1 k;generalize wy y=R at*
   obtain⟨f,S,o⟩:=R;obtain rfl:f=.o:=e;obtain⟨i,a2,a3,_⟩:=t;have c3:=a3 rfl;refine⟨⟨⟨i.Q,(a2 rfl).1.Q,λ_=>⟨c3.1.Q,c3.2.1⟩⟩,?_⟩,λ_ _=>j⟩;rw[w];exact⟨(),trivial,rfl,rfl,rfl,rfl,rfl,rfl,rfl,rfl,rfl,rfl,rfl,rfl,rfl,rfl,rfl,rfl,u⟩
  ·have e:(wy y).1=.c:=by
    have:=(lX (Cg y.a) h g.2.2 _ (Zah _)).2.2.2.2 (by rw[m];rfl);grind [gH]
   generalize wy y=R at*
   obtain⟨f,S,o⟩:=R;obtain rfl:f=.c:=e;obtain⟨i,a2,a3,_⟩:=t;refine⟨⟨⟨i.Q,(a2 rfl).1.Q,nofun⟩,?_⟩,λ_ _=>j⟩;rw[w];exact⟨(),trivial,rfl,rfl,rfl,rfl,rfl,rfl,rfl,rfl,rfl,rfl,rfl,rfl,rfl,rfl,rfl,rfl,u⟩
 ·have m:=DY.2 r;rw[m] at s g;have v:(⟨iU y.a,0,0,0,0,false,[],bu (iU y.a).p,fl,fl⟩:aG)=xb .n 0 y.a:=rfl;have t:=L.sI;simp only[v,<-s];have e:(wy y).1=.n:=by
   have:=(lX (Cg y.a) h g.2.2 _ (Zah _)).2.2.2.1 m;grind [gH]
  refine⟨g,?_⟩;generalize wy y=R at*
  obtain⟨f,S,o⟩:=R;obtain rfl:f=.n:=e;obtain⟨i,a2,a3,_⟩:=t;refine⟨⟨⟨i.Q,Qik,nofun⟩,?_⟩,λ_ _=>j⟩;rw[w];exact⟨(),trivial,rfl,rfl,rfl,rfl,rfl,rfl,rfl,rfl,rfl,rfl,rfl,rfl,rfl,rfl,rfl,rfl,u⟩
theorem Qc6 (c:Int) (b:Z=.n\/Z=.c\/Z=.o) (h:rM Z y) (a:evI Z y):∀x∈fC Z y c,0<=x.pos/\x.pos<=y.pos:=by
 have ht:=KQ;obtain⟨_,_,d,e,g,i⟩:=h;unfold fC;rw[az];rcases b with rfl | rfl | rfl
 ·grind [pj,tN]
 ·grind [pj,tN]
 ·have:=a rfl;grind [pj,tN]
theorem NV {b:By} (d:Z=.n\/Z=.c\/Z=.o) (h:rM Z y) (g:y.pos+b.length<=100000000) (i:evI Z y):∀k,k<=b.length->∀x∈(b5 Z y b k).2.2,0<=x.pos/\x.pos<=y.pos+k
 | 0,_=>nofun
 | k+1,hk=>λx a=>by
  have⟨i1,i2,i3,i4,i5⟩:=lX (b:=b) d h g k ω;have e:=Li d h g i k ω;rw[b5] at a;rcases Zax.1 a with a | a
  ·have:=NV d h g i k ω x a;omega
  ·have:=Qc6 _ (by rcases d with rfl | rfl | rfl;exact .inl (i4 rfl);exact .inr (i5 rfl);exact .inr (i5 rfl)) i1 e x a;omega
structure Y1 (y:qE):Prop where
 sh:D8 y=(wz y).map (shO (kB y))
 pos:∀x∈wz y,0<=x.pos/\x.pos<=500
 b7:(wz y).length<=1000000
 fm:An (gW y.b) (xb (gW y.b) (kB y) y.b,aqD y)
 fn:An (gW y.b) (xb (gW y.b) 0 y.b,aqD y)
 i2:aM (kB y) (ab (rQ y))=true
theorem DZ {y:qE} (h:sL y):Y1 y:=by
 have L:=Hn h.1;have j:=L.lB;have k:=L.k1;have l:=L.i0;have m:=L.i1;have p:(aqD y).length<=500:=by
  show(List.drop _ _).length<=500
  grind
 have i:=Qc5 (n:=kB y) L.i0 h.2 rfl;have c:=Qc5 (n:=0) (ZaQ _) h.2 rfl;have ne:gW y.b≠.o:=by grind [gW]
 have ev:evI (gW y.b) (xb (gW y.b) 0 y.b):=λe=>absurd e ne
 have q:(xb (gW y.b) (kB y) y.b).pos=kB y:=rfl;have p0:(0:Int)+(aqD y).length<=100000000:=ω;have a:wz y=_:=az _;have d:D8 y=_:=az _;rw[gH] at a d;refine⟨?_,λx g=>?_,?_,⟨i,by grind,by grind⟩,⟨c,by grind,p0⟩,gg.2 (by grind)⟩
 ·rw[a,d];exact(YZ (f:=gW y.b) (y:=xb (gW y.b) 0 y.b) (z:=xb (gW y.b) (kB y) y.b) ⟨(Int.zero_add _).symm,(Int.zero_add _).symm,λe=>absurd e ne,rfl,rfl,rfl,rfl,rfl,rfl⟩ _ _).2.2
 ·rw[a] at g;have:=NV (Cg _) c p0 ev _ (Zah _) x g;grind [xb,gW]
 ·rw[a];have:=(lX (Cg _) c p0 _ (Zah _)).2.2.1;omega
theorem Y2 {y:qE} (T:Y1 y) (c:0<=kB y) (b:kB y<=500) (x:Nat) (d:x<(D8 y).length):ab (D8 y)=ab (wz y)/\gt (cH.mk 0 0 0 0 0 0 0 0 0 0 0 0 0) (D8 y) x=shO (kB y) (gt (cH.mk 0 0 0 0 0 0 0 0 0 0 0 0 0) (wz y) x)/\ay .i64 (gt (cH.mk 0 0 0 0 0 0 0 0 0 0 0 0 0) (wz y) x).pos (kB y)=(gt (cH.mk 0 0 0 0 0 0 0 0 0 0 0 0 0) (wz y) x).pos+kB y:=by
 have hl:(D8 y).length=(wz y).length:=by rw[T.sh,Za2]
 have a:x<(wz y).length:=ω;have g:gt (cH.mk 0 0 0 0 0 0 0 0 0 0 0 0 0) (wz y) x=(wz y)[x]:=by grind
 have p:=T.pos _ (Zas a);refine⟨by grind,?_,?_⟩
 ·rw[g,dL,Zag,T.sh,Zbk,Zaf a];rfl
 ·grind
theorem Qpl (y:qE) (c:sL y):NT y:=by
 have L:=Hn c.1;have T:=DZ c;have li:kB y<=500:=by have:=L.i1;have:=L.k1;have:=L.lB;omega
 have hl:ab (D8 y)=ab (wz y):=by rw[aw,aw,T.sh,Za2]
 have d:=T.b7;have e:aE (ab (D8 y)) (ab (wz y)):=ib.2 hl;unfold NT;simp only[bj,cD,Ld,e,ZcF,ZaE,ZbV,ZaX];refine⟨⟨0,rfl,Zaj _⟩,λx f=>⟨λk=>?_,λ_=>trivial⟩⟩;have b:x<(D8 y).length:=by grind
 have⟨_,g,p⟩:=Y2 T L.i0 li x b;have k2:aD (x:Int) (ab (wz y)):=hl▸k;have k0:aM 0 (x:Int):=gg.2 ω;have i1:ay .i64 (x:Int) 1=((x+1:Nat):Int):=bA (by grind) (by grind);simp only[Zad,g,p,shO,k,k2,k0,i1,show ∀a,aE a a=true from λa=>ib.2 rfl,Bool.and_self,ZcF,ZaE,ZbV,ZaX,Zal];exact⟨x+1,rfl,ω,ω⟩
theorem Qxn (y:qE) (v:aqP (y,true)) {B:Prop} (e:sL y->B) (a:sL y):Lg y B:=by
 have f:m_ (iU y.b):=v.2.2.symm;have L:=Hn a.1;have T:=DZ a;have⟨h1,s,t⟩:=B4 a.2;have g:=DU a.2 f.symm;have li:kB y<=500:=by have:=L.i1;have:=L.k1;have:=L.lB;omega
 have d:rB y=Q4 (bu (iU y.b).q):=by grind [rB,az]
 have l:=Qfs h1 s (c:=rB y) (n:=kB y) (λk=>⟨(t k).1,d⟩) (λk=>by grind) L.i0 ω;have h:K5 (⟨iU y.b,⟨kB y,kB y,false,false,0,0,jH⟩,Zo,Q4 (bu (iU y.b).p),rB y⟩,true):=⟨l.1,l.2,rfl,g⟩;have u:=DY.1 f;have fm:=T.fm;have fn:=T.fn;have j:wz y=_:=az _;have i:D8 y=_:=az _;rw[u] at fm fn j i;have k1:=iz.2 L.i1;have k2:=iz.2 L.i0;have i0:=gg.2 L.i0;have o:(⟨iU y.b,kB y,kB y,0,0,false,[],bu (iU y.b).p,bu (iU y.b).q,fl⟩:aG)=xb .c (kB y) y.b:=rfl;have m:(⟨iU y.b,0,0,0,0,false,[],bu (iU y.b).p,bu (iU y.b).q,fl⟩:aG)=xb .c 0 y.b:=rfl;have r:o_ (rQ y) (kB y)=aqD y:=rfl;have e:=e a;unfold Lg;simp only[bj,cD,cF,cP,Ld,f,ZaE,ZbV,ZaX,ZaZ,ZaY,Zb0,k1,k2,a,show Lc y from a,i0,T.i2,o,m,r,<-i,<-j];refine⟨⟨g,rfl,rfl,rfl,rfl,by rw[d];exact⟨rfl,rfl,rfl⟩⟩,⟨h,?_⟩,g,(λK=>⟨λhl=>⟨λk=>?_,λ_=>K⟩,λ_=>K⟩) ⟨⟨λk=>⟨⟨fm,k.symm⟩,λk=>⟨fn,k.symm⟩,λk=>⟨fn,k.symm⟩⟩,λk=>⟨⟨fm,k.symm⟩,λk=>⟨fn,k.symm⟩,λk=>⟨fn,k.symm⟩⟩⟩,e⟩⟩
 ·rw[d,NU,NU];exact⟨rfl,rfl,rfl,rfl,rfl,rfl,rfl,rfl,rfl,rfl,rfl,rfl,rfl,rfl,rfl,rfl,rfl,rfl,rfl,rfl,rfl,rfl,rfl,rfl,rfl⟩
 ·have:=L.i2 (by grind);grind
theorem Qxo (y:qE) (t:aqP (y,false)) {B:Prop} (d:sL y->B) (a:sL y):Lh y B:=by
 have e:m_ (iU y.b)=false:=t.2.2.symm;have L:=Hn a.1;have T:=DZ a;have⟨h1,r,u⟩:=B4 a.2;have f:=DU a.2 e.symm;have h:rB y=Zo:=by grind [rB,az]
 have l:=Qfs h1 r (c:=rB y) (n:=kB y) (λk=>by grind) (λk=>h) L.i0 (by have:=L.i1;have:=L.k1;have:=L.lB;omega);have g:K5 (⟨iU y.b,⟨kB y,kB y,false,false,0,0,jH⟩,Zo,Q4 (bu (iU y.b).p),rB y⟩,false):=⟨l.1,l.2,rfl,f⟩;have s:=DY.2 e;have fm:=T.fm;have fn:=T.fn;have j:wz y=_:=az _;have i:D8 y=_:=az _;rw[s] at fm fn j i;have k1:=iz.2 L.i1;have k2:=iz.2 L.i0;have i0:=gg.2 L.i0;have o:(⟨iU y.b,kB y,kB y,0,0,false,[],bu (iU y.b).p,fl,fl⟩:aG)=xb .n (kB y) y.b:=rfl;have m:(⟨iU y.b,0,0,0,0,false,[],bu (iU y.b).p,fl,fl⟩:aG)=xb .n 0 y.b:=rfl;have q:o_ (rQ y) (kB y)=aqD y:=rfl;have d:=d a;unfold Lh;simp only[bj,cD,cF,cP,Ld,e,ZaE,ZbV,ZaX,ZaZ,ZaY,Zb0,k1,k2,a,show Lc y from a,i0,T.i2,o,m,q,<-i,<-j];refine⟨⟨f,rfl,rfl,rfl,rfl,by rw[h];exact⟨rfl,rfl,rfl⟩⟩,⟨g,?_⟩,f,(λK=>⟨λhl=>⟨λk=>?_,λ_=>K⟩,λ_=>K⟩) ⟨⟨fm,fn⟩,d⟩⟩
 ·rw[NU];exact⟨rfl,rfl,rfl,rfl,rfl,rfl,rfl,rfl,rfl,rfl,rfl⟩
 ·have:=L.i2 (by grind);grind
def Qxp (hl:Ok uS) (c:Ok Aq) (b:Ok cW) (hs:Ok X_):Ok aqC:=qe (k:=aqC) id id (λ_=>rfl) Qc2 Qc3 (by unfold aqT;exact⟨Qom hl c,Qoj,hs,DI b,Qfe,Qno,Qe3,YY,Kn,Xx,Qpf b,Qo9 b⟩) (λy h=>Qpk y true h λa=>Qxn y h (λa=>Qpl y a) a) (λy h=>Qpk y false h λa=>Qxo y h (λa=>Qpl y a) a)
def srS:cx:=lk ⟨[⟨[97],[120]⟩],[94,32]⟩
def cK:mD:=lk ⟨srS,⟨(b_ srS).ag,(b_ srS).st⟩,⟨(b_ srS).cc,(b_ srS).cs⟩,(br srS).tab⟩
def Zp:By:=[b8 97,b8 120,b8 10,b8 32,b8 98]
def zQ:By:=[b8 120,b8 10,b8 99,b8 10]
def cI:aG:=lk (cZ .c (tP cK) Zp).2.1
def hZ:aG:=lk (cZ .o (jC cK cI) zQ).2.1
def srO:List cH:=lk (cZ .o (jC cK cI) zQ).2.2
def srL (sl:List (Nat×AV D.E)) (pc:List (Nat×AO D.E)):ir D:=⟨Unit,[],λ_=>sl,[],λ_=>pc,25,λ_=>True,λ_=>0⟩
def srC (n:Nat):dj D:=⟨[],[3,5],[],[(3,srL [(1,.ptr 0 0),(2,.num .i64 0)] (BR cK)),(7,srL [(1,.ptr 0 0),(2,.num .i64 0),(4,.ptr 3 0),(5,.num .i64 0)] (fa .c 4 (tP cK))),(15,srL [(1,.ptr 0 0),(4,.ptr 3 0)] (fa .o 4 (jC cK cI))),(31,srL [(1,.ptr 0 0),(4,.ptr 3 0),(6,.list 4 srO)] (fa .o 4 (jC cK hZ)))],n,[]⟩
def Qft (y:Unit):Prop:=let b:=λp:Prop=>RAP ([mw.mk [97] [120]]:List mw) ([94,32]:List UInt8) p;let a:=λp:Prop=>RAF p;let e:=λp:Prop=>RAO ([b8 97,b8 120,b8 10,b8 32,b8 98]:List UInt8) p;let J:=aG.mk cK 0 0 0 0 false [] (bu cK.p) (bu cK.q) fl;let u:=cZ aZ.c J [b8 97,b8 120,b8 10,b8 32,b8 98];let A:=cZ aZ.o (aG.mk cK cI.pos cI.aF cI.aK cI.size cI.aO cI.aL cI.ax cI.aT cI.bg) [b8 120,b8 10,b8 99,b8 10];let B:=aE (y5 (Qe.mk cK (GM.mk hZ.pos hZ.aF hZ.aO true hZ.aK hZ.size (List.map lY hZ.aL)) (im.mk HC (iB.mk (iY.mk [] []) hZ.bg.v.aq hZ.bg.v.L (jb.mk [] gI))) (im.mk HC (iB.mk (iY.mk [] []) hZ.ax.v.aq hZ.ax.v.L (jb.mk [] gI))) (im.mk HC (iB.mk (iY.mk [] []) hZ.aT.v.aq hZ.aT.v.L (jb.mk [] gI))))) 7;let F:=lk (cZ aZ.o (jC cK cI) zQ).2.2;let G:=b_ (cx.mk [mw.mk [97] [120]] [94,32]);let I:=gt (cH.mk 0 0 0 0 0 0 0 0 0 0 0 0 0) F 0;let N:=br (cx.mk [mw.mk [97] [120]] [94,32]);(aj (mQ (cx.mk [mw.mk [97] [120]] [94,32])) (Iv (py (cx.mk [mw.mk [97] [120]] [94,32],true))/\b (∃z:Unit,RAG (([mw.mk [97] [120]]:List mw)=cK.s.r/\[94,32]=cK.s.c/\G.ag=cK.p.ag/\G.st=cK.p.ai/\G.cc=cK.q.ag/\G.cs=cK.q.ai/\ab N.tab=ab cK.t/\N.tab=cK.t/\(Iv True)))) (Iv (py (cx.mk [mw.mk [97] [120]] [94,32],false))/\b (∃z:Unit,False)))/\(∀x:Unit,(Iv True)->(aj (m_ cK) (Iv (fO (cK,true))/\cJ cK (∃z:Unit,dN cK (a (false=false/\bC (bu cK.q) (bC (bu cK.p) (cJ cK ((Iv True)))))))) (Iv (fO (cK,false))/\cJ cK (∃z:Unit,dN cK (False))))/\(∀x1:Unit,(Iv True)->(Tt 1 (aj (sw aZ.c J [b8 97,b8 120,b8 10,b8 32,b8 98]) (Iv (y2 aZ.c ((aG.mk cK 0 0 0 0 false [] (bu cK.p) (bu cK.q) fl,[b8 97,b8 120,b8 10,b8 32,b8 98]),true))/\e (dN cK (a (false=false/\bC (bu cK.q) (bC (bu cK.p) (cJ cK (aj (!(aE (ab u.2.2) 0)) (False) (∃z:Unit,dN cK (u.2.1.pos=cI.pos/\u.2.1.aF=cI.aF/\u.2.1.aO=cI.aO/\u.2.1.aK=cI.aK/\u.2.1.size=cI.size/\u.2.1.aL=cI.aL/\fb u.2.1.aT cI.aT (fb u.2.1.ax cI.ax (fb u.2.1.bg cI.bg (cJ cK ((Iv True)))))))))))))) (Iv (y2 aZ.c ((aG.mk cK 0 0 0 0 false [] (bu cK.p) (bu cK.q) fl,[b8 97,b8 120,b8 10,b8 32,b8 98]),false))/\e (dN cK (a (false=false/\bC (bu cK.q) (bC (bu cK.p) (cJ cK (aj (!(aE (ab u.2.2) 0)) (False) (∃z:Unit,dN cK (u.2.1.pos=cI.pos/\u.2.1.aF=cI.aF/\u.2.1.aO=cI.aO/\False)))))))))))/\(∀f:Unit,(Iv True)->(Tt 1 (Iv (QhX (aG.mk cK cI.pos cI.aF cI.aK cI.size cI.aO cI.aL cI.ax cI.aT cI.bg,[b8 120,b8 10,b8 99,b8 10]))/\RAO ([b8 120,b8 10,b8 99,b8 10]:List UInt8) (dN cK (rq cI (bC cI.aT (bC cI.ax (bC cI.bg (cJ cK (∃z:Unit,A.2.2=lk (cZ aZ.o (jC cK cI) zQ).2.2/\dN cK (A.2.1.pos=hZ.pos/\A.2.1.aF=hZ.aF/\A.2.1.aO=hZ.aO/\A.2.1.aK=hZ.aK/\A.2.1.size=hZ.size/\A.2.1.aL=hZ.aL/\fb A.2.1.aT hZ.aT (fb A.2.1.ax hZ.ax (fb A.2.1.bg hZ.bg (cJ cK ((Iv True)))))))))))))))/\(∀g:Unit,(Iv True)->Iv (wq aZ.o (aG.mk cK hZ.pos hZ.aF hZ.aK hZ.size hZ.aO hZ.aL hZ.ax hZ.aT hZ.bg))/\dN cK (rq hZ (bC hZ.aT (bC hZ.ax (bC hZ.bg (cJ cK (Iv (fO (cK,true))/\nY hZ (Tt 1 (RAR hZ.aK hZ.size (List.map lY hZ.aL) (di hZ.bg.d) (RA6 hZ.bg (aa [di hZ.ax.d] (RA6 hZ.ax (aa [di hZ.aT.d] (RA6 hZ.aT (cJ cK (Iv True/\aj (aE (ab F) 1) (Tt 1 (aD 0 (ab F)/\aj (aE I.pos 0) (Tt 1 (aD 0 (ab F)/\aj (aE I.c0 1) (Tt 1 (aD 0 (ab F)/\aj (aE I.c1 2) (aj (aE hZ.pos 9) (aj (aE hZ.aF 9) (aj true (aj (aE hZ.aK 7) (aj (aE hZ.size 1) (aj B (aj B (True) (False)) (False)) (False)) (False)) (False)) (False)) (False)) (False))) (False))) (False))) (False))))))))))))))))))))
def Y3 {a:Int} (h:eB (a,a)=[(a,a)]):aY [(a,a)]=[(a,a)]:=by
 unfold aY;simp only[Zbt,List.flatMap_nil,Zaw,h,List.mergeSort_singleton];rfl
def Qpn:aY [(120,120)]=[(120,120)]:=Y3 (by kernel_rfl)
def Qxr:aY [(32,32)]=[(32,32)]:=Y3 (by kernel_rfl)
def nX:Nd:=⟨2,[(120,120)],0,0,false,0,0⟩
def nB:Nd:=⟨7,[],0,0,false,0,0⟩
def nS:Nd:=⟨2,[(32,32)],0,0,false,0,0⟩
def nC:Nd:=⟨3,[],0,0,false,0,2⟩
def Qxs:cr [120]=([nX],0,0):=by kernel_rfl
def Qpo:cr [94,32]=([nC,nB,nS],0,0):=by kernel_rfl
def Qxt (g:Int):bP nX g=(0,true):=by simp[bP,nX,gz,Qpn]
def Qxu (g:Int):bP nS g=(0,true):=by simp[bP,nS,gz,Qxr]
def Qxv (g:Int):bP nB g=(0,true):=by simp[bP,nB,gz]
def Qxw (g:Int):bP nC g=(2,true):=by simp[bP,nC,gz]
def Qim {L:List Nd} {x:Nd} (n a g:Nat) (b:L[a]?=some x) (hs:∀g,bP x g=(0,true)) (c:x.op≠6):fg L (n+1) a g=(true,a+1,g):=by
 have hl:¬L.length<=a:=by have:=(Zam.1 b).1;omega
 rw[fg,Zaa hl,Zag,b,ZcV,hs,Zaa (by decide),Zaa c];rfl
def Qpp:dG [nX]:=by
 unfold dG;rw[Qim 240 0 0 rfl Qxt (by decide)];rfl
theorem Qfu:dG [nC,nB,nS]:=by
 have h:fg [nC,nB,nS] 241 0 0=(true,3,0):=by
  rw[fg,Zaa (by decide)];show(if (bP nC 0).2=false then _ else _)=_
  rw[Qxw,Zaa (by decide)];show eF (fg [nC,nB,nS] 240) 2 1 0=_
  rw[eF,Qim 239 1 0 rfl Qxv (by decide),Zaa (by decide),eF,Qim 239 2 0 rfl Qxu (by decide),Zaa (by decide),eF]
 grind [dG]
def tX:ah:=.mk 2 [(120,120)] 0 0 false 0 0 []
def tC:ah:=.mk 3 [] 0 0 false 0 2 [.mk 7 [] 0 0 false 0 0 [],.mk 2 [(32,32)] 0 0 false 0 0 []]
def Qpq:(cw [nX]).1=tX:=by unfold cw;rw[az];kernel_rfl
def Qpr:(cw [nC,nB,nS]).1=tC:=by unfold cw;rw[az];kernel_rfl
def Qxx:cO [nX]=[nX]:=by
 unfold cO;rw[Zac Qpp,Qpq]
 kernel_rfl
theorem Qxy:cO [nC,nB,nS]=[nC,nB,nS]:=by
 unfold cO;rw[Zac Qfu,Qpr]
 kernel_rfl
def pX:iY:=⟨[⟨4,0,0,[]⟩,⟨1,0,0,[(120,120)]⟩,⟨4,1,0,[]⟩,⟨7,0,0,[]⟩],[0]⟩
def pC:iY:=⟨[⟨4,0,0,[]⟩,⟨5,0,0,[]⟩,⟨1,0,0,[(32,32)]⟩,⟨4,1,0,[]⟩,⟨7,0,0,[]⟩],[0]⟩
theorem Qxz:bZ [[nX]]=((pX.ag,pX.ai),0,0):=by
 unfold bZ;rw[az];unfold Dt;rw[Zaa (by decide),lV,Zaa (by rw[Qpp];decide)];unfold oQ;rw[az,Qpq]
 kernel_rfl
theorem Qps:bZ [[nC,nB,nS]]=((pC.ag,pC.ai),0,0):=by
 unfold bZ;rw[az];unfold Dt;rw[Zaa (by decide),lV,Zaa (by rw[Qfu];decide)];unfold oQ;rw[az,Qpr]
 kernel_rfl
def Q7:cx:=⟨[⟨[97],[120]⟩],[94,32]⟩
theorem Qc8:br Q7=⟨[⟨[97],0⟩],[[nX]],0,0⟩:=by
 unfold br;rw[az];show ph [⟨[97],[120]⟩] 0 [] []=_
 rw[ph,Zaa (by decide),Zaa (by decide)];simp only[Qxs,Qxx];rfl
theorem Lj:b_ Q7=⟨pX.ag,pX.ai,pC.ag,pC.ai,0,0⟩:=by
 have e:b_ Q7=jB Q7:=az _;have a:Q7.c≠[]:=nofun
 have b:cr Q7.c=([nC,nB,nS],0,0):=Qpo;grind [Qf,Q7,Qc8,Qxz,Qxy,Qps]
section
noncomputable def zB (s:im) (c:Int):im:=⟨(t_ s.d c).1,qd s.v (t_ s.d c).2⟩
noncomputable def zA (s:im):im:=⟨HC,wm s.v.p⟩
noncomputable def Qin (f:aZ) (y:aG) (c:Int):im:=if jw y c=1 then zB y.ax c else if jw y c=2 then(match f with
 | .o=>if D7 y=true then zA y.ax else zA (zB y.ax 10)
 | .c=>zA (zB y.ax 10)
 | _=>zA y.ax) else if jw y c=3\/jw y c=5 then zA y.ax else y.ax
noncomputable def Qio (y:aG) (c:Int):im:=if jw y c=1 then zB y.aT c else if jw y c=2\/jw y c=3\/jw y c=5 then zA y.aT else y.aT
noncomputable def Qip (f:aZ) (y:aG) (c:Int):im:=match f with
 | .o=>if jw y c=1 then zB y.bg c else if jw y c=2 then(if D7 y=true then zB y.bg 10 else zB y.ax 10) else y.bg
 | _=>zB y.ax 10
noncomputable def NW (e:Int) (l:List db):List cH:=dY e l l.length
noncomputable def Qiq (f:aZ) (y:aG) (c:Int):List cH:=if jw y c=2 then(match f with
 | .n=>NW y.aF (hV y.ax)
 | .o=>if D7 y=true then[] else NW y.aK y.aL
 | _=>[]) else if jw y c=3 then(match f with
 | .o=>NW y.aK y.aL++[tN y]
 | _=>[tN y]) else[]
noncomputable def zBy (f:aZ) (y:aG) (c:Int):aG:=⟨y.ru,y.pos+1,bV y c,mf f y c,kx f y c,dm y c,mg f y c,Qin f y c,Qio y c,Qip f y c⟩
noncomputable def Ho:aZ->aG->By->aZ×aG×List cH
 | f,y,[]=>(f,y,[])
 | f,y,c::l=>match Ho (sK f y (c.toNat:Int)) (zBy f y (c.toNat:Int)) l with
  | (g,z,o)=>(g,z,Qiq f y (c.toNat:Int)++o)
theorem Y4 (s:im) (c:Int):jm s c=zB s c:=az _
theorem Qfv (s:im):bS s=zA s:=az _
theorem Qir (f:aZ) (y:aG) (c:Int):oS f y c=zBy f y c:=by
 have h1:iN f y c=Qin f y c:=by
  unfold iN Qin DD;grind [az,Qfv,Y4]
 have a:iq y c=Qio y c:=by
  grind [iq,Qio,az,Qfv,Y4]
 have b:ky f y c=Qip f y c:=by
  unfold ky Qip;grind [az,Y4]
 grind [oS,zBy]
theorem Y5 (e:Int) (l:List db):fj e l=NW e l:=az _
theorem Qc9 (f:aZ) (y:aG) (c:Int):fC f y c=Qiq f y c:=by
 unfold fC Qiq pj;grind [az,Y5]
theorem Hq (f:aZ) (y:aG) (c:UInt8) (l:By):∀k,b5 f y (c::l) (k+1)=((b5 (sK f y (c.toNat:Int)) (oS f y (c.toNat:Int)) l k).1,(b5 (sK f y (c.toNat:Int)) (oS f y (c.toNat:Int)) l k).2.1,fC f y (c.toNat:Int)++(b5 (sK f y (c.toNat:Int)) (oS f y (c.toNat:Int)) l k).2.2)
 | 0=>by
  show(sK f y (c.toNat:Int),oS f y (c.toNat:Int),[]++fC f y (c.toNat:Int))=(sK f y (c.toNat:Int),oS f y (c.toNat:Int),fC f y (c.toNat:Int)++[])
  grind
 | k+1=>by
  rw[b5,Hq f y c l k];show(_,_,(_++_)++_)=(_,_,_++(_++_))
  rw[ZaD];rfl
theorem xc:∀(b:By) (f:aZ) (y:aG),b5 f y b b.length=Ho f y b
 | [],f,y=>rfl
 | c::l,f,y=>by
  rw[Zae,Hq,xc l,Ho,Qir,Qc9]
end
noncomputable def ru0:mD:=⟨Q7,pX,pC,[⟨[97],0⟩]⟩
def u9:cK=ru0:=by
 unfold cK;rw[az,show srS=Q7 from az _,Lj,Qc8];rfl
noncomputable def y0:aG:=⟨ru0,0,0,0,0,false,[],⟨HC,wm pX⟩,⟨HC,wm pC⟩,fl⟩
def QxB:tP cK=y0:=by
 rw[u9];unfold tP;rw[show bu ru0.p=_ from az _,show bu ru0.q=_ from az _];rfl
def Qpu:cZ .c (tP cK) Zp=Ho .c y0 Zp:=by rw[gH,xc,QxB]
def opX:sw .c (tP cK) Zp:=by
 rfl
def QxD:(cZ .c (tP cK) Zp).2.2=[]:=by
 rw[Qpu];rfl
noncomputable def x0:aG:=(Ho .c y0 Zp).2.1
def Qis:cI=x0:=by
 unfold cI;rw[az,Qpu];rfl
noncomputable def x1:aG:=jC ru0 x0
def Qfw:jC cK cI=x1:=by rw[u9,Qis];rfl
def Qpv:cZ .o (jC cK cI) zQ=Ho .o x1 zQ:=by rw[gH,xc,Qfw]
def opY:sw .o (jC cK cI) zQ:=by
 show isO (b5 .o (jC cK cI) zQ zQ.length).1
 rw[xc,Qfw]
 kernel_rfl
noncomputable def y1:aG:=(Ho .o x1 zQ).2.1
noncomputable def o1:List cH:=(Ho .o x1 zQ).2.2
def Qit:hZ=y1:=by
 unfold hZ;rw[az,Qpv];rfl
def Qiu:srO=o1:=by
 unfold srO;rw[az,Qpv];rfl
def Qpw:y1.pos=9/\y1.aF=9/\y1.aK=7/\y1.size=1:=by
 refine⟨?_,?_,?_,?_⟩<;>kernel_rfl
def Qpx:∃x,o1=[x]/\x.pos=0/\x.c0=1/\x.c1=2:=by
 refine⟨⟨1,0,0,1,2,-1,-1,-1,-1,-1,-1,-1,-1⟩,by kernel_rfl,rfl,rfl,rfl⟩
def Y6:mQ Q7:=by unfold mQ;rw[Lj];rfl
def Hr:pb cK.p/\Mg cK.q/\pb cK.q/\cK.q.ai.length=1:=by
 obtain⟨h1,b,a⟩:=NA (y:=Q7) (by decide) Y6;obtain⟨a,c⟩:=a nofun
 rw[Lj] at h1 b a c;rw[u9];exact⟨h1,b,a,c⟩
def Y7:fO (cK,true):=⟨Hr.1,Hr.2.1,λ_=>Hr.2.2.1,by rw[u9];rfl⟩
def Qpy:rM .c (tP cK):=Qon (.inr rfl) Hr.1 λ_=>Hr.2.2
def Hs {f:aZ} {y:aG} {b:By} (h:sw f y b):(cZ f y b).1=.o:=by
 have h:isO (b5 f y b b.length).1:=h;rw[gH];generalize (b5 f y b b.length).1=g at h;cases g<;>first | rfl | cases h
def Qda:rM .o (jC cK cI)/\(jC cK cI).pos=5:=by
 obtain⟨i1,i2,_⟩:=lX (b:=Zp) (.inr (.inl rfl)) Qpy (by show(0:Int)+5<=_;omega) _ (Zah _);rw[<-gH] at i1 i2;rw[Hs opX] at i1;have e:cI=(cZ .c (tP cK) Zp).2.1:=az _;rw[<-e] at i1 i2;exact⟨i1,i2⟩
theorem QxE:rM .o hZ:=by
 obtain⟨i1,i2,_⟩:=lX (b:=zQ) (.inr (.inr rfl)) Qda.1 (by rw[Qda.2];show(5:Int)+4<=_;omega) _ (Zah _);rw[<-gH] at i1 i2;rw[Hs opY] at i1;grind [hZ,az]
def Qiv (r:mD) (p l:Int) (g:Bool) (e z:Int) (n:List db) (c a d:im):y5 ⟨r,⟨p,l,g,true,e,z,n⟩,c,a,d⟩=e:=Zac rfl
theorem Qpz (h1:Ok uS) (h:Ok cW):Ok X_:=okZ (V:=Qft) [uS,tQ,QbI,fdC,QbF,GO,QbJ] Tryz.f6 (λ_=>srC 1) ⟨h1,DI h,QnF,Qe3,Qnr,Xx,QnG h⟩ λ(y:Unit) _=>by
 have i:(⟨[⟨[97],[120]⟩],[94,32]⟩:cx)=Q7:=rfl;have l:(⟨cK,0,0,0,0,false,[],bu cK.p,bu cK.q,fl⟩:aG)=tP cK:=rfl;have j:[b8 97,b8 120,b8 10,b8 32,b8 98]=Zp:=rfl;have k:[b8 120,b8 10,b8 99,b8 10]=zQ:=rfl;have n:(⟨cK,cI.pos,cI.aF,cI.aK,cI.size,cI.aO,cI.aL,cI.ax,cI.aT,cI.bg⟩:aG)=jC cK cI:=rfl;have m:lk (cZ .o (jC cK cI) zQ).2.2=srO:=rfl;have r:m_ cK:=by rw[u9];rfl
 unfold Qft;simp only[bj,cD,cF,cP,ZaZ,ZaY,ZaX,i,l,j,k,n,m,Y6,r,opX,QxD,Zb0,ZbV];obtain⟨x,s,p0,p1,p2⟩:=Qpx;have hO:srO=[x]:=Qiu.trans s;obtain⟨q1,e,f,g⟩:=Qpw;rw[<-Qit] at q1 e f g;have g0:gt (cH.mk 0 0 0 0 0 0 0 0 0 0 0 0 0) [x] 0=x:=rfl;have t:∀a:Int,aE a a:=λa=>ib.2 rfl
 have v:ab [x]=1:=rfl;have w:aD 0 1:=rfl;have u:ab ([]:List cH)=0:=rfl;simp only[Qiv,hO,g0,p0,p1,p2,q1,e,f,g,t,v,w,u,ZcF,Zb0,ZaE,ZbV,ZaX,Zai,Zal];obtain⟨i1,i2,i3,i4⟩:=QxE;have d:=u9;have rx:cI=(cZ .c (tP cK) Zp).2.1:=az _;have b:hZ=(cZ .o (jC cK cI) zQ).2.1:=az _;refine⟨⟨⟨by show 1<=1000;omega,Y6.symm⟩,by rw[d];rfl,by rw[d];rfl,by rw[Lj,d];rfl,by rw[Lj,d];rfl,by rw[Lj,d];rfl,by rw[Lj,d];rfl,by rw[Qc8,d];rfl,by rw[Qc8,d];rfl⟩,Y7,⟨⟨⟨Qpy,by show 5<=1000000;omega,by show(0:Int)+5<=100000000;omega⟩,opX.symm⟩,by rw[rx],by rw[rx],by rw[rx],by rw[rx],by rw[rx],by rw[rx],bT (by rw[<-rx]) (bT (by rw[<-rx]) (bT (by rw[<-rx]) trivial))⟩,⟨⟨⟨Qda.1,by show 4<=1000000;omega,by rw[show(jC cK cI,zQ).1.pos=5 from Qda.2];show(5:Int)+4<=100000000;omega⟩,opY⟩,?_,by rw[<-b,q1],by rw[<-b,e],by rw[<-b],by rw[<-b,f],by rw[<-b,g],by rw[<-b],bT (by rw[<-b]) (bT (by rw[<-b]) (bT (by rw[<-b]) trivial))⟩,⟨i1.Q,(i2 rfl).1.Q,λ_=>⟨(i3 rfl).1.Q,(i3 rfl).2.1⟩⟩,Y7⟩;grind [az]
end
end sx
end Go.Proofs.YtfkmlhnhkdbjeaaGreat
namespace Go.Proofs
open Go.Proofs.YtfkmlhnhkdbjeaaGreat Go.Proofs.Tryz
open Go.Shelf
def Tryz.sortRg_ren:Go.Shelf.Ren:=⟨λ| 6=>183 | 15=>205 | 14=>204 | 28=>220 | 29=>221 | 20=>212 | 21=>213 | 22=>214 | 23=>215 | 24=>216 | 25=>217 | 26=>218 | 27=>219 | 46=>223 | 47=>224 | 48=>225 | 49=>226 | 50=>227 | 57=>228 | n=>n,λ| 22=>144 | 24=>278 | 25=>281 | 3=>3 | 39=>223 | 0=>0 | 53=>310 | 55=>312 | 4=>4 | 46=>304 | 45=>303 | 50=>198 | 5=>5 | 9=>9 | 66=>315 | 70=>319 | 76=>321 | 77=>234 | n=>n,λ| n=>n⟩
def Tryz.sortRg:Go.Proofs.SlLaysF0.n6 prog Tryz.sortRg_ren:={
 mixed:=by kernel_rfl
 f6:=⟨Tryz.f183.name,by decide,Tryz.func183.trans (ZaR some (by kernel_rfl))⟩
 f14:=⟨Tryz.f204.name,by decide,Tryz.func204.trans (ZaR some (by kernel_rfl))⟩
 f15:=Tryz.func205.trans (ZaR some (by kernel_rfl))
 f20:=⟨Tryz.f212.name,by decide,Tryz.func212.trans (ZaR some (by kernel_rfl))⟩
 f21:=⟨Tryz.f213.name,by decide,Tryz.func213.trans (ZaR some (by kernel_rfl))⟩
 f22:=⟨Tryz.f214.name,by decide,Tryz.func214.trans (ZaR some (by kernel_rfl))⟩
 f23:=⟨Tryz.f215.name,by decide,Tryz.func215.trans (ZaR some (by kernel_rfl))⟩
 f24:=⟨Tryz.f216.name,by decide,Tryz.func216.trans (ZaR some (by kernel_rfl))⟩
 f25:=⟨Tryz.f217.name,by decide,Tryz.func217.trans (ZaR some (by kernel_rfl))⟩
 f26:=⟨Tryz.f218.name,by decide,Tryz.func218.trans (ZaR some (by kernel_rfl))⟩
 f27:=⟨Tryz.f219.name,by decide,Tryz.func219.trans (ZaR some (by kernel_rfl))⟩
 f28:=Tryz.func220.trans (ZaR some (by kernel_rfl))
 f29:=Tryz.func221.trans (ZaR some (by kernel_rfl))
 f46:=⟨Tryz.f223.name,by decide,Tryz.func223.trans (ZaR some (by kernel_rfl))⟩
 f47:=Tryz.func224.trans (ZaR some (by kernel_rfl))
 f48:=Tryz.func225.trans (ZaR some (by kernel_rfl))
 f49:=⟨Tryz.f226.name,by decide,Tryz.func226.trans (ZaR some (by kernel_rfl))⟩
 f50:=⟨Tryz.f227.name,by decide,Tryz.func227.trans (ZaR some (by kernel_rfl))⟩
 f57:=⟨Tryz.f228.name,by decide,Tryz.func228.trans (ZaR some (by kernel_rfl))⟩
 t0:=Tryz.underlying0
 a0:=Tryz.isAgg0
 z0:=Tryz.sizeOf0
 v0:=Tryz.zeroValue0
 t3:=Tryz.underlying3
 a3:=Tryz.isAgg3
 z3:=Tryz.sizeOf3
 v3:=Tryz.zeroValue3
 t4:=Tryz.underlying4
 a4:=Tryz.isAgg4
 z4:=Tryz.sizeOf4
 v4:=Tryz.zeroValue4
 t5:=Tryz.underlying5
 a5:=Tryz.isAgg5
 z5:=Tryz.sizeOf5
 v5:=Tryz.zeroValue5
 t9:=Tryz.underlying9
 a9:=Tryz.isAgg9
 z9:=Tryz.sizeOf9
 v9:=Tryz.zeroValue9
 t22:=Tryz.underlying144
 a22:=Tryz.isAgg144
 z22:=Tryz.sizeOf144
 v22:=Tryz.zeroValue144
 t25:=Tryz.underlying281
 a25:=Tryz.isAgg281
 z25:=Tryz.sizeOf281
 v25:=Tryz.zeroValue281
 t39:=Tryz.underlying223
 a39:=Tryz.isAgg223
 z39:=Tryz.sizeOf223
 v39:=Tryz.zeroValue223
 t45:=Tryz.underlying303
 a45:=Tryz.isAgg303
 z45:=Tryz.sizeOf303
 v45:=Tryz.zeroValue303
 t46:=Tryz.underlying304
 a46:=Tryz.isAgg304
 z46:=Tryz.sizeOf304
 v46:=Tryz.zeroValue304
 t50:=Tryz.underlying198
 a50:=Tryz.isAgg198
 z50:=Tryz.sizeOf198
 v50:=Tryz.zeroValue198
 t53:=Tryz.underlying310
 a53:=Tryz.isAgg310
 z53:=Tryz.sizeOf310
 v53:=Tryz.zeroValue310
 t55:=Tryz.underlying312
 a55:=Tryz.isAgg312
 z55:=Tryz.sizeOf312
 v55:=Tryz.zeroValue312
 t66:=Tryz.underlying315
 a66:=Tryz.isAgg315
 z66:=Tryz.sizeOf315
 v66:=Tryz.zeroValue315
 t70:=Tryz.underlying319
 a70:=Tryz.isAgg319
 z70:=Tryz.sizeOf319
 v70:=Tryz.zeroValue319
 t76:=Tryz.underlying321
 a76:=Tryz.isAgg321
 z76:=Tryz.sizeOf321
 v76:=Tryz.zeroValue321
 t77:=Tryz.underlying234
 a77:=Tryz.isAgg234
 z77:=Tryz.sizeOf234
 v77:=Tryz.zeroValue234 }
end Go.Proofs
namespace Go.Proofs.YtfkmlhnhkdbjeaaGreat
open Go.Proofs.Tryz
namespace cls
open Go.RowKit sl Go.Shelf
def er (r:Rg):List Value:=[.int .i32 r.1,.int .i32 r.2]
def kC (r:Rg):(er r).length=2:=rfl
def Rd.pair {w:World} {a:Option Addr} {l:List Rg} {cap:Nat} (h:Rd er w a l cap) {i:Nat} {x:Rg} (e:l[i]?=some x):
  ∃b off,a=some ⟨b,off,none⟩/\b<w.heap.size/\w.cell? ⟨b,off+i*2,none⟩=some (.int .i32 x.1)/\w.cell? ⟨b,off+i*2+1,none⟩=some (.int .i32 x.2):=by
 obtain⟨b,off,h1,d,c⟩:=h.cells kC e;exact⟨b,off,h1,d,c 0 _ ω rfl,by have:=c 1 (.int .i32 x.2) ω rfl;rwa [<-Za4] at this⟩
def zF (r:Rg):∀u∈er r,u.oneCell':=by
 intro u hu;simp[er] at hu;rcases hu with rfl | rfl<;>rfl
def xd:mW prog 144 278 2 8:=mW.mk' (z:=.agg #[.int .i32 0,.int .i32 0]) Tryz.underlying144 (by kernel_rfl) rfl (by decide)
abbrev Av (B:Nat) (w:World) (v:Value) (l:List Rg):Prop:=kK er 2 278 B w v l
set_option maxHeartbeats 2000000 in
theorem QpA (x y:Int) (w:World):
  Calls prog 182 #[.agg #[.int .i32 x,.int .i32 y]] w λe C=>∃v,e=.returned v/\Av w.heap.size C v (eB (x,y))/\Below w.heap.size w C:=by
 obtain⟨lo,m⟩:∃lo,lo=max x 0:=⟨_,rfl⟩
 obtain⟨hi,l⟩:∃hi,hi=min y 1114111:=⟨_,rfl⟩
 have h:=Lib.hid m
 have f:=Lib.hid l
 clear m l
 go_enter Tryz.func182,Tryz.ntmps182
 go_wp2_with fail
 rw[<-h.out,<-f.out]
 obtain⟨b,a⟩:∃b,b=(w.alloc (.cells #[.int .i32 lo,.int .i32 hi] 278)).alloc (.cells #[.int .i32 0,.int .i32 55295,.int .i32 57344,.int .i32 1114111] 278):=⟨_,rfl⟩
 have D:Rd er b (some ⟨w.heap.size+1,0,none⟩) parts 2:=by
  subst a
  have:=Rd.built (bm:=er) (w:=w.alloc (.cells #[.int .i32 lo,.int .i32 hi] 278)) (E:=278) (cs:=#[.int .i32 0,.int .i32 55295,.int .i32 57344,.int .i32 1114111]) parts 2 rfl rfl ω
  simp_all
 have c:Below w.heap.size w b:=by
  subst a
  exact((Below.refl _ _).alloc (Zah _) _).alloc (by simp) _
 have r:b.cell? ⟨w.heap.size,0,none⟩=some (.int .i32 lo):=by subst a;simp[go_sem]
 have s:b.cell? ⟨w.heap.size,1,none⟩=some (.int .i32 hi):=by subst a;simp[go_sem]
 have dF:w.heap.size<b.heap.size:=by subst a;simp;omega
 rw[<-a]
 clear a
 go_loopg [3,19] 2 (λg v i wr=>∃k:Nat,k<=2/\g=2-k/\i=.int .i64 k/\Av b.heap.size wr v ((parts.take k).flatMap (clip (lo,hi)))/\Below w.heap.size w wr/\Below b.heap.size b wr)
 case atStart=>exact⟨0,ω,rfl,rfl,kK.nil _ _ _ _ _,c,Below.refl _ _⟩
 case round=>
  obtain⟨k,hk,rfl,rfl,q,o,l8⟩:=hrel
  have hs:=o.size
  by_cases t:k<2
  ·obtain⟨⟨p0,p1⟩,u⟩:∃x,parts[k]?=some x:=⟨_,Zaf t⟩
   obtain⟨H,K,e2,A,c0,c1⟩:=Rd.pair (D.kept l8) u
   cases e2
   simp only[Za6] at c0 c1
   have I:=(l8.cell (p:=⟨w.heap.size,0,none⟩) dF).trans r
   have J:=(l8.cell (p:=⟨w.heap.size,1,none⟩) dF).trans s
   have B:w.heap.size<wr.heap.size:=ZbB dF l8.size
   have z:=Lib.hid u
   clear u
   have hlen:=fV (clip (lo,hi)) 1 (ER _) (parts.take k)
   have F:(parts.take k).length<=2:=by simp[parts];omega
   by_cases G:max lo p0<=min hi p1
   ·go_wp2_with (at_builtin;go_must (refine qB xd rfl rfl rfl rfl (by simp) ((q.alloc _).alloc _) (max lo p0,min hi p1) rfl kC zF ω ω (by have:=l8.size;simp;omega) ?_);intro L M o1 g1)
    go_roundg (2-(k+1))
    case measure=>omega
    case rel=>
     have d:clip (lo,hi) (p0,p1)=[(max lo p0,min hi p1)]:=by unfold clip;rw[Zac G]
     have n:=(q.alloc (.cells #[.int .i32 p0,.int .i32 p1] 278)).alloc (.cells #[.int .i32 (max lo p0),.int .i32 (min hi p1)] 278)
     have j:=((Below.refl wr.heap.size wr).alloc (Zah _) (.cells #[.int .i32 p0,.int .i32 p1] 278)).alloc (by simp) (.cells #[.int .i32 (max lo p0),.int .i32 (min hi p1)] 278)
     refine⟨k+1,ω,rfl,by go_num,?_,?_,?_⟩
     ·rw[uZ _ z.out,d]
      exact o1
     ·exact oY (o.trans (j.mono hs)) n g1 c.size (by simp;omega)
     ·exact oY (l8.trans (j.mono l8.size)) n g1 (Zah _) (by have:=l8.size;simp;omega)
   ·go_wp2_with fail
    go_roundg (2-(k+1))
    case measure=>omega
    case rel=>
     have d:clip (lo,hi) (p0,p1)=[]:=by unfold clip;rw[Zaa (show ¬max lo p0<=min hi p1 by omega)]
     have j:=((Below.refl wr.heap.size wr).alloc (Zah _) (.cells #[.int .i32 p0,.int .i32 p1] 278)).alloc (by simp) (.cells #[.int .i32 (max lo p0),.int .i32 (min hi p1)] 278)
     refine⟨k+1,ω,rfl,by go_num,?_,o.trans (j.mono hs),l8.trans (j.mono l8.size)⟩
     rw[uZ _ z.out,d,Zaw]
     exact(q.alloc _).alloc _
  ·obtain rfl:k=2:=ω
   go_wp2_with fail
   go_ret
   refine⟨_,rfl,?_,o⟩
   have e:eB (x,y)=(parts.take 2).flatMap (clip (lo,hi)):=by simp only[eB,h.out,f.out];rfl
   rw[e]
   exact q.mono c.size
set_option maxHeartbeats 2000000 in
theorem cmp (x y:Rg) (w:World) (h: -2147483648<=x.1-y.1/\x.1-y.1<=2147483647):Calls prog 184 #[.agg #[.int .i32 x.1,.int .i32 x.2],.agg #[.int .i32 y.1,.int .i32 y.2]] w λe a=>e=.returned (.int .i64 (x.1-y.1))/\a=(w.alloc (.cells #[.int .i32 x.1,.int .i32 x.2] 278)).alloc (.cells #[.int .i32 y.1,.int .i32 y.2] 278):=by
 obtain⟨h1,b⟩:=h
 go_enter Tryz.func184,Tryz.ntmps184
 go_wp2_with fail
 go_ret
 simp_all
def Y8 {B:Nat} {w:World} {g n cap:Nat} {l:List Rg} (h:Av B w (.slice (some ⟨g,0,none⟩) n cap) l) (a:n=l.length) {i:Nat} {x:Rg} (b:l[i]?=some x):
  w.cell? ⟨g,i*2,none⟩=some (.int .i32 x.1)/\w.cell? ⟨g,i*2+1,none⟩=some (.int .i32 x.2)/\w.frozen? ⟨g,i*2,none⟩=false/\w.frozen? ⟨g,i*2+1,none⟩=false:=
 ⟨(h.cellAt a kC b (t:=0) ω rfl).1,(h.cellAt a kC b (t:=1) ω rfl).1,(h.cellAt a kC b (t:=0) ω rfl).2,(h.cellAt a kC b (t:=1) ω rfl).2⟩
open Go.Sort (Holds HoldsK flatK get_flatK size_flatK putRow putRowK putCells SWO mapBlock onCells PermIn SortedIn alloc_eq_grow grow_grow grow)
structure D9 where
 r:Rg
 lo:0<=r.1/\r.1<=1114111
instance:Inhabited D9:=⟨⟨(0,0),by decide⟩⟩
variable {w:World} {g:Nat} {Z:Array Obj}
def ev (r:D9):List Value:=er r.r
def cf (x y:D9):Int:=x.r.1-y.r.1
theorem NX:∀(l:List Rg),(∀r∈l,0<=r.1/\r.1<=1114111)->∃b:List D9,b.map D9.r=l
 | [],_=>⟨[],rfl⟩
 | r::t,h=>by
  obtain⟨c,ht⟩:=NX t (λx a=>h x (by simp[a]));exact⟨⟨r,h r (by simp)⟩::c,by simp[ht]⟩
def NY (a:List D9):flat er (a.map D9.r)=flat ev a:=by
 rw[flat,flat,Zdz];rfl
theorem D0 (r:D9):(ev r).length=2:=rfl
theorem zG (d:Array D9):(flatK ev 2 d).toList=flat ev d.toList:=by
 apply Zb6;intro t;by_cases ht:t<d.size*2
 ·have h1:(flatK ev 2 d)[t]! =(ev d[t / 2]!)[t % 2]!:=get_flatK ev 2 d t ht;have a:t<(flatK ev 2 d).size:=by simpa using ht
  have c:t / 2<d.size:=ω;have e:d.toList[t / 2]?=some d[t / 2]!:=by
   grind
  have b:=zk D0 d.toList (t / 2) (t % 2) _ e ω;grind [D0]
 ·rw[Zbd (by simp;omega),Zbd (by rw[n9 D0];simp;omega)]
theorem xe (x y:D9):ltOf cf x y=decide (x.r.1<y.r.1):=by
 unfold ltOf cf;grind
def swo:SWO (ltOf cf) where
 irrefl x:=by rw[xe];simp
 trans x y z h1 h2:=by rw[xe] at*;simp at*;omega
 ntrans x y z h1 h2:=by rw[xe] at*;simp at*;omega
def Qdb (cg off size:Nat) (w:World):CmpLays prog 184 #[] ev 2 cf cg off size w:=by
 intro m os a _ x y;have b:=x.lo;have c:=y.lo;refine(cmp x.r y.r _ ω).mono ?_;rintro e d ⟨rfl,rfl⟩;exact⟨rfl,0,_,by rw[Go.Sort.alloc_eq_grow,Go.Sort.alloc_eq_grow,Go.Sort.grow_grow];rfl⟩
theorem Ht {n:Nat} {bg:Array Value} {e:TypeId} {fr:Nat×Nat} (d:Array Value) (a:w.heap[g]?=some (.cells bg e fr)):
  (Go.Sort.grow (Go.Sort.putRow id (Go.Sort.ahead w n) g 0 d) Z).heap[g]?=some (.cells (Go.Sort.putCells id 0 d bg) e fr):=by
 grind [Go.Sort.heap_grow_old,Go.Sort.putRow,Go.Sort.mapBlock,Go.Sort.ahead,Go.Sort.onCells]
theorem Lk {n:Nat} (d:Array Value) (k:Nat) (hk:k<w.heap.size) (a:k≠g):(Go.Sort.grow (Go.Sort.putRow id (Go.Sort.ahead w n) g 0 d) Z).heap[k]?=w.heap[k]?:=by
 grind [Go.Sort.heap_grow_old,Go.Sort.putRow,Go.Sort.mapBlock,Go.Sort.ahead]
theorem Aw (bg:Array Value) (a:List Value) (h:a.length<=bg.size):(Go.Sort.putCells id 0 a.toArray bg).toList.take a.length=a:=by
 apply Zb6;grind [Go.Sort.putCells]
theorem Qdc (w:World):(isAgg 278).run prog w=.ok true w:=by
 simp_all
theorem sort {v:Value} {l:List Rg} (h:Av g w v l) (M:∀r∈l,0<=r.1/\r.1<=1114111) (hl:l.length<=1000000000) (O:g<=w.heap.size):
  Calls prog 183 #[v,.func (.func 184) #[] #[]] w λe o=>e=.returned (.tuple #[])/\
   ∃C,C.Perm l/\C.Pairwise (λa b=>a.1<=b.1)/\Av g o v C/\Below g w o:=by
 rcases h.2 with⟨rfl,y⟩ | ⟨B,cap,bg,rfl,p,E,y,I,hs,ht⟩
 ·obtain rfl:l=[]:=Zap y;refine(AnyF.slices_SortFunc_none Tryz.sortRg none 0 _ w).mono ?_;rintro e o ⟨rfl,rfl⟩;exact⟨rfl,[],List.Perm.refl _,List.Pairwise.nil,h,Below.refl _ _⟩
 ·obtain⟨d,rfl⟩:=NX l M;have F:∀args w,(callFunc 184 args).run prog w=.ok (.enter 184 args) w:=enters_of Tryz.func184 (by kernel_rfl) rfl
  have hlen:(d.map D9.r).length=d.toArray.size:=by simp
  have hH:HoldsK ev 2 w B 0 d.toArray:=by
   intro j t;have u:j<d.length*2:=by simpa using t
   rw[NY] at ht;have e:(flat ev d)[j]?=some (flatK ev 2 d.toArray)[j]!:=by
    grind [zG]
   grind [World.frozen?,World.cell?]
  rw[hlen];refine(AnyQ.slices_SortFunc Tryz.sortRg 2 Qdc Tryz.sizeOf278 ev D0 (λx=>zF x.r) cf swo 184 #[] B 0 cap d.toArray w F (Qdb B 0 d.toArray.size w) hH (DW E) (by simp at hl ⊢;omega)).mono ?_;rintro e o ⟨rfl,c,n,os,J,A,rfl⟩;obtain⟨z,K,L⟩:=J;simp only[Zb5] at*
  have D:c.toList.Perm d:=by
   have N:c.extract 0 d.length=c:=by rw[<-z];simp
   grind
  have m:(c.toList.map D9.r).length=(d.map D9.r).length:=by rw[Za2,Za2,D.length_eq]
  have q:(flatK ev 2 c).toList=flat er (c.toList.map D9.r):=by rw[zG,NY]
  have f:flatK ev 2 c=(flat er (c.toList.map D9.r)).toArray:=by rw[<-q]
  refine⟨trivial,c.toList.map D9.r,D.map _,?_,?_,?_⟩
  ·rw[List.pairwise_map,ZbD];intro i j hi t s;have G:i<c.size:=by simpa using hi
   have u:j<c.size:=by simpa using t
   have:=A i j (Zaj _) s ω;grind [xe]
  ·unfold Av kK;refine⟨by rw[n9 kC],.inr ⟨B,cap,_,by rw[m];simp,p,Ht _ E,by rw[m];exact y,I,by simp[putCells,hs],?_⟩⟩;rw[f];have H:(flat er (c.toList.map D9.r)).length=(c.toList.map D9.r).length*2:=n9 kC _;grind [Aw]
  ·refine⟨rfl,rfl,rfl,by simp[sortWorldK,putRowK],λk hk=>Lk _ k ω ω⟩
set_option maxHeartbeats 4000000 in
set_option maxRecDepth 100000 in
theorem Y9 (a:Option Addr) (l:List Rg) (cap:Nat) (w:World) (h:Rd er w a l l.length) (hl:l.length<=100000000):
  Calls prog 156 #[.slice a l.length cap] w λe w'=>∃v s,e=.returned v/\s.Perm (l.flatMap eB)/\s.Pairwise (λa b=>a.1<=b.1)/\Av w.heap.size w' v (jj s)/\Below w.heap.size w w':=by
 have hm:=h.max
 have hle:=h.le
 unfold maxLen at hm
 have H:=Lib.hid h
 clear h
 go_enter Tryz.func156,Tryz.ntmps156
 go_wp2_with fail
 go_loopg [3,12] l.length (λg v i wr=>∃k:Nat,k<=l.length/\g=l.length-k/\i=.int .i64 k/\Av w.heap.size wr v ((l.take k).flatMap eB)/\Below w.heap.size w wr)
 case atStart=>exact⟨0,ω,rfl,rfl,kK.nil _ _ _ _ _,Below.refl _ _⟩
 case round=>
  obtain⟨k,hk,rfl,rfl,c,f⟩:=hrel
  have hs:=f.size
  have hlen:=fV eB 2 uv (l.take k)
  have hlt2:(l.take k).length<=l.length:=by simp;omega
  by_cases A:k<l.length
  ·obtain⟨⟨x0,x1⟩,q⟩:∃x,l[k]?=some x:=⟨_,Zaf A⟩
   obtain⟨b,off,rfl,T,c0,c1⟩:=Rd.pair (H.out.kept f) q
   have HX:=Lib.hid q
   clear q
   go_wp2_with fail
   refine(QpA x0 x1 _).mono ?_
   rintro e C ⟨v1,rfl,o1,b1⟩
   obtain⟨a1,E,rfl,d,z⟩:=o1.rd
   have hr2:=uv (x0,x1)
   have G:Av w.heap.size C u3 ((l.take k).flatMap eB):=(c.alloc _).below b1 (Zah _)
   have l8:Below w.heap.size w C:=f.trans ((((Below.refl wr.heap.size wr).alloc (Zah _) _).mono hs).trans (b1.mono (by simp;omega)))
   have K:=l8.size
   have V:((l.take k).flatMap eB).length+(eB (x0,x1)).length<=1000000000:=ω
   clear o1 b1 z
   go_wp2_with (at_builtin;go_must (refine zl xd rfl rfl rfl rfl G d rfl kC zF V ω K ?_);intro v2 w2 M g2)
   go_roundg (l.length-(k+1))
   case measure=>omega
   case rel=>exact⟨k+1,ω,rfl,by go_num,by rw[uZ _ HX.out];exact M,Below.grow l8 G g2 (Zah _) K⟩
  ·obtain rfl:k=l.length:=ω
   rw[ZaM] at c hlen
   have F:∀r∈l.flatMap eB,Hz r:=by
    grind [Sw]
   have m:=Lib.hid F
   go_wp2_with fail
   refine(sort c (λr P=>⟨(m.out r P).1,by have:=m.out r P;unfold Hz at this;omega⟩) ω hs).mono ?_
   rintro e C ⟨rfl,s,D,I,o1,b1⟩
   have sH:s.length=(l.flatMap eB).length:=D.length_eq
   have hsl2:s.length<=200000000:=ω
   have l8:Below w.heap.size w C:=f.trans b1
   have HI:Hid (∀r∈s,Hz r):=Lib.hid λr P=>m.out r (D.mem_iff.1 P)
   have HP:=Lib.hid D
   have R:=Lib.hid I
   clear D I sH m F c f b1
   obtain⟨a1,E,rfl,d,z⟩:=o1.rd
   have U:=d.max
   have hle1:=d.le
   unfold maxLen at U
   have RD:=Lib.hid d
   clear d z o1
   go_wp2_with fail
   go_loopg [4,25] s.length (λg v i wr=>∃k:Nat,k<=s.length/\g=s.length-k/\i=.int .i64 k/\Av C.heap.size wr v (jj (s.take k))/\Below C.heap.size C wr)
   case atStart=>exact⟨0,ω,rfl,rfl,kK.nil _ _ _ _ _,Below.refl _ _⟩
   case round=>
    obtain⟨k,hk,rfl,rfl,c,f⟩:=hrel
    have B:=f.size
    have hlen:=xT (s.take k)
    have htl:(s.take k).length<=s.length:=by simp;omega
    have o:∀p∈jj (s.take k),Hz p:=Ow λp D=>HI.out p (Zcg D)
    by_cases A:k<s.length
    ·obtain⟨⟨x0,x1⟩,q⟩:∃x,s[k]?=some x:=⟨_,Zaf A⟩
     have Z:Hz (x0,x1):=HI.out _ (ZaJ q)
     obtain⟨W,X,Y⟩:=Z
     simp only at W X Y
     obtain⟨b,off,rfl,T,c0,c1⟩:=Rd.pair (RD.out.kept f) q
     have he:=ES q
     have N:=Lib.hid he
     clear q he
     generalize jj (s.take k)=out at c hlen o N
     rcases Zcu out with rfl | ⟨L,p,rfl⟩
     ·obtain⟨ao,co,rfl,rdo,_⟩:=c.rd
      clear rdo
      have j:cu [] (x0,x1)=[]++[(x0,x1)]:=rfl
      have n:=Lib.hid j
      clear j o
      simp only[Zak] at*
      go_wp2_with fail
      go_quiet (fail)
      go_wp2_with (at_builtin;go_must (refine qB xd rfl rfl rfl rfl (by simp) ((c.alloc _).drewN _) (x0,x1) rfl kC zF (by simp) ω (by simp;omega) ?_);intro v2 w2 M g2)
      go_roundg (s.length-(k+1))
      case measure=>omega
      case rel=>
       refine⟨k+1,ω,rfl,by go_num,?_,?_⟩
       ·rw[N.out,n.out];exact M
       ·exact oY (qC (f.alloc B _) _) ((c.alloc _).drewN _) g2 (Zah _) (by simp;omega)
     ·rw[Zcv] at*
      have j:cu (L++[p]) (x0,x1)=if x0<=p.2+1 then L++[(p.1,max p.2 x1)] else L++[p]++[(x0,x1)]:=by simp[cu]
      have n:=Lib.hid j
      obtain⟨hp0,hp1,hp2⟩:=o p (by simp)
      obtain⟨g,co,rfl,S,hg,hlc,hcm⟩:=c.form (by simp)
      obtain⟨d0,d1,f0,f1⟩:=Y8 c rfl (i:=L.length) (x:=p) (by simp)
      have Q:=Lib.hid c
      clear j o c
      simp only[Zab,Zae,Zak] at*
      cases O:decide (x0<=p.2+1)
      ·have J:p.2+1<x0:=by simpa using O
       clear O
       go_wp2_with fail
       go_quiet (fail)
       go_wp2_with (at_builtin;go_must (refine qB xd rfl rfl rfl rfl (by simp) ((Q.out.alloc _).drewN _) (x0,x1) rfl kC zF (by simp;omega) ω (by simp;omega) ?_);intro v2 w2 M g2)
       go_roundg (s.length-(k+1))
       case measure=>omega
       case rel=>
        refine⟨k+1,ω,rfl,by go_num,?_,?_⟩
        ·rw[N.out,n.out,Zaa ω];exact M
        ·exact oY (qC (f.alloc B _) _) ((Q.out.alloc _).drewN _) g2 (Zah _) (by simp;omega)
      ·have J:x0<=p.2+1:=by simpa using O
       clear O
       go_wp2_with fail
       go_quiet (fail)
       go_wp2_with fail
       go_region
       all_goals go_wp2_with fail
       go_roundg (s.length-(k+1))
       case measure=>omega
       case rel=>
        refine⟨k+1,ω,rfl,by go_num,?_,?_⟩
        ·rw[N.out,n.out,Zac J]
         have:=kK.store (t:=1) (y:=(p.1,max p.2 x1)) (u:=.int .i32 (max p.2 x1)) ((Q.out.alloc (.cells #[.int .i32 x0,.int .i32 x1] 278)).drewN (nq+1)) (by simp) kC (i:=L.length) (x:=p) (by simp) ω rfl
         simpa using this
        ·exact(qC (f.alloc B _) _).setCell S _
    ·obtain rfl:k=s.length:=ω
     go_wp2_with fail
     go_ret
     refine⟨_,s,rfl,HP.out,R.out,?_,?_⟩
     ·rw[ZaM] at c
      exact c.mono l8.size
     ·exact l8.trans (f.mono l8.size)
end cls
set_option maxRecDepth 100000
set_option maxHeartbeats 4000000
namespace sx
noncomputable section
open Go Go.RowKit cls syn
def QpB {M:Pm D} {x:Rg} (h:vw x):LR M (D.bm 6 x) (er x):=by
 obtain⟨h1,a,b,_⟩:=h;exact .cons (.int (cY.2 ⟨by show(-2147483648:Int)<=x.1;omega,by show x.1<=(2147483647:Int);omega⟩)) (.cons (.int (cY.2 ⟨by show(-2147483648:Int)<=x.2;omega,by show x.2<=(2147483647:Int);omega⟩)) .nil)
def avV (v:AV D.E):Value:=match v with
 | .int k n=>.int k n
 | _=>.nilIface
theorem NZ:∀y:List Rg,sl.flat er y=(aX (D:=D) 6 y).map avV
 | []=>rfl
 | x::t=>by
  show er x++sl.flat er t=([AV.int .i32 x.1,AV.int .i32 x.2]++aX (D:=D) 6 t).map avV
  rw[NZ t,ZcG];rfl
theorem QpC {M:Pm D} {H:Hp D} {w:World} {y:List Rg} {v:Value} (h:VR M (.list 6 y) v) (f:eP M H w) (hl:y.length<=100000000):∃a cap,v=.slice a y.length cap/\sl.Rd er w a y y.length:=by
 have k:y.length<=maxLen:=by grind [maxLen]
 cases h with
 | list hs l n=>
  rename_i b o cap
  refine⟨_,_,rfl,⟨λh=>(nomatch h),Zah _,k,λg e m=>?_⟩⟩;cases e;refine⟨rfl,f.slt (hs 0 m 0 _ rfl),λj u hu=>?_⟩;rw[NZ,Zbk,ZdM] at hu;obtain⟨v,d,rfl⟩:=hu;obtain⟨p,h1,i⟩:=qL iX f hs j v d;obtain⟨x,_,c⟩:=ZbG.1 (ZaJ d);have c:v=AV.int .i32 x.1\/v=AV.int .i32 x.2:=by simpa using(show v∈[AV.int .i32 x.1,AV.int .i32 x.2] from c)
  rcases c with rfl | rfl<;>(cases i;exact h1)
 | fw=>exact⟨_,_,rfl,⟨λ_=>⟨rfl,rfl⟩,Zah _,Zaj _,λg _ h=>absurd h (Nat.lt_irrefl 0)⟩⟩
theorem Y':Ok cW:=by
 refine⟨⟨f156,_,by kernel_rfl,dB (by kernel_rfl)⟩,λy u M A w B k _ R q=>?_⟩;obtain⟨v,rfl,I⟩:=yp B;obtain⟨a,cap,rfl,m⟩:=QpC I k u;refine(Y9 a y cap w m u).mono λe p ⟨v,s,E,H,l,t,r⟩=>?_
 subst E;have j:=EU H l;rw[SA j] at t j;rcases t.2 with⟨rfl,h⟩ | ⟨g,cap,bg,rfl,C,L,h,F,hs,ht⟩
 ·have z:aY y=[]:=Zap h;exact q M _ p (by show VR M (.list 6 (aY y)) _;rw[z];exact .fw) (jS k r 0)
 ·have D:LR M (aX 6 (aY y)) (sl.flat er (aY y)):=by
   have:=Ms (M:=M) (c:=6) (f:=λx=>x) (bm:=er) (xs:=aY y) λx J=>QpB (j.1.1 x J)
   change LR M _ (((aY y).map λx:Rg=>x).flatMap er) at this;rw[List.map_id'] at this;exact this
  have d:∀i v,(aX 6 (aY y))[i]?=some v->∃n,p.cell? ⟨g,0+i,none⟩=some n/\VR M v n:=λi v e=>by
   obtain⟨n,h1,K⟩:=D.get e;grind [World.cell?]
  refine q _ _ p (VR.list (b:=g) (o:=0) (cN.add iX) (by have G:(aY y).length<=cap:=h;unfold maxLen at F;show(aY y).length<=_;omega) h) (ϒ k r (g:=g) (o:=0) C d 0)
end
end sx
namespace bld
open Go Go.RowKit
abbrev BT:TypeId:=292
abbrev self (b:Nat):Value:=.pointer (some ⟨b,0,none⟩)
theorem Qfx:∃j,Tryz.prog.info? BT=some j/\j.size=2:=by
 obtain⟨j,a,hs⟩:=ZdM.1 (show(Tryz.prog.info? BT).map (·.size)=some 2 by kernel_rfl);grind
set_option maxHeartbeats 2000000 in
set_option maxRecDepth 100000 in
theorem QI (b:Nat) (w:World) (h0:w.cell? ⟨b,0,none⟩=some (self b)):
  Calls prog 211 #[self b] w λe d=>e=.returned (.tuple #[])/\d=w:=by
 obtain⟨j,a,c⟩:=Qfx
 go_enter Tryz.func211,Tryz.ntmps211
 go_wp2
 rw[Lib.run_neq_ptr_same w _ Tryz.underlying290 a]
 go_wp2
 go_end0
 grind
set_option maxHeartbeats 2000000 in
set_option maxRecDepth 100000 in
theorem Ll (b:Nat) (w:World) (h0:w.cell? ⟨b,0,none⟩=some (.pointer none)) (a:w.shape? b=some (BT,2)) (d:w.frozen? ⟨b,0,none⟩=false):
  Calls prog 211 #[self b] w λe g=>e=.returned (.tuple #[])/\g=w.setCell ⟨b,0,none⟩ (self b):=by
 obtain⟨j,c,f⟩:=Qfx
 go_enter Tryz.func211,Tryz.ntmps211
 go_wp2
 rw[Lib.run_to_unsafe w ⟨b,0,none⟩ Tryz.underlying290 Tryz.underlying313 c ω a (Nat.zero_lt_succ 1)]
 simp only[Result.andThen]
 rw[Oper.upon_value]
 go_wp2
 rw[run_callFunc_extern Tryz.func222 (by kernel_rfl) (by kernel_rfl) (by kernel_rfl) (e:=Extern.AbiNoEscape.same) (by kernel_rfl)]
 rw[Lib.run_noEscape]
 simp only[Result.andThen]
 rw[Oper.upon_value]
 go_wp2
 rw[Lib.run_from_unsafe w ⟨b,0,none⟩ Tryz.underlying313 Tryz.underlying290 c a (by kernel_rfl)]
 simp only[Result.andThen]
 rw[Oper.upon_value]
 go_wp2
 go_end0
 grind
section
variable {P:Program}
def liesAt_bytes {e:TypeId} (b:P.cellsOf e=1) (count o n:Nat) (c:o+n<=count):liesAt P P.depth e count o e n:=by
 have a:P.depth=(2*(P.types.size+Made.depth)+1)+1:=rfl;rw[a];simp only[liesAt,ZbM];left;rw[a];simp[rowAt,b,c,sameLayout,Nat.mod_one]
theorem u_ (w:World) (pt it ty e:TypeId) (hp:P.underlying pt=some (.pointer e)) (hc:P.cellsOf e=1) (g o cells:Nat) (hsh:w.shape? g=some (e,cells)) (l:List UInt8) (h0:l≠[]) (hn:o+l.length<=cells) (h63:l.length<=9223372036854775807)
  (hcell:∀j x,l[j]?=some x->w.cell? ((⟨g,o,none⟩:Addr).add j)=some (.int .u8 x.toNat)):
  (Builtin.unsafeString_ #[pt,it] ty #[.pointer (some ⟨g,o,none⟩),.int .i64 l.length]).run P w=.ok (.string ⟨l.toArray⟩) (w.freeze ⟨g,o,none⟩ l.length):=by
 have hl:l.length≠0:=by grind
 have hlb:=Lib.run_loadBytes (P:=P) w l ⟨g,o,none⟩ .empty hcell;have hlies:=liesAt_bytes (P:=P) hc (cells / P.cellsOf e) o l.length (by grind);have h63':¬(9223372036854775807:Int)<(l.length:Int):=ω;have hdef:Builtin.unsafeString_ #[pt,it] ty #[.pointer (some ⟨g,o,none⟩),.int .i64 l.length]=
   (do
    let n <-asInt (.int .i64 l.length)
    if n<0 then runtimePanic (.error "unsafe.String: len out of range")
    if n>IntKind.i64.max then unsupported (.unsafePointer "String: a length above the largest int")
    if n=0 then pure (.string .empty)
    else if <-variablesAt ⟨g,o,none⟩ (<-elemOf pt) n.toNat then do
     let s <-loadBytes ⟨g,o,none⟩ .empty n.toNat
     freeze ⟨g,o,none⟩ n.toNat
     pure (.string s)
    else unsupported (.unsafePointer "String: not so many bytes at ptr")):=rfl
 rw[hdef];have hmax:IntKind.i64.max=9223372036854775807:=rfl;have hneg:¬(l.length:Int)<0:=ω;simp[asInt,asIntOf,hmax,h63',hneg,hl,variablesAt,hsh,elemOf,Zza hp,hlies,hlb]
end
set_option maxHeartbeats 1000000 in
set_option maxRecDepth 100000 in
theorem QxF (b g o cap:Nat) (p:Value) (l:List UInt8) (C:Array Value) (i c:Nat×Nat) (w:World) (h0:l≠[]) (f:w.heap[b]?=some (.cells #[p,.slice (some ⟨g,o,none⟩) l.length cap] BT i))
  (n:w.heap[g]?=some (.cells C 5 c)) (r:o+l.length<=C.size) (t:l.length<=cap) (d:l.length<=9223372036854775807)
  (a:∀j x,l[j]?=some x->w.cell? ((⟨g,o,none⟩:Addr).add j)=some (.int .u8 x.toNat)):
  Calls prog 203 #[self b] w λe s=>e=.returned (.string ⟨l.toArray⟩)/\s=w.drew.freeze ⟨g,o,none⟩ l.length:=by
 have q:l.length≠0:=by grind
 have c1:w.drew.cell? ⟨b,1,none⟩=some (.slice (some ⟨g,o,none⟩) l.length cap):=by
  have:w.drew.heap[b]?=some (.cells #[p,.slice (some ⟨g,o,none⟩) l.length cap] BT i):=f
  rw[Lib.cell_of_heap this];rfl
 have k:(Builtin.unsafeSliceData_ #[30] 301 #[.slice (some ⟨g,o,none⟩) l.length cap]).run prog w.drew=.ok (.pointer (some ⟨g,o,none⟩)) w.drew:=
  Lib.run_unsafeSliceData_row _ _ _ _ _ _ ω
 have m:(Builtin.unsafeString_ #[301,3] 9 #[.pointer (some ⟨g,o,none⟩),.int .i64 l.length]).run prog w.drew=.ok (.string ⟨l.toArray⟩) (w.drew.freeze ⟨g,o,none⟩ l.length):=by
  refine u_ w.drew 301 3 9 5 Tryz.underlying301 (by kernel_rfl) g o C.size (by have h:w.drew.heap[g]?=some (.cells C 5 c):=n;simp[World.shape?,h]) l h0 r d a
 have mixed:Tryz.prog.follows .mixedOrders=true:=by kernel_rfl
 go_enter Tryz.func203,Tryz.ntmps203
 go_wp2
 go_region_o
 all_goals (go_wp2;go_ret;exact⟨rfl,rfl⟩)
set_option maxHeartbeats 2000000 in
set_option maxRecDepth 100000 in
theorem QxG (b:Nat) (p:Value) (c:Nat×Nat) (w:World) (a:w.heap[b]?=some (.cells #[p,.slice none 0 0] BT c)):
  Calls prog 203 #[self b] w λe g=>e=.returned (.string ⟨#[]⟩)/\g=w.drew:=by
 have f:∀(W:World) (q:Option Addr),(Builtin.unsafeString_ #[301,3] 9 #[.pointer q,.int .i64 0]).run prog W=.ok (.string .empty) W:=λW q=>Lib.run_unsafeString_none W _ _ _ q
 have c1:w.drew.cell? ⟨b,1,none⟩=some (.slice none 0 0):=by
  have:w.drew.heap[b]?=some (.cells #[p,.slice none 0 0] BT c):=a
  rw[Lib.cell_of_heap this];rfl
 have d:(Builtin.unsafeSliceData_ #[30] 301 #[.slice none 0 0]).run prog w.drew=.ok (.pointer none) w.drew:=rfl
 have mixed:Tryz.prog.follows .mixedOrders=true:=by kernel_rfl
 go_enter Tryz.func203,Tryz.ntmps203
 go_wp2
 go_region_o
 all_goals (go_wp2;go_ret;exact⟨rfl,rfl⟩)
end bld
set_option maxRecDepth 100000
set_option maxHeartbeats 4000000
namespace sx
noncomputable section
open Go Go.RowKit cls syn
variable {x:Nat} {b:By} {G:List Gt}
def Qfy (y:Int):Prop:=let a:=([b8 y]:List UInt8);let q1:=([UInt8.ofNat y.toNat]:List UInt8);Iv True/\ba (ab a) 1/\ab a=ab q1/\a=q1/\True
def Qfz (y:(List UInt8)×Int):Prop:=let a:=bn y.1 [b8 y.2];Iv True/\aa [ab y.1] (aa [y.1] (ba (ab a) 1/\ab a=ab (y.1++[UInt8.ofNat y.2.toNat])/\a=(y.1++[UInt8.ofNat y.2.toNat])/\True))
def QpD (y:Unit):Prop:=
 (0:Int)=(0:Int)/\
 True
def QfA (y:List UInt8):Prop:=aa [ab y,ab y] (aa [y] (True))
def Y_ (y:(List (Int×Int))×cm):Prop:=let f:=y.1.length;let q1:=ab y.1;let r:=gZ y.1 (nn y.2);let s:=ie y.1 (nn y.2);let t:=((cB y.1 (f-y.2.i.toNat) y.2.i.toNat []).1:Int);let C:=λp:Prop=>aa [y.2.i] p;let v:=λp:Prop=>aa [y.1] (aa [bU y.1] p);let A:=λp:Prop=>aa [y.2.i] (aa [y.1] (aa [bU y.1] p));let B:=λp:Prop=>aa [y.2.an,y.2.ae,y.2.au,y.2.wh] p;let u:Prop:=(y.2.an=((y.2.an.toNat:Nat):Int)/\y.2.ae=((y.2.ae.toNat:Nat):Int)/\aa [y.2.au,y.2.wh] (True));∃z:Unit,(∃w:Nat,A (y.2.i=(w:Int)/\B ((Iv (uH y w [])))))/\(∀x:Nat,let l:=ay .i64 (x:Int) 1;let d:=(gt (0,0) y.1 (x:Int).toNat).1;let h:=xf .u8 d;let m:=([UInt8.ofNat h.toNat]:List UInt8);let q:=λp:Prop=>aa [y.1] (aa [(x:Int),d] p);let j:Prop:=(Iv True/\aa [(x:Int),(x:Int)] ([]=s/\aD y.2.i (x:Int)=r/\v ((x:Int)=t/\u)));let n:Prop:=(aM 0 (x:Int)/\aD (x:Int) q1/\Iv (IG h)/\aa [h] (aa [y.1] (aa [(x:Int),d] (((∃b:Nat,y.2.i=y.2.i/\False)\/(∃b:Nat×(List UInt8),y.2.i=y.2.i/\ab m=ab b.2/\m=b.2/\y.1=y.1/\bU y.1=bU y.1/\l=(b.1:Int)/\y.2.an=y.2.an/\y.2.ae=y.2.ae/\y.2.au=y.2.au/\y.2.wh=y.2.wh/\Iv ((uH y b.1 b.2/\Ne b.2 [])/\(f-b.1)<(f-x))))))));(Iv (uH y x []))->aj (aD (x:Int) q1) (aM 0 (x:Int)/\aD (x:Int) q1/\aj (aM 48 d) (aM 0 (x:Int)/\aD (x:Int) q1/\aa [(x:Int)] (aa [y.1,y.1] (aa [(x:Int),d] (aa [y.1] (aa [(x:Int),d] (aj (aM d 57) (aM 0 (x:Int)/\aD (x:Int) q1/\aj (aD 48 d) (q (n)) (Iv True/\q (aj (aD 0 0) (n) (((∃b:Nat,y.2.i=y.2.i/\y.1=y.1/\bU y.1=bU y.1/\l=(b:Int)/\y.2.an=y.2.an/\y.2.ae=y.2.ae/\y.2.au=y.2.au/\y.2.wh=y.2.wh/\Iv (uH y b []/\(f-b)<(f-x)))\/(∃b:Nat×(List UInt8),y.2.i=y.2.i/\False)))))) (j))))))) (aa [(x:Int)] (aa [y.1,y.1] (aa [(x:Int),d] (j))))) (aa [(x:Int)] (aa [y.1] (j))))/\(∀x:Nat×(List UInt8),let e:=ab x.2;let a:=(x.1:Int);let c:=(gt (0,0) y.1 a.toNat).1;let g:=xf .u8 c;let k:Prop:=(Iv (Ne x.2 [])/\aa [e] (aa [x.2] (aa [a,a] (x.2=s/\aD y.2.i a=r/\v (a=t/\u)))));let o:Prop:=(aM 0 a/\aD a q1/\Iv (x.2.length<=1000000/\IG g)/\aa [g,e] (aa [x.2] (aa [y.1] (aa [a,c] (((∃b:Nat,y.2.i=y.2.i/\False)\/(∃b:Nat×(List UInt8),y.2.i=y.2.i/\ab (x.2++[UInt8.ofNat g.toNat])=ab b.2/\(x.2++[UInt8.ofNat g.toNat])=b.2/\y.1=y.1/\bU y.1=bU y.1/\ay .i64 a 1=(b.1:Int)/\y.2.an=y.2.an/\y.2.ae=y.2.ae/\y.2.au=y.2.au/\y.2.wh=y.2.wh/\Iv ((uH y b.1 b.2/\Ne b.2 [])/\(f-b.1)<(f-x.1)))))))));(Iv (uH y x.1 x.2/\Ne x.2 []))->aj (aD a q1) (aM 0 a/\aD a q1/\aj (aM 48 c) (aM 0 a/\aD a q1/\aa [a] (aa [y.1,y.1] (aa [a,c] (aa [y.1] (aa [a,c] (aj (aM c 57) (aM 0 a/\aD a q1/\aj (aD 48 c) (aa [y.1] (aa [a,c] (o))) (Iv True/\aa [e] (aa [x.2] (aa [y.1] (aa [a,c] (aj (aD 0 e) (o) (((∃b:Nat,y.2.i=y.2.i/\False)\/(∃b:Nat×(List UInt8),y.2.i=y.2.i/\e=ab b.2/\x.2=b.2/\y.1=y.1/\bU y.1=bU y.1/\ay .i64 a 1=(b.1:Int)/\y.2.an=y.2.an/\y.2.ae=y.2.ae/\y.2.au=y.2.au/\y.2.wh=y.2.wh/\Iv ((uH y b.1 b.2/\Ne b.2 [])/\(f-b.1)<(f-x.1))))))))))) (k))))))) (aa [a] (aa [y.1,y.1] (aa [a,c] (k))))) (aa [a] (aa [y.1] (k))))
theorem QpE:Ok Qk7:=by
 refine⟨⟨f211,_,by kernel_rfl,dB (by kernel_rfl)⟩,λy o M A w f c _ R h=>?_⟩;obtain⟨v,rfl,k⟩:=yp f;cases k with
 | ptr d n=>
  obtain⟨_,hs,ht,C,m,g,hl,_⟩:=qb c (b:=0) (cs:=[.ptr 0 0,.own 1 1 (ab y)]) rfl d;obtain⟨p,q,rfl,h0,h1⟩:=FI hl;cases h0 with
  | ptr a j=>
   rw[d] at a;cases a;rw[hs];refine(bld.QI _ w (by rw[Lib.cell_of_heap g,hs];rfl)).mono λe l ⟨i,hw⟩=>?_
   subst i hw;exact h M _ l (VR.Em .nil) (.refl c 2)
theorem QpF:Ok Ϥ:=by
 refine⟨⟨f211,_,by kernel_rfl,dB (by kernel_rfl)⟩,λy D M A w p k _ R r=>?_⟩;obtain⟨v,rfl,u⟩:=yp p;cases u with
 | @ptr _ _ x f g=>
  obtain⟨_,hs,ht,C,m,c,hl,d⟩:=qb k (b:=0) (cs:=[.fY,.dc]) rfl f;obtain⟨E,F,rfl,h0,h1⟩:=FI hl;cases h0;cases h1;rw[hs];have a:=d rfl;refine(bld.Ll _ w (by rw[Lib.cell_of_heap c];rfl) (by simp[World.shape?,c]) (by
   simp only[World.frozen?,c];rcases a with h | h
   ·rw[h];simp;try omega
   ·have:=h.1;simp at this ⊢;try omega)).mono λe G ⟨s,hw⟩=>?_
  subst s hw;obtain⟨_,_,j⟩:=sU (o1:=.cells [.ptr 0 0,.dc] 292 false) (q:=0) (vs':=[bld.self x.cg]) (b:=0) k rfl rfl f g c (by grind) (by grind) ω (λ_=>trivial) (λl z H B=>⟨⟨g,hs,ht⟩,l,m,z,by grind,by grind,(λi v e=>by
   rw[hs,Za6,B]
   match i,e with
   | 0,e=>cases e;exact⟨_,rfl,by have:=VR.ptr (o:=0) f g;rw[hs] at this;exact this⟩
   | 1,e=>cases e;exact⟨_,rfl,.dc⟩
   | n+2,e=>cases e),λ_=>ω⟩) 1
  refine r M _ _ (VR.Em .nil) ?_;have e:(λt=>cM (Ϥ.jf y) t)=jF (λt=>cM (Ϥ.heap y) t) 0 (some (.cells [.ptr 0 0,.dc] 292 false)):=by
   funext t;show cM (Uw 0 (.ptr 0 0)) t=_
   unfold jF Uw;by_cases ht:t=0
   ·subst ht;rfl
   ·rw[Zaa ht,fH,Zaa (λh=>ht h.symm)];show cM [] t=cM (Uw 0 .fY) t
    grind [Uw,fH]
  rw[e];exact j
theorem N0 {M:Pm D} {H:Hp D} {w:World} (i:eP M H w) {b:Nat} {o:AO D.E} {d:MI} (k:H b=some o) (hw:o.wr) (g:∀j,o.ui d j) (l:M.pl b=some d) (p:d.real) (a:Addr) (G:a.block=d.cg) (n lo:Nat):
  dq H M w (λ_=>none) M (w.drew.freeze a n) lo lo:=by
 have f:∀W:World,(W.freeze a n).os=W.os/\(W.freeze a n).tape=W.tape/\(W.freeze a n).output=W.output/\(W.freeze a n).heap.size=W.heap.size/\∀c,c≠d.cg->(W.freeze a n).heap[c]?=W.heap[c]?:=λW=>by
  grind [World.freeze]
 obtain⟨s,t,u,x,y⟩:=f w.drew;have hk:∀c,c≠d.cg->(w.drew.freeze a n).heap[c]?=w.heap[c]?:=y;refine⟨⟨λb o h=>(nomatch h),λb F o J m I h=>(nomatch h),λc q v h=>?_,λb o m h=>(nomatch h),λb c xs e m h=>(nomatch h),⟨⟨by rw[x];exact i.mZ.1.1,D.gst _ _ (λc z=>hk c ?_) i.mZ.1.2⟩,λb o m h=>(nomatch h)⟩⟩,λ_ _=>rfl,λ_ _ _ h=>h,λ_ _ h=>.inl h,by simp_all,λc z A=>hk c ?_,λb o m h=>(nomatch h),λb h=>absurd rfl h,s,t,u,Zah _⟩
 ·obtain⟨B,C,r,e2⟩:=i.ia c q v h;refine⟨B,C,?_,e2⟩;rw[<-r];exact gL (hk c λe=>by
   have:=i.sep b o d k hw l p q (g q);rw[<-e,h] at this;cases this)
 ·have:=i.mZ.2 b o d k hw l p;omega
 ·exact λe=>A ⟨b,o,d,k,hw,l,p,e.symm⟩
theorem QpG:Ok Qk8:=by
 refine⟨⟨f203,_,by kernel_rfl,dB (by kernel_rfl)⟩,λy n M A w f a _ R h=>?_⟩;obtain⟨v,rfl,l⟩:=yp f;cases l with
 | @ptr _ _ m c k=>
  obtain⟨_,hs,ht,C,d,g,hl,j⟩:=qb a (b:=0) (cs:=[.fY,.dc]) rfl c;obtain⟨o,p,rfl,h0,h1⟩:=FI hl;cases h0;cases h1;rw[hs];refine(bld.QxG _ _ d w g).mono λe q ⟨i,hw⟩=>?_
  subst i hw;have:=N0 a (b:=0) rfl rfl (λ_=>trivial) c k ⟨m.cg,0,none⟩ rfl 0 1;exact h M (.string ⟨⟨[]⟩⟩) _ (.str (Zaj _)) this
theorem QpH:Ok Qk9:=by
 refine⟨⟨f203,_,by kernel_rfl,dB (by kernel_rfl)⟩,λy n M A w q h _ R r=>?_⟩;obtain⟨v,rfl,E⟩:=yp q;cases E with
 | @ptr _ _ I B H=>
  obtain⟨_,hs,ht,C,p,m,hl,t⟩:=qb h (b:=0) (cs:=[.ptr 0 0,.own 1 1 (ab y)]) rfl B;obtain⟨J,K,rfl,h0,h1⟩:=FI hl;obtain⟨a,d,c,f,i⟩:=h.obj 1 (.arr 0 y 5 false) rfl;have z:ab y=(y.length:Int):=aw y;cases h1 with
  | own g1 g2 g3 g4 g5 g6 g7=>
   rw[d] at g1;cases g1;obtain⟨o,g,k1,k2,k3,k4,k5⟩:=i g3;replace c:a.len=y.length:=c;replace f:a.jM=1:=f;rw[c] at m g5 g6;rw[hs];have k:=bf iX 0 y;rw[show D.size 0=1 from rfl,Zb8] at k;have G:a.sh+y.length<=a.rS:=by grind
   refine(bld.QxF _ _ _ _ _ y o p g w n m k1 ω g6 g5 (λj x F=>?_)).mono λe N ⟨s,hw⟩=>?_
   ·obtain⟨u,rfl⟩:=Zam.1 F;have e:=gk iX 0 y j 0 u (by decide);obtain⟨L,l,a2⟩:=k4 (j*D.size 0+0) _ e;obtain rfl:=gb a2;have:(⟨a.cg,a.sh,none⟩:Addr).add j=⟨a.cg,a.sh+j,none⟩:=by
     grind [Addr.add]
    rw[this,Lib.cell_of_heap k1];have e2:a.sh+(j*D.size 0+0)=a.sh+j:=by show a.sh+(j*1+0)=_;omega
    rw[e2] at l;exact l
   ·subst s hw;have:=N0 h (b:=1) rfl rfl (λ_=>trivial) d g3 ⟨a.cg,a.sh,none⟩ rfl y.length 2;exact r M (.string ⟨⟨y⟩⟩) _ (.str g5) this
  | mM g1 g2 g3 g4 g5=>exact absurd (Zap ω) n
theorem QpI:Ok ϥ:=okZ (V:=Qfy) [Ϥ] f202 (λ_=>⟨[],[2],[],[],1,[]⟩) QpF λy a=>by
 unfold Qfy;simp only[cC,Zal,aw];exact⟨bq.2 (by grind),rfl,rfl,trivial⟩
theorem QpJ:Ok Ϧ:=okZ (V:=Qfz) [Qk7] f202 (λ_=>dk ()) QpE λy a=>by
 unfold Qfz;simp only[bj,aw,a_];obtain⟨h1,b⟩:y.1.length<=1000000/\IG y.2:=a;refine⟨bq.2 ?_,rfl,rfl⟩;grind
def QpK:Ok ϧ:=okZ (V:=QpD) [] f201 (λ_=>dk ()) trivial λy a=>⟨rfl,trivial⟩
theorem QpL:Ok Ϩ:=okZ (V:=QfA) [] f201 (λ_=>dk ()) trivial λy a=>by
 grind [QfA]
theorem Lm {i:Nat} (h:¬(i<G.length/\48<=aN G i/\aN G i<=57)):cB G x i b=(i,b):=by
 rcases x with _ | x
 ·rfl
 ·grind [cB]
theorem Za (h:x<G.length/\48<=aN G x/\aN G x<=57):cB G (G.length-x) x b=cB G (G.length-(x+1)) (x+1) (if 48<aN G x\/b≠[] then b++[UInt8.ofNat (aN G x).toNat] else b):=by
 obtain⟨m,a⟩:∃m,G.length-x=m+1:=⟨G.length-x-1,ω⟩;grind [cB]
def oc {y:PS} (a:bF y) (l:uH y x b) (h:¬(x<y.1.length/\48<=aN y.1 x/\aN y.1 x<=57)):
  b=ie y.1 (nn y.2)/\aD y.2.i x=gZ y.1 (nn y.2)/\(x:Int)=((cB y.1 (y.1.length-y.2.i.toNat) y.2.i.toNat []).1:Nat)/\y.2.an=(y.2.an.toNat:Nat)/\y.2.ae=(y.2.ae.toNat:Nat):=by
 have e:=l.2.2.2;rw[Lm h] at e;obtain⟨c,a2,a3,a4,_⟩:=a;refine⟨?_,?_,?_,ω,ω⟩
 ·show b=(cB y.1 (y.1.length-(nn y.2).i) (nn y.2).i []).2
  rw[<-e]
 ·show _=decide ((nn y.2).i<(cB y.1 (y.1.length-(nn y.2).i) (nn y.2).i []).1)
  rw[<-e];apply ZaG.2;rw[gF,ZbP];show y.2.i<x↔y.2.i.toNat<x
  omega
 ·show(x:Int)=((cB y.1 (y.1.length-(nn y.2).i) (nn y.2).i []).1:Nat)
  rw[<-e]
theorem Zb {y:PS} (a:bF y) (l:uH y x b) (h:x<y.1.length/\48<=aN y.1 x/\aN y.1 x<=57):
  ay .i64 (x:Int) 1=((x+1:Nat):Int)/\xf .u8 (aN y.1 x)=aN y.1 x/\IG (aN y.1 x)/\uH y (x+1) (if 48<aN y.1 x\/b≠[] then b++[UInt8.ofNat (aN y.1 x).toNat] else b)/\y.1.length-(x+1)<y.1.length-x:=by
 obtain⟨q1,e,f,c⟩:=l;have d:=a.1;refine⟨bA ω ω,dW (cY.2 ⟨by show(0:Int)<=_;omega,by show _<=(255:Int);omega⟩),⟨ω,ω⟩,⟨ω,ω,?_,by rw[<-c,Za h]⟩,ω⟩;grind
theorem QxH:∀y,yy.pre y->Y_ y:=λy j=>by
 unfold Y_;simp only[bN,bj,aw,dL,Zad,ZaX,ZaY,ZaZ,Zdt,Zdv,Zd2];obtain⟨b,-⟩:=j;replace b:bF y:=b;obtain⟨k,a2,-⟩:=id b;simp only[show ∀x:Nat,(y.1.getD x (0,0)).1=aN y.1 x from λ_=>rfl];refine⟨⟨(nn y.2).i,by show y.2.i=(y.2.i.toNat:Int);omega,Zah _,by show y.2.i.toNat<=_;omega,Zaj _,rfl⟩,λx a=>?_,λx a=>?_⟩
 ·refine⟨λh1=>⟨ω,h1,λd=>⟨ω,h1,λe=>⟨ω,h1,?_⟩,λe=>oc b a λh=>?_⟩,λd=>oc b a λh=>?_⟩,λh1=>oc b a λh=>?_⟩
  ·obtain⟨g1,g2,g3,g4,g5⟩:=Zb b a ⟨ω,d,e⟩;rw[g2];refine⟨λf=>⟨ω,h1,g3,⟨(x+1,[UInt8.ofNat (aN y.1 x).toNat]),rfl,rfl,g1,⟨?_,by simp⟩,g5⟩⟩,λf=>⟨λh=>absurd h (by decide),λ_=>⟨x+1,g1,?_,g5⟩⟩⟩
   ·grind
   ·grind
  all_goals omega
 ·obtain⟨i,l⟩:=x;obtain⟨a,hl⟩:=a;refine⟨λh1=>⟨ω,h1,λd=>⟨ω,h1,λe=>⟨ω,h1,?_⟩,λe=>⟨hl,oc b a λh=>?_⟩⟩,λd=>⟨hl,oc b a λh=>?_⟩⟩,λh1=>⟨hl,oc b a λh=>?_⟩⟩
  ·obtain⟨g1,g2,g3,g4,g5⟩:=Zb b a ⟨ω,d,e⟩;simp only at g2 hl ⊢;rw[g2];rw[Zac (.inr hl)] at g4;have o:l.length<=1000000:=by have m:l.length<=i:=a.2.2.1;have n:i<=y.1.length:=a.2.1;omega
   have g:∃c:Nat×By,((l++[UInt8.ofNat (aN y.1 i).toNat]).length:Int)=(c.2.length:Int)/\l++[UInt8.ofNat (aN y.1 i).toNat]=c.2/\ay .i64 (i:Int) 1=(c.1:Int)/\(uH y c.1 c.2/\c.2≠[])/\y.1.length-c.1<y.1.length-i:=
    ⟨(i+1,_),rfl,rfl,g1,⟨g4,by simp⟩,g5⟩
   grind [List.length_pos_iff]
  all_goals omega
def QpM:Ok yy:=okZ [ϧ,Ϩ,ϥ,Ϧ,Qk8,Qk9] f178 QsG ⟨QpK,QpL,QpI,QpJ,QpG,QpH⟩ QxH
end
end sx
namespace ins
open Go Go.RowKit Go.Lib
abbrev R:TypeId:=201
abbrev S:TypeId:=195
section
variable {P:Program}
theorem o8 (w:World) (l p ty elem:TypeId) (k b o c e:Nat) (a:Addr) (d g:Nat) (cs:List Value)
  (hu:P.underlying l=some (.slice elem)) (hs:(P.info? elem).map (·.size)=some k) (n:cs.length=Nat.min d c*k)
  (f:∀j v,cs[j]?=some v->w.cell? (a.add j)=some v) (q:∀j,j<cs.length->(w.cell? ⟨b,o+j,none⟩).isSome) (r:∀j,j<cs.length->w.frozen? ⟨b,o+j,none⟩=false) (h1:∀v∈cs,v.oneCell'):
  (Builtin.copy_ #[l,p] ty #[.slice (some ⟨b,o,none⟩) c e,.slice (some a) d g]).run P w=.ok (goInt (Nat.min d c)) (w.setCells b o cs):=by
 have hl:=run_loadCells_list (P:=P) w a cs f;have h:=run_storeCells_cells (P:=P) b o cs 0 w (by assumption) (by assumption) h1;cases m:P.info? elem with
 | none=>simp[m] at hs
 | some i=>
  have hi:i.size=k:=by grind
  simp[Builtin.copy_,Zza hu,Builtin.lenOf,Builtin.firstCells,sizeOf,typeInfo,m,hi,<-n,hl,h]
end
def N5:(Tryz.prog.info? R).map (·.size)=some 2:=by kernel_rfl
set_option maxHeartbeats 4000000 in
set_option maxRecDepth 100000 in
theorem shift (b off n c i d a vc:Nat) (cs p:List Value) (w:World) (hi:i<n) (J:n+1<=c) (U:n<=1000000) (z:d≠b)
  (hcl:cs.length=n*2) (hvl:p.length=2)
  (E:∀j v,cs[j]?=some v->w.cell? ⟨b,off+j,none⟩=some v) (m:∀j,j<(n+1)*2->(w.cell? ⟨b,off+j,none⟩).isSome=true) (u:∀j,j<(n+1)*2->w.frozen? ⟨b,off+j,none⟩=false)
  (M:∀j v,p[j]?=some v->w.cell? ⟨d,a+j,none⟩=some v) (B:∀v∈cs,v.oneCell'=true) (C:∀v∈p,v.oneCell'=true)
  (V X:TypeId) (N O:Nat) (K:w.shape? d=some (V,N)) (L:w.shape? b=some (X,O)) (H:O≠0) (F:w.frozen? ⟨d,a,none⟩=false) (G:w.frozen? ⟨d,N,none⟩=false):
  Calls prog 88 #[.slice (some ⟨b,off,none⟩) n c,.int .i64 i,.slice (some ⟨d,a,none⟩) 1 vc] w λe w'=>
   e=.returned (.slice (some ⟨b,off,none⟩) (n+1) c)/\w'=(w.drew.setCells b (off+(i+1)*2) (cs.drop (i*2))).setCells b (off+i*2) p:=by
 have I:∀o Q A,(callFunc 122 #[.slice (some ⟨d,a,none⟩) 1 vc,.slice (some ⟨b,o,none⟩) Q A]).run prog w=.ok (.value (.bool false)) w:=λo Q A=>by
  rw[run_callFunc_extern Tryz.func122 (by kernel_rfl) (by kernel_rfl) (by kernel_rfl) (e:=Extern.SlicesOverlaps.overlaps #[S,S] #[4]) (by kernel_rfl),
   Lib.run_overlaps_apart w S 4 R Tryz.underlying195 2 Tryz.sizeOf201 ⟨d,a,none⟩ ⟨b,o,none⟩ 1 vc Q A z V X N O K L H F G]
  rfl
 have hdl:(cs.drop (i*2)).length=(n-i)*2:=by grind
 have mixed:Tryz.prog.follows .mixedOrders=true:=by kernel_rfl
 have hw1:IntKind.i64.wrap ((i:Int)+1)=(i:Int)+1:=by rw[IntKind.wrap_i64];omega
 have l8:(0:Int)<=(i:Int)+1:=ω
 have hin:i<=n:=ω
 have Y:¬(c=i+1):=ω
 have Z:(i:Int)<=(n:Int)+1:=ω
 have hb4:¬(c=i):=ω
 have s:∀ty f T,(Builtin.copy_ #[S,S] ty #[.slice (some ⟨b,off+(i+1)*2,none⟩) (n-i) f,.slice (some ⟨b,off+i*2,none⟩) (n+1-i) T]).run prog w.drew=.ok (goInt ((n-i:Nat):Int)) (w.drew.setCells b (off+(i+1)*2) (cs.drop (i*2))):=λty f T=>by
  have hm:Nat.min (n+1-i) (n-i)=n-i:=by grind
  have:=o8 (P:=prog) w.drew S S ty R 2 b (off+(i+1)*2) (n-i) f ⟨b,off+i*2,none⟩ (n+1-i) T (cs.drop (i*2)) Tryz.underlying195 N5 ω
   (λj v l=>by rw[Addr.add_lit,Za4];exact E (i*2+j) v (by grind))
   (λj l=>by rw[Za4];exact m _ ω) (λj l=>by rw[Za4];exact u _ ω) (λv hv=>B v (Zc5 hv))
  grind
 obtain⟨q,g⟩:∃q,q=w.drew.setCells b (off+(i+1)*2) (cs.drop (i*2)):=⟨_,rfl⟩
 have y:∀k,k<(n+1)*2->(q.cell? ⟨b,off+k,none⟩).isSome=true:=λk hk=>by
  rw[g]
  exact isSome_setCells b _ _ _ (λj l=>by rw[Za4];exact m _ ω) _ (m k hk)
 have t:∀(W:World),(∀x,W.cell? x=q.cell? x)->(∀x,W.frozen? x=q.frozen? x)->∀ty f,(Builtin.copy_ #[S,S] ty #[.slice (some ⟨b,off+i*2,none⟩) (n+1-i) f,.slice (some ⟨d,a,none⟩) 1 vc]).run prog W=.ok (goInt 1) (W.setCells b (off+i*2) p):=λW r D ty f=>by
  have hm:Nat.min 1 (n+1-i)=1:=by grind
  have:=o8 (P:=prog) W S S ty R 2 b (off+i*2) (n+1-i) f ⟨d,a,none⟩ 1 vc p Tryz.underlying195 N5 ω
   (λj v l=>by
    rw[Addr.add_lit,r,g,World.cell?_setCells_out b _ _ _ _ (λh _=>absurd h z)]
    exact M j v l)
   (λj l=>by rw[r,Za4];exact y _ ω) (λj l=>by rw[D,g,World.frozen?_setCells,Za4];exact u _ ω) C
  grind
 go_enter Tryz.func88,Tryz.ntmps88
 go_wp2_with (simp only[I])
 go_region_law_o (refine step_copy_runI rfl _ _ S S rfl _ _ (by simp[Act.eval,Act.put]) (by simp[Act.eval,Act.put]) (s _ _ _) ?_)
 go_wp2_with (at_builtin;refine wpList_copy_runI _ rfl _ _ S S rfl _ _ rfl rfl (t _ (λ_=>rfl) (λ_=>rfl) _ _) ?_)
 go_ret
 simp_all
abbrev zR:Value:=.agg #[.string ⟨#[]⟩,.int .i64 0]
def QpN:(Tryz.prog.info? R).map (λi=>(i.zero,i.size,i.bytes))=some (some zR,2,24):=by kernel_rfl
abbrev QJ (w:World) (n c i:Nat) (cs:List Value):Array Value:=(cs.take (i*2)).toArray++Builtin.zeroCells zR.cells (n+1-i)++Builtin.zeroCells zR.cells (grownCap w (n+1) c R-(n+1))
theorem QK (n:Nat):(Builtin.zeroCells zR.cells n).size=n*2:=by
 simp[Builtin.zeroCells,Value.cells]
theorem Ch {w:World} {n c i:Nat} {cs:List Value} (hi:i<=n) (a:cs.length=n*2):(QJ w n c i cs).size=grownCap w (n+1) c R*2:=by
 grind [grownCap_ge,QK]
set_option maxHeartbeats 4000000 in
set_option maxRecDepth 100000 in
theorem grow (b off n c i p d vc:Nat) (cs f:List Value) (w:World) (hi:i<n) (hnc:n<=c) (s:c<n+1) (hbig:n<=1000000)
  (hcl:cs.length=n*2) (hvl:f.length=2)
  (r:∀j v,cs[j]?=some v->w.cell? ⟨b,off+j,none⟩=some v)
  (Q:∀j v,f[j]?=some v->w.cell? ⟨p,d+j,none⟩=some v) (A:∀v∈cs,v.oneCell'=true) (B:∀v∈f,v.oneCell'=true):
  Calls prog 88 #[.slice (some ⟨b,off,none⟩) n c,.int .i64 i,.slice (some ⟨p,d,none⟩) 1 vc] w λe w'=>
   e=.returned (.slice (some ⟨w.heap.size,0,none⟩) (n+1) (grownCap w (n+1) c R))/\
   w'=(((w.alloc (.cells (QJ w n c i cs) R)).drew.setCells w.heap.size (i*2) f).drew).setCells w.heap.size ((i+1)*2) (cs.drop (i*2)):=by
 have mixed:Tryz.prog.follows .mixedOrders=true:=by kernel_rfl
 have⟨i0,N,U,X,V⟩:=info_parts QpN
 have M:b<w.heap.size:=block_lt_of_cell (r 0 _ (Zaf ω))
 have T:p<w.heap.size:=block_lt_of_cell (Q 0 _ (Zaf ω))
 have O:(n:Int)+1-(i:Int)=((n+1-i:Nat):Int):=ω
 have z:i+(n+1-i)=n+1:=ω
 have hold:(Builtin.firstCells i0.size i (.slice (some ⟨b,off,none⟩) i c)).run prog w.drew=.ok (cs.take (i*2)).toArray w.drew:=by
  rw[X]
  exact run_firstCells_some w.drew 2 i ⟨b,off,none⟩ i c (cs.take (i*2)) (by grind) (λj v g=>by
   rw[Addr.add_lit]
   rw[Za7] at g
   split at g
   ·exact r j v g
   ·cases g)
 have t:∀ty,(Builtin.append_ #[S,3] ty #[.slice (some ⟨b,off,none⟩) i c,.int .i64 ((n:Int)+1-(i:Int))]).run prog w=
   .ok (.slice (some ⟨w.heap.size,0,none⟩) (n+1) (grownCap w (n+1) c R)) (w.drew.alloc (.cells (QJ w n c i cs) R)):=λty=>by
  have h:=Lib.run_append_grow_zeros w S 3 ty R i0 _ .i64 .i64 Tryz.underlying195 Tryz.underlying3 N U (some ⟨b,off,none⟩) i c (cs.take (i*2)) hold (n+1-i) ω ω ω ω (by grind) (by rw[V,z];exact growslice_fits s ω)
  grind
 obtain⟨G,Z⟩:∃G,G=grownCap w (n+1) c R:=⟨_,rfl⟩
 obtain⟨a,m⟩:∃a:Array Value,a=QJ w n c i cs:=⟨_,rfl⟩
 have hGn:n+1<=G:=by grind [grownCap_ge]
 have J:a.size=G*2:=by grind [Ch]
 have I:(n+1)*2<=a.size:=ω
 rw[<-Z] at t ⊢
 rw[<-m] at t ⊢
 obtain⟨k,l⟩:∃k,k=w.drew.alloc (.cells a R):=⟨_,rfl⟩
 have hN:∀j,j<(n+1)*2->(k.cell? ⟨w.heap.size,j,none⟩).isSome=true:=λj g=>by
  rw[l,World.cell?_alloc_at (w:=w.drew) a _ w.heap.size j rfl,Za5 ω];rfl
 have hNf:∀j,k.frozen? ⟨w.heap.size,j,none⟩=false:=λj=>by rw[l];exact World.frozen?_alloc_at (w:=w.drew) a _ w.heap.size j rfl
 have H:∀j v,w.cell? ⟨b,j,none⟩=some v->k.cell? ⟨b,j,none⟩=some v:=λj v h=>by rw[l,World.cell?_alloc_past (w:=w.drew) _ b j M];exact h
 have hOv:∀j v,w.cell? ⟨p,j,none⟩=some v->k.cell? ⟨p,j,none⟩=some v:=λj v h=>by rw[l,World.cell?_alloc_past (w:=w.drew) _ p j T];exact h
 have y:∀(W:World),(∀x,W.cell? x=k.cell? x)->(∀x,W.frozen? x=k.frozen? x)->∀ty q,(Builtin.copy_ #[S,S] ty #[.slice (some ⟨w.heap.size,i*2,none⟩) (n+1-i) q,.slice (some ⟨p,d,none⟩) 1 vc]).run prog W=.ok (goInt 1) (W.setCells w.heap.size (i*2) f):=λW u K ty q=>by
  have hm:Nat.min 1 (n+1-i)=1:=by grind
  have:=o8 (P:=prog) W S S ty R 2 w.heap.size (i*2) (n+1-i) q ⟨p,d,none⟩ 1 vc f Tryz.underlying195 N5 ω
   (λj v g=>by grind [Addr.add_lit])
   (λj g=>by grind) (λj g=>by grind) B
  grind
 have hGim:¬(G=i+1):=ω
 have hci:¬(c=i):=ω
 have L:b≠w.heap.size:=ω
 have hdl:(cs.drop (i*2)).length=(n-i)*2:=by grind
 have o:∀(W:World),(∀x,W.cell? x=(k.setCells w.heap.size (i*2) f).cell? x)->(∀x,W.frozen? x=(k.setCells w.heap.size (i*2) f).frozen? x)->∀ty q Y,(Builtin.copy_ #[S,S] ty #[.slice (some ⟨w.heap.size,(i+1)*2,none⟩) (n-i) q,.slice (some ⟨b,off+i*2,none⟩) (n-i) Y]).run prog W=.ok (goInt ((n-i:Nat):Int)) (W.setCells w.heap.size ((i+1)*2) (cs.drop (i*2))):=λW u K ty q Y=>by
  have hm:Nat.min (n-i) (n-i)=n-i:=by grind
  have:=o8 (P:=prog) W S S ty R 2 w.heap.size ((i+1)*2) (n-i) q ⟨b,off+i*2,none⟩ (n-i) Y (cs.drop (i*2)) Tryz.underlying195 N5 ω
   (λj v g=>by
    rw[Addr.add_lit,u,World.cell?_setCells_out _ _ _ _ _ (λh _=>absurd h L),Za4]
    exact H _ v (r (i*2+j) v (by grind)))
   (λj g=>by grind [isSome_setCells])
   (λj g=>by grind [World.frozen?_setCells]) (λv hv=>A v (Zc5 hv))
  grind
 have C:∀x,((w.alloc (.cells a R)).drew).cell? x=(w.drew.alloc (.cells a R)).cell? x:=λx=>rfl
 have D:∀x,((w.alloc (.cells a R)).drew).frozen? x=(w.drew.alloc (.cells a R)).frozen? x:=λx=>rfl
 have E:∀x,(((w.alloc (.cells a R)).drew.setCells w.heap.size (i*2) f).drew).cell? x=((w.drew.alloc (.cells a R)).setCells w.heap.size (i*2) f).cell? x:=λx=>rfl
 have F:∀x,(((w.alloc (.cells a R)).drew.setCells w.heap.size (i*2) f).drew).frozen? x=((w.drew.alloc (.cells a R)).setCells w.heap.size (i*2) f).frozen? x:=λx=>rfl
 have hw1:IntKind.i64.wrap ((i:Int)+1)=(i:Int)+1:=by rw[IntKind.wrap_i64];omega
 have l8:(0:Int)<=(i:Int)+1:=ω
 have hin:i<=n:=ω
 clear O z hold m Z I J
 go_enter Tryz.func88,Tryz.ntmps88
 go_wp2_with (first
  | (at_builtin;refine Lib.wpList_append_run _ rfl _ _ _ _ rfl _ _ rfl rfl _ _ (t _) ?_)
  | (at_builtin;refine wpList_copy_runI _ rfl _ _ S S rfl _ _ rfl rfl (y _ C D _ _) ?_)
  | (at_builtin;refine wpList_copy_runI _ rfl _ _ S S rfl _ _ rfl rfl (o _ (λ_=>rfl) (λ_=>rfl) _ _ _) ?_))
 go_region_law_o (refine step_copy_runI rfl _ _ S S rfl (.slice (some ⟨w.heap.size,(i+1)*2,none⟩) (n-i) (G-(i+1))) (.slice (some ⟨b,off+i*2,none⟩) (n-i) (c-i)) (by simp[Act.eval,Act.put]) (by simp[Act.eval,Act.put]) (o _ E F 3 (G-(i+1)) (c-i)) ?_)
 go_wp2
 go_ret
 simp_all
end ins
set_option maxRecDepth 100000
set_option maxHeartbeats 4000000
namespace sx
noncomputable section
open Go Go.RowKit cls syn
abbrev Qiw:=List Row×Nat×Row
variable {M:Pm D} {l:List Row} {i:Nat} {Z b:List Value}
def rwO (n:Nat) (l:List Row):Nat×AO D.E:=(n,.arr 16 l 201 false)
def QfB (a:List (AV D.E)) (s:St D.E):C Qiw:=match a with
 | [l,i,r]=>aB (aW D s 16 l) λl=>aP (cQ i) λ_ i=>aB (aW D s 16 r) λr=>.ret (l,i.toNat,(r:List Row).getD 0 J7)
 | _=>.fail
def l6 (l:List Row) (i:Nat) (r:Row):List Row:=l.take i++r::l.drop i
def zH:bp D:=⟨88,Qiw,QfB,λy=>y.2.1<=y.1.length/\y.1.length<=1000,λy=>[.own 0 2 (ab y.1),Qyy y.2.1,.own 1 2 1],λy=>[rwO 0 y.1,rwO 1 [y.2.2]],
 λy=>.own 2 2 (ab (l6 y.1 y.2.1 y.2.2)),λy=>[rwO 2 (l6 y.1 y.2.1 y.2.2)],2,3⟩
def Qiy:bp D:=⟨88,Qiw,QfB,λy=>y.2.1=y.1.length/\y.1.length<=1000,λy=>[.own 0 2 (ab y.1),Qyy (ab y.1),.own 1 2 1],λy=>[rwO 0 y.1,rwO 1 [y.2.2]],
 λy=>.own 2 2 (ab (y.1++[y.2.2])),λy=>[rwO 2 (y.1++[y.2.2])],2,3⟩
def QfC (y:(List Row)×Nat×Row):Prop:=let a:=ab y.1;let q1:=([y.2.2]:List Row);let b:=ab (bn y.1 q1);aM 0 a/\aM a a/\aj (aE 1 0) (a=ab (y.1++q1)/\y.1=(y.1++q1)/\True) (aj (aE a a) (ba b 24/\b=ab (y.1++q1)/\bn y.1 q1=(y.1++q1)/\True) (False))
def QfD (y:Zm):Prop:=let b:=ab y.l;let q1:=kq y.l y.k;let c:=su y.l y.k y.v;let d:=((mb y.l y.k:Nat):Int);let a:=d.toNat;let e:=([Row.mk y.k y.v]:List Row);let f:=List.getD e 0 J7;Iv (TbP (Zm.mk y.l y.k 0))/\RAQ y.k b y.l (aj q1 (aM 0 d/\aD d b/\false=(!q1)/\b=ab c/\dh y.l a (Row.mk (gt (Row.mk [] 0) y.l a).k y.v)=c/\True) (Iv (a<=y.l.length/\y.l.length<=1000)/\aa [b] (d=(a:Int)/\ab e=1/\e=([f]:List Row)/\aa [y.l] (true=(!q1)/\ab (l6 y.l a f)=ab c/\l6 y.l a f=c/\True))))
theorem QpO {a b c:AV D.E} {A:Array Value} (h:LR M [a,b,c] A.toList):∃v u t,A=#[v,u,t]/\VR M a v/\VR M b u/\VR M c t:=by
 obtain⟨l⟩:=A;obtain⟨v,r,e,h1,d⟩:=h.bJ;obtain⟨u,m,e2,j,f⟩:=d.bJ;obtain⟨t,n,i,k,g⟩:=f.bJ;have:=g.mj;grind
theorem QpP:Ok Qiy:=okZ (V:=QfC) [] f88 (λ_=>⟨[],[7],[],[],1,[]⟩) trivial λy a=>by
 unfold QfC;simp only[bN,bj,aw,bq,a_];have h:y.1.length<=1000:=a.2
 skip
 grind
theorem Ln (c:Nat) (xs:List (D.E c)) (n:Nat):aX c (xs.drop n)=(aX c xs).drop (n*D.size c):=by
 by_cases h:n<=xs.length
 ·have e:aX c xs=aX c (xs.take n)++aX c (xs.drop n):=by rw[<-gn,ZaO]
  grind [bf,iX]
 ·rw[Zbu ω,Zbu (by rw[bf iX];exact Zbc _ ω)];rfl
noncomputable def wA (l:List Row):List (AV D.E):=aX (D:=D) 16 l
def Hu (a b:List Row):wA (a++b)=wA a++wA b:=gn (D:=D) 16 a b
def QM (l:List Row) (i:Nat):wA (l.take i)=(wA l).take (i*2):=ou (D:=D) iX 16 l i
def QN (l:List Row) (i:Nat):wA (l.drop i)=(wA l).drop (i*2):=Ln 16 l i
def Hv (l:List Row):(wA l).length=l.length*2:=bf (D:=D) iX 16 l
def Qiz {r:Row} (a:LR M (wA l) Z) (c:LR M (wA [r]) b):LR M (wA (l6 l i r)) (Z.take (i*2)++(b++Z.drop (i*2))):=by
 have e:l6 l i r=l.take i++([r]++l.drop i):=rfl;rw[e,Hu,Hu,QM,QN];exact(a.take _).app (c.app (a.drop _))
theorem Hw {n:Nat} {C:Nat->Option Value} (a:Z.length=n*2) (hi:i<=n) (c:b.length=2) (p1:∀q,q<i*2->C q=Z[q]?) (p2:∀j,j<2->C (i*2+j)=b[j]?)
  (p3:∀j,j<(n-i)*2->C ((i+1)*2+j)=(Z.drop (i*2))[j]?) {q:Nat} {u:Value} (h:(Z.take (i*2)++(b++Z.drop (i*2)))[q]?=some u):C q=some u:=by
 have ht:(Z.take (i*2)).length=i*2:=by rw[Zar];omega
 by_cases h1:q<i*2
 ·grind
 ·rw[Zaz ω,ht] at h;grind
theorem Zc {H:Hp D} {w:World} (g:eP M H w) {b:Nat} {n:Int} {v:Value} (i:H b=some (.arr 16 l 201 false)) (p:n=l.length) (q:0<l.length) (m:VR M (.own b 2 n) v):
  ∃a cap C c cs,M.pl b=some a/\a.real/\a.len=l.length/\a.jM=2/\v=.slice (some ⟨a.cg,a.sh,none⟩) l.length cap/\l.length<=cap/\a.sh+cap*2=a.rS/\
   w.heap[a.cg]?=some (.cells C 201 c)/\C.size=a.rS/\c.1=c.2/\LR M (wA l) cs/\cs.length=l.length*2/\∀j v,cs[j]?=some v->w.cell? ⟨a.cg,a.sh+j,none⟩=some v:=by
 obtain⟨a,e,hl,hz,k⟩:=g.obj b _ i;replace hl:a.len=l.length:=hl;replace hz:a.jM=2:=hz;cases m with
 | own g1 g2 g3 g4 g5 g6 g7=>
  rename_i cap o
  rw[e] at g1;cases g1;have d:=k g3;obtain⟨cs,h1,f⟩:=d.rd.list;obtain⟨C,c,k1,k2,k3,k4,k5⟩:=d;refine⟨a,cap,C,c,cs,e,g3,hl,hz,by rw[hl],ω,by rw[hz] at g7;exact g7,k1,k2,(k5 rfl).elim id λh=>ω,h1,?_,f⟩;rw[<-h1.1];exact Hv l
 | mM g1 g2 g3 g4 g5=>omega
theorem QpQ:Ok zH:=by
 refine⟨⟨f88,_,by kernel_rfl,dB (by kernel_rfl)⟩,λy hy M A w hA J hT R hR=>?_⟩;obtain⟨hi,hl⟩:=hy;by_cases K:y.2.1=y.1.length
 ·have e:l6 y.1 y.2.1 y.2.2=y.1++[y.2.2]:=by unfold l6;rw[K,ZaM,ZbH]
  have O:LR M [.own 0 2 (ab y.1),.int .i64 y.2.1,.own 1 2 1] A.toList:=hA;rw[K] at O;refine QpP.2 y ⟨K,hl⟩ M A w (by show LR M [.own 0 2 (ab y.1),.int .i64 (ab y.1),.own 1 2 1] _;rw[aw y.1] at O ⊢;exact O) J hT R λM' v' w' hv k=>hR M' v' w' ?_ ?_
  ·show VR M' (.own 2 2 (ab (l6 y.1 y.2.1 y.2.2))) v'
   rw[e];exact hv
  ·show dq _ M w (λt=>cM [rwO 2 (l6 y.1 y.2.1 y.2.2)] t) M' w' 2 3
   rw[e];exact k
 ·obtain⟨v0,v1,v2,rfl,hv0,hv1,hv2⟩:=QpO hA;obtain rfl:=gb hv1;have s:y.2.1<y.1.length:=Nat.lt_of_le_of_ne hi K;obtain⟨m0,cap,C,fz,cs,B,H,hl0,hz0,rfl,X,htot,hC,hCs,hfz,Y,g,p⟩:=Zc J (b:=0) rfl (aw y.1) ω hv0;obtain⟨m1,I,C1,fz1,d,hm1,hr1,hl1,hz1,rfl,hcap1,Qyl,V,QzN,hfz1,hvs,m,f⟩:=Zc J (b:=1) (l:=[y.2.2]) rfl rfl (by simp) hv2;have hne:m1.cg≠m0.cg:=λe=>absurd (J.inj 1 0 _ _ m1 m0 rfl rfl hm1 B hr1 H e) (by decide)
  have T:∀v∈cs,v.oneCell':=uh Y (ew.2 λv hv=>(eA iX hv).1);have U:∀v∈d,v.oneCell':=uh hvs (ew.2 λv hv=>(eA iX hv).1);generalize hi2:y.2.1=i at*
  generalize P:y.1=l at*
  generalize hr2:y.2.2=r at*
  replace m:d.length=2:=m;have W:=Qiz (i:=i) Y hvs;have F:(l6 l i r).length=l.length+1:=by unfold l6;rw[Zab,Zae,Zar,Zbg];omega
  have hnr:(aX (D:=D) 16 (l6 l i r)).length=(l.length+1)*2:=by rw[<-F];exact Hv _
  have hdl:(cs.drop (i*2)).length=(l.length-i)*2:=by rw[Zbg,g];omega
  have L:∀{M':Pm D} {w':World} {mi:MI} {cap:Nat},M'.pl 2=some mi->mi.real->mi.jM=2->mi.len=l.length+1->l.length+1<=cap->mi.sh+cap*2=mi.rS->
    dq (λt=>cM (zH.heap y) t) M w (λc=>if c=2 then some (.arr 16 (l6 l i r) 201 false) else if c=0 then none else cM (zH.heap y) c) M' w' 2 3->
    R (.returned (.slice (some ⟨mi.cg,mi.sh,none⟩) (l.length+1) cap)) w':=λ{M' w' mi cap} S a2 a3 a4 a5 a6 k=>by
   refine hR M' _ w' ?_ ?_
   ·show VR M' (.own 2 2 (ab (l6 y.1 y.2.1 y.2.2))) _
    rw[P,hi2,hr2,<-a4];exact VR.own S a3 a2 (by rw[a4,aw,F]) ω ω (by rw[a3];exact a6)
   ·have:=k.trans (dq.drop (b:=1) k.gv 3);have e:(λt=>cM (zH.jf y) t)=jF (λc=>if c=2 then some (.arr 16 (l6 l i r) 201 false) else if c=0 then none else cM (zH.heap y) c) 1 none:=by
     funext t;show cM [(2,AO.arr (E:=D.E) 16 (l6 y.1 y.2.1 y.2.2) _ false)] t=if t=1 then none else if t=2 then _ else if t=0 then none else cM [(0,_),(1,_)] t
     rw[P,hi2,hr2,fH,fH,fH];by_cases h1:t=1
     ·subst h1;rfl
     ·by_cases h2:t=2
      ·grind
      ·by_cases h3:t=0
       ·subst h3;rfl
       ·grind
    rw[e];exact this
  have hmx:l.length+1<=9223372036854775807:=ω;by_cases z:l.length+1<=cap
  ·have QxK:∀j,w.frozen? ⟨m0.cg,j,none⟩=false:=λj=>by simp only[World.frozen?,hC,hfz];simp
   have N:∀j,w.frozen? ⟨m1.cg,j,none⟩=false:=λj=>by simp only[World.frozen?,V,hfz1];simp
   refine(ins.shift m0.cg m0.sh l.length cap i m1.cg m1.sh I cs d w s z ω hne g m p (λj hj=>?_) (λj _=>QxK _) f T U ins.R ins.R C1.size C.size (by simp[World.shape?,V]) (by simp[World.shape?,hC]) ω (N _) (N _)).mono λe w' ⟨K,hw⟩=>?_
   ·grind [World.cell?]
   ·subst K hw;obtain⟨C2,c1,c2,c3⟩:=fU m0.cg _ fz (cs.drop (i*2)) (m0.sh+(i+1)*2) w.drew C hC ω;obtain⟨n,d1,d2,Q⟩:=fU m0.cg _ fz d (m0.sh+i*2) _ C2 c1 ω;obtain⟨e1,e2,e3⟩:=ef m0.cg (cs.drop (i*2)) (m0.sh+(i+1)*2) w.drew;obtain⟨f1,f2,f3⟩:=ef m0.cg d (m0.sh+i*2) (w.drew.setCells m0.cg (m0.sh+(i+1)*2) (cs.drop (i*2)));have Z:M.pl 2=none:=hT 2 (Zah 2)
    let mi:MI:=⟨m0.cg,m0.sh,m0.rS,m0.jM,l.length+1,true⟩
    have hle:sx.Le M (M.add 2 mi):=Pm.rY Z;have hC0:∀q u,cs[q]?=some u->C[m0.sh+q]?=some u:=λq u h=>by
     grind [World.cell?]
    have x:∀q u,(cs.take (i*2)++(d++cs.drop (i*2)))[q]?=some u->n[m0.sh+q]?=some u:=λq u h=>by
     refine Hw (C:=λq=>n[m0.sh+q]?) g (Zcx s) m (λq hq=>?_) (λj hj=>?_) (λj hj=>?_) h
     ·grind
     ·show n[m0.sh+(i*2+j)]?=_
      rw[Q,Zac ω,show m0.sh+(i*2+j) -(m0.sh+i*2)=j by omega]
     ·show n[m0.sh+((i+1)*2+j)]?=_
      rw[Q,Zaa ω,c3,Zac ω,show m0.sh+((i+1)*2+j) -(m0.sh+(i+1)*2)=j by omega]
    have k:=dq.upon (M1:=M.add 2 mi) (sg1:=M.sg) (b0:=0) (b1:=2) (o1:=.arr 16 (l6 l i r) 201 false) (sG:=m0) (CB:=mi) (lo:=2) (hi:=3) (w':=(w.drew.setCells m0.cg (m0.sh+(i+1)*2) (cs.drop (i*2))).setCells m0.cg (m0.sh+i*2) d) J (show cM (zH.heap y) 0=some (.arr 16 l 201 false) by rw[<-P];rfl) rfl B H rfl rfl rfl (.inr ⟨rfl,Z,rfl⟩) (λ_ _ _ h=>h) (λ_ _ h=>.inl h)
     ((ee _ _ _ _).trans (ee _ _ _ _)) (λc hc=>(dP _ _ _ _ c hc).trans (dP _ _ _ _ c hc)) (f1.trans e1) (f2.trans e2) (f3.trans e3)
     ⟨F.symm,hz0,λ_=>⟨n,fz,d1,by rw[d2,c2,hCs],by rw[hnr];show m0.sh+_<=m0.rS;omega,λq u hu=>?_,λ_=>.inl hfz⟩⟩ (λo v h=>?_) (λ_ j _=>?_)
    ·exact L (M':=M.add 2 mi) (mi:=mi) rfl rfl hz0 rfl z htot k
    ·obtain⟨u',S,a2⟩:=W.get hu;exact⟨u',x q u' S,a2.mono hle⟩
    ·rw[J.sep 0 _ m0 (show cM (zH.heap y) 0=_ from rfl) rfl B H o trivial] at h;cases h
    ·exact J.sep 0 _ m0 (show cM (zH.heap y) 0=_ from rfl) rfl B H j trivial
  ·have hN:(ins.QJ w l.length cap i cs).size=grownCap w (l.length+1) cap ins.R*2:=ins.Ch (Zcx s) g;have hG:=grownCap_ge w (l.length+1) cap ins.R;refine(ins.grow m0.cg m0.sh l.length cap i m1.cg m1.sh I cs d w s X ω ω g m p f T U).mono λe w' ⟨K,hw⟩=>?_
   subst K;generalize hGG:grownCap w (l.length+1) cap ins.R=G at*
   generalize hRR:ins.QJ w l.length cap i cs=a at*
   have hg:(w.alloc (.cells a ins.R)).drew.heap[w.heap.size]?=some (.cells a ins.R (0,0)):=by show(w.heap.push _)[w.heap.size]?=_;simp
   obtain⟨C2,c1,c2,c3⟩:=fU w.heap.size _ (0,0) d (i*2) _ a hg ω;obtain⟨n,d1,d2,Q⟩:=fU w.heap.size _ (0,0) (cs.drop (i*2)) ((i+1)*2) ((w.alloc (.cells a ins.R)).drew.setCells w.heap.size (i*2) d).drew C2 c1 ω;obtain⟨e1,e2,e3⟩:=ef w.heap.size d (i*2) (w.alloc (.cells a ins.R)).drew;obtain⟨f1,f2,f3⟩:=ef w.heap.size (cs.drop (i*2)) ((i+1)*2) ((w.alloc (.cells a ins.R)).drew.setCells w.heap.size (i*2) d).drew;have s1:=ee w.heap.size d (i*2) (w.alloc (.cells a ins.R)).drew;have s2:=ee w.heap.size (cs.drop (i*2)) ((i+1)*2) ((w.alloc (.cells a ins.R)).drew.setCells w.heap.size (i*2) d).drew;have b1:=dP w.heap.size d (i*2) (w.alloc (.cells a ins.R)).drew;have b2:=dP w.heap.size (cs.drop (i*2)) ((i+1)*2) ((w.alloc (.cells a ins.R)).drew.setCells w.heap.size (i*2) d).drew;rw[<-hw] at d1 f1 f2 f3 s2 b2;have dF:w'.heap.size=w.heap.size+1:=s2.trans (s1.trans (by show(w.heap.push _).size=_;simp));have hblk:∀c,c<w.heap.size->w'.heap[c]?=w.heap[c]?:=λc hc=>(b2 c ω).trans ((b1 c ω).trans (Below.heap_alloc _ _ _ hc))
   have Z:M.pl 2=none:=hT 2 (Zah 2)
   let mi:MI:=⟨w.heap.size,0,a.size,2,l.length+1,true⟩
   have hle:sx.Le M (M.add 2 mi):=Pm.rY Z;have x:∀q u,(cs.take (i*2)++(d++cs.drop (i*2)))[q]?=some u->n[0+q]?=some u:=λq u h=>by
    rw[Za6];refine Hw (C:=λq=>n[q]?) g (Zcx s) m (λq hq=>?_) (λj hj=>?_) (λj hj=>?_) h
    ·show n[q]?=_
     rw[Q,Zaa ω,c3,Zaa ω,<-hRR];have ht:(cs.take (i*2)).length=i*2:=by rw[Zar];omega
     show((cs.take (i*2)).toArray++_++_)[q]?=_
     rw[ZbT (by rw[Zct,Zb5];omega),ZbT (by rw[Zb5];omega),Zc0,Za7,Zac hq]
    ·show n[i*2+j]?=_
     rw[Q,Zaa ω,c3,Zac ω,show i*2+j-i*2=j by omega]
    ·show n[(i+1)*2+j]?=_
     rw[Q,Zac ω,show(i+1)*2+j-(i+1)*2=j by omega]
   have st1:=dq.oh (lo:=2) J Z (.arr 16 (l6 l i r) 201 false) mi (λ_=>rfl) ω hblk (f1.trans e1) (f2.trans e2) (f3.trans e3)
    ⟨F.symm,rfl,λ_=>⟨n,(0,0),d1,by rw[d2,c2],by rw[hnr];show 0+_<=a.size;omega,λq u hu=>let ⟨u',S,a2⟩:=W.get hu;⟨u',x q u' S,a2.mono hle⟩,λ_=>.inl rfl⟩⟩ (λ_ _ _ h=>by cases h)
   have st2:=st1.trans (dq.drop (b:=0) st1.gv 3);have e:(λc=>if c=2 then some (AO.arr (E:=D.E) 16 (l6 l i r) 201 false) else if c=0 then none else cM (zH.heap y) c)=jF (jF (λt=>cM (zH.heap y) t) 2 (some (.arr 16 (l6 l i r) 201 false))) 0 none:=by
    funext t;grind [jF]
   exact L (M':=M.add 2 mi) (mi:=mi) rfl rfl rfl rfl hG (by show 0+G*2=a.size;omega) (by rw[e];exact st2)
theorem Qdk {k:By} (h:kq l k):mb l k<l.length:=by
 obtain⟨r,a,e⟩:=ZcT.1 h;refine List.findIdx_lt_length_of_exists ⟨r,a,?_⟩;grind
theorem QpR:Ok J8:=okZ (V:=QfD) [PQ,zH] f49 (λ_=>⟨[],[5],[],[],1,[]⟩) ⟨QmC,QpQ⟩ λy a=>by
 unfold QfD;simp only[bN,bj,aw,bq,a_,dh,dL,Zad];have b:mb y.l y.k<=y.l.length:=ZdL;refine⟨a,λh=>?_,λh=>?_⟩
 ·grind [su,Qdk]
 ·have e:l6 y.l (mb y.l y.k) ([(⟨y.k,y.v⟩:Row)].getD 0 J7)=su y.l y.k y.v:=by unfold su l6;rw[h,Zaa (by decide)];rfl
  exact⟨⟨b,a.2⟩,rfl,rfl,(by rw[h];rfl),ZaR (λl:List Row=>(l.length:Int)) e,e⟩
end
end sx
namespace join
open Go Go.ChangeShapes Go.WideShapes Go.ChangeAt Go.RowKit
def p1 (P:Program) (_f:FuncId) (a:Func) (s:ChangeSpec) (c:OpenClaim):Bool:=(c.wf (OpenSpec.ofChange s)&&laidOutB P&&mapsRowed P)
def p2 (P:Program) (_f:FuncId) (fn:Func) (s:ChangeSpec) (c:OpenClaim):Bool:=(fn.params.all (P.readableRec ·)&&namedTie P c.named s.vars&&(c.stops==[])&&(P.stops==[])&&(c.knobs==[])&&(P.stopKnobs==[]))
def p3 (P:Program) (f:FuncId) (a:Func) (b:ChangeSpec) (c:OpenClaim):Bool:=(c.inPlace==P.inPlace f)
def p4 (P:Program) (f:FuncId) (a:Func) (b:ChangeSpec) (c:OpenClaim):Bool:=(c.unfollowed==P.unfollowed f)
def p5 (P:Program) (f:FuncId) (a:Func) (b:ChangeSpec) (c:OpenClaim):Bool:=(c.recurses==P.recurses f)
def p6 (P:Program) (f:FuncId) (a:Func) (b:ChangeSpec) (c:OpenClaim):Bool:=(c.named==P.varsNamed f)
def p7 (P:Program) (_f:FuncId) (fn:Func) (s:ChangeSpec) (c:OpenClaim):Bool:=((c.maps==(fn.params.toList++s.plain.varTypes P).any (P.mapsRec ·))&&(c.ifaces==(fn.params.toList++s.plain.varTypes P).any (P.ifacesRec ·))&&(c.mapsOut==P.mapsAmong fn.resultTypes.toList)&&(c.loops==(fn.params.toList++s.plain.varTypes P).any (P.loopsFrom ·))&&(c.wideKeys==(fn.params.toList++s.plain.varTypes P++fn.resultTypes.toList).any (P.wideKeysFrom ·))&&s.vars.all (P.varReadable ·)&&fn.resultTypes.all (λt=>P.readableRec t&&decide (t<P.types.size))&&(c.ifacesOut==fn.resultTypes.toList.any (P.ifacesRec ·))&&(c.loopsOut==fn.resultTypes.toList.any (P.loopsFrom ·)))
def p8 (P:Program) (_f:FuncId) (a:Func) (b:ChangeSpec) (c:OpenClaim):Bool:=(c.plainKeys==P.plainKeys)
def p9 (P:Program) (_f:FuncId) (a:Func) (b:ChangeSpec) (c:OpenClaim):Bool:=(c.shortTexts.isNone&&P.stopsHeard&&P.mayEnter)
def p10 (P:Program) (_f:FuncId) (a:Func) (b:ChangeSpec) (c:OpenClaim):Bool:=(c.lifted==P.liftsFinal)
def p11 (P:Program) (_f:FuncId) (fn:Func) (a:ChangeSpec) (c:OpenClaim):Bool:=((P.make==some c.make)&&(c.kinds==(if c.domain.isEmpty then[] else fn.params.toList.map λt=>match P.underlying t with | some (.int k)=>some k | _=>none))&&(c.pinned==c.pinnedBy))
def p12 (P:Program) (_f:FuncId) (fn:Func) (s:ChangeSpec) (c:OpenClaim):Bool:=((c.veiled==(fn.params.toList++s.plain.varTypes P++fn.resultTypes.toList).any (P.veiledRec ·))&&c.veiledFits P fn.params.toList (fn.params.toList++s.plain.varTypes P++fn.resultTypes.toList))
def facts {P:Program} {f:FuncId} {fn:Func} {s:ChangeSpec} {c:OpenClaim} (h1:p1 P f fn s c) (e:p2 P f fn s c) (i:p3 P f fn s c) (j:p4 P f fn s c) (k:p5 P f fn s c) (l:p6 P f fn s c) (b:p7 P f fn s c) (m:p8 P f fn s c) (h:p9 P f fn s c) (g:p10 P f fn s c) (a:p11 P f fn s c) (d:p12 P f fn s c):joinedFacts P f fn s c:=by
 unfold p1 at h1;unfold p2 at e;unfold p3 at i;unfold p4 at j;unfold p5 at k;unfold p6 at l;unfold p7 at b;unfold p8 at m;unfold p9 at h;unfold p10 at g;unfold p11 at a;unfold p12 at d;unfold joinedFacts;simp only[ZaW,Zdc] at h1 e b h a d ⊢;exact⟨h1.1,h1.2.1,h1.2.2,e.1,e.2.1,e.2.2.1,e.2.2.2.1,e.2.2.2.2.1,e.2.2.2.2.2,i,j,k,l,b.1,b.2.1,b.2.2.1,b.2.2.2.1,b.2.2.2.2.1,b.2.2.2.2.2.1,b.2.2.2.2.2.2.1,b.2.2.2.2.2.2.2.1,b.2.2.2.2.2.2.2.2,m,h.1,h.2.1,h.2.2,g,a.1,a.2.1,a.2.2,d.1,d.2⟩
end join
end Go.Proofs.YtfkmlhnhkdbjeaaGreat
