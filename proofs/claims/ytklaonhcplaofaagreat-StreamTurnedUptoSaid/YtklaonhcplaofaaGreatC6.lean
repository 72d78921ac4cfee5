/- StreamTurned: a part of the proof. -/
import Derived.Test.YtklaonhcplaofaaGreatC5
import Derived.Test.YtklaonhcplaofaaGreatC4
set_option linter.all false
namespace Go.Proofs.YtklaonhcplaofaaGreat
open Go.Proofs.Tryz
set_option maxRecDepth 100000
set_option maxHeartbeats 4000000
namespace sx
noncomputable section
open Go Go.RowKit cls syn
variable {y:PS} {G:List Gt} {l:List Rg}
def XM (b n:Nat) (l:By):List (Nat×AO D.E):=[(b,.cells [.ptr b 0,.own n 1 (ag l)] 317 false),(n,.arr 0 l 5 false)]
def RJ (b:Nat) (p:AV D.E):List (Nat×AO D.E):=[(b,.cells [p,.dd] 317 false)]
def XN (v:AV D.E) (s:St D.E):C Unit:=match v with
 | .ptr b _=>az (cN (s.h.get b)) λo=>match o with
  | .cells cs _ _=>match cs with
   | [.gy,.dd]=>.ret ()
   | _=>.fail
  | _=>.fail
 | _=>.fail
def XO (v:AV D.E) (s:St D.E):C By:=match v with
 | .ptr b _=>az (cN (s.h.get b)) λo=>match o with
  | .cells cs _ _=>match cs with
   | [.ptr _ _,l]=>az (aU D s 0 l) λl=>.ret (l:By)
   | _=>.fail
  | _=>.fail
 | _=>.fail
def XP:br D:=⟨238,Unit,λa s=>match a with
 | [p]=>XN p s
 | _=>.fail,λ_=>True,λ_=>[.ptr 0 0],λ_=>RJ 0 .gy,λ_=>.tuple [],λ_=>RJ 0 (.ptr 0 0),1,1⟩
def Qgi:br D:=⟨238,By,λa s=>match a with
 | [p]=>XO p s
 | _=>.fail,λ_=>True,λ_=>[.ptr 0 0],λy=>XM 0 1 y,λ_=>.tuple [],λy=>XM 0 1 y,2,2⟩
def XQ:br D:=⟨228,Int,λa s=>match a with
 | [p,c]=>az (XN p s) λ_=>aL (cA c) λ_ c=>.ret c
 | _=>.fail,F7,λy=>[.ptr 0 0,.int .u8 y],λ_=>RJ 0 .gy,λ_=>.nilIface,λy=>XM 0 1 [UInt8.ofNat y.toNat],1,2⟩
def XR:br D:=⟨228,By×Int,λa s=>match a with
 | [p,c]=>az (XO p s) λl=>aL (cA c) λ_ c=>.ret (l,c)
 | _=>.fail,λy=>y.1.length<=1000000/\F7 y.2,λy=>[.ptr 0 0,.int .u8 y.2],λy=>XM 0 1 y.1,λ_=>.nilIface,λy=>XM 0 2 (y.1++[UInt8.ofNat y.2.toNat]),2,3⟩
def XS:br D:=⟨227,Unit,λa s=>match a with
 | [p]=>XN p s
 | _=>.fail,λ_=>True,λ_=>[.ptr 0 0],λ_=>RJ 0 .gy,λ_=>QsE 0,λ_=>RJ 0 .gy,1,1⟩
def XT:br D:=⟨227,By,λa s=>match a with
 | [p]=>XO p s
 | _=>.fail,λ_=>True,λ_=>[.ptr 0 0],λy=>XM 0 1 y,λy=>QsE (ag y),λy=>XM 0 1 y,2,2⟩
def Qgj:br D:=⟨229,Unit,λa s=>match a with
 | [p]=>XN p s
 | _=>.fail,λ_=>True,λ_=>[.ptr 0 0],λ_=>RJ 0 .gy,λ_=>.str [],λ_=>[],1,1⟩
def Qgk:br D:=⟨229,By,λa s=>match a with
 | [p]=>XO p s
 | _=>.fail,λy=>y≠[],λ_=>[.ptr 0 0],λy=>XM 0 1 y,λy=>.str y,λ_=>[],2,2⟩
def w_:br D:=wY 202 PS (λy=>y) Me (λ_=>True) (λ_=>[]) (λy=>zz (dg y.1 (nn y.2))) λy=>.tuple [.str (gp y.1 (nn y.2)),.bool (ga y.1 (nn y.2))]
def Qgl (s:bZ) (i:Nat):bZ:={ s with i:=i }
def sY (y:PS) (i:Nat) (l:By):Prop:=(nn y.2).i<=i/\i<=y.1.length/\l.length<=i/\cj y.1 (y.1.length-i) i l=cj y.1 (y.1.length-(nn y.2).i) (nn y.2).i []
def Qmw (y:w_.Y):cO D:=⟨[],[],[],[],1,
 [(60,⟨Unit,λ_=>⟨Nat,[0,4,5],λ_=>[],[],λi=>psO y.1 (Qgl y.2 i)++RJ 1 .gy,2,λi=>sY y i [],λi=>y.1.length-i⟩,
  some ⟨Nat×By,[0,4,5],λ_=>[],[],λx=>psO y.1 (Qgl y.2 x.1)++XM 1 2 x.2,3,λx=>sY y x.1 x.2/\x.2≠[],λx=>y.1.length-x.1⟩⟩)]⟩
def XU (y:PS) (x:bZ×List Rg×Bool):Prop:=bs (y.1,x.1)/\(nn x.1).an=(nn y.2).an/\x.2.1.length<=8*(nn x.1).i+(if x.1.aq=0 then 0 else 8)/\∃n,(x.1.aq=0->y.1.length+2<=n+(nn x.1).i)/\
 dJ y.1 (nn y.2).i n (nn x.1) x.2.1 x.2.2=dJ y.1 (nn y.2).i (y.1.length+2-(bj y.1 (nn y.2).next 94).i) (bj y.1 (nn y.2).next 94) [] true
def QcT (y:PS) (x:bZ×List Rg×Bool):Nat:=2*(y.1.length-(nn x.1).i)+(if x.1.aq=0 then 1 else 0)
def GI:br D:=wY 198 PS (λy=>y) Me E5 (λ_=>[]) (λy=>zz (rF y.1 (nn y.2)).1) λy=>.list 7 (rF y.1 (nn y.2)).2
def Qmy (y:GI.Y):cO D:=⟨[],[],[(508,⟨bZ×List Rg×Bool,[0,3,4],λx=>[(5,.grow 6 x.2.1 1),(6,.bool x.2.2)],[],λx=>psO y.1 x.1++[(1,.tok 6 242)],2,XU y,QcT y⟩)],[],1,[]⟩
def oO (y:PS):Ps×By×Bool:=
 if ga y.1 (nn y.2).next/\a8 y.1 (dg y.1 (nn y.2).next) 44=true then(dg y.1 (dg y.1 (nn y.2).next).next,gp y.1 (dg y.1 (nn y.2).next).next,!ga y.1 (dg y.1 (nn y.2).next).next)
 else(dg y.1 (nn y.2).next,gp y.1 (nn y.2).next,false)
def GJ:br D:=wY 177 PS (λy=>y) Me E5 (λ_=>[]) (λy=>zz (fR y.1 (nn y.2)).1) λy=>.tuple [QsE (fR y.1 (nn y.2)).2.1,QsE (fR y.1 (nn y.2)).2.2]
def QmA (y:GJ.Y):cO D:=⟨[],[],[],[(63,⟨Unit,[0,4,5,6],λ_=>[(7,.str (oO y).2.1),(8,.bool (oO y).2.2)],[],λ_=>psO y.1 (zz (oO y).1),1,λ_=>True,λ_=>0⟩)],1,[]⟩
def RK (y:(List (Int×Int))×bZ):Prop:=let b:=rF y.1 (nn y.2);let q1:=aw .i64 y.2.i 1;let o:=((b.1.i:Nat):Int);let s:=((b.1.an:Nat):Int);let t:=((b.1.ae:Nat):Int);let q:=bZ.mk q1 y.2.an y.2.ae y.2.aq y.2.wh;let k:=bj y.1 (nn q) 94;let r:=a8 y.1 (nn q) 94;let l:=λp:Prop=>aa [y.1] (aa [bM y.1] p);let u:Prop:=(0<=y.2.i/\(y.2.i<(y.1.length:Int)));Iv (bs (y.1,q)/\True)/\aa ([94]:List Int) (aa [y.1] (aa [bM y.1] (aa [q1,y.2.an,y.2.ae,y.2.aq,y.2.wh] ((∃z:bZ×(List (Int×Int))×Bool,aa [y.2.i] (aa [r] ([]=z.2.1/\true=z.2.2/\l (((k.i:Nat):Int)=z.1.i/\((k.an:Nat):Int)=z.1.an/\((k.ae:Nat):Int)=z.1.ae/\k.aq=z.1.aq/\k.wh=z.1.wh/\(Iv (XU y z))))))/\(∀x:bZ×(List (Int×Int))×Bool,let d:=aV x.2.1;let e:=aC x.1.aq 0;let a:=dU y.1 (nn x.1);let m:=aH (ag y.1) x.1.i;let n:=!(a8 y.1 (nn x.1) 93);let c:=Ps.ax y.1 (nn x.1) y.2.i.toNat 4;let f:Prop:=(x.1.an=s/\x.1.ae=t/\x.1.aq=b.1.aq/\x.1.wh=b.1.wh/\True);let g:Prop:=(l (aw .i64 x.1.i 1=o/\f));let h:Prop:=(Iv (bs (y.1,x.1)/\u)/\aa ([y.2.i,4]:List Int) (aa [y.1] (aa [bM y.1] (aa [x.1.i,x.1.an,x.1.ae,x.1.aq,x.1.wh] ([]=b.2/\l (((c.i:Nat):Int)=o/\((c.an:Nat):Int)=s/\((c.ae:Nat):Int)=t/\c.aq=b.1.aq/\c.wh=b.1.wh/\True))))));let j:Prop:=(ak (!e) ([]=b.2/\l (x.1.i=o/\f)) (ak x.2.2 (h) (Iv (x.2.1.length<=100000000)/\aa [x.2.1] (ak r (Iv (d.length<=1000000)/\aa [d] (([Nd.mk 2 (kQ d) 0 0 false 0 0]:List Nd)=b.2/\g)) (([Nd.mk 2 d 0 0 false 0 0]:List Nd)=b.2/\g)))));(Iv (XU y x))->ak e (Iv (bs (y.1,x.1)/\True)/\aa ([93]:List Int) (aa [y.1] (aa [bM y.1] (aa [x.1.i,x.1.an,x.1.ae,x.1.aq,x.1.wh] (ak n (aa [x.1.i] (aa [y.1] (ak m (h) (Iv (bs (y.1,x.1)/\E5 (y.1,x.1))/\aa [y.1] (aa [bM y.1] (aa [x.1.i,x.1.an,x.1.ae,x.1.aq,x.1.wh] (bx (ag (bC x.2.1 a.2)) 8/\∃z:bZ×(List (Int×Int))×Bool,aa [y.2.i] (aa [r] (bC x.2.1 a.2=z.2.1/\false=z.2.2/\l (((a.1.i:Nat):Int)=z.1.i/\((a.1.an:Nat):Int)=z.1.an/\((a.1.ae:Nat):Int)=z.1.ae/\a.1.aq=z.1.aq/\a.1.wh=z.1.wh/\(Iv (XU y z/\QcT y z<QcT y x)))))))))))) (j)))))) (j))))))
def RL (y:(List (Int×Int))×bZ):Prop:=let f:=(oO y).1;let q1:=y.2.i.toNat;let R:=y.1.length;let H:=(oO y).2.2;let A:=(oO y).2.1;let U:=((y.2.ae.toNat:Nat):Int);let V:=((y.2.an.toNat:Nat):Int);let L:=((f.an:Nat):Int);let M:=((f.i:Nat):Int);let N:=((f.ae:Nat):Int);let a:=fR y.1 (nn y.2);let m:=aw .i64 y.2.i 1;let n:=((a.1.an:Nat):Int);let o:=((a.1.ae:Nat):Int);let q:=((a.1.i:Nat):Int);let D:=bZ.mk m y.2.an y.2.ae y.2.aq y.2.wh;let b:=gp y.1 (nn D);let E:=ga y.1 (nn D);let g:=bZ.mk M L N f.aq f.wh;let F:=((cj y.1 (R-m.toNat) m.toNat []).1:Int);let c:=bj y.1 (nn g) 125;let S:=!(a8 y.1 (nn g) 125);let r:=((c.an:Nat):Int);let s:=((c.ae:Nat):Int);let t:=((c.i:Nat):Int);let h:=Ps.ax y.1 (nn g) q1 4;let G:=bZ.mk F V U y.2.aq y.2.wh;let d:=bj y.1 (nn G) 44;let T:=a8 y.1 (nn G) 44;let u:=((d.an:Nat):Int);let v:=((d.ae:Nat):Int);let j:=((d.i:Nat):Int);let w:=bZ.mk t r s c.aq c.wh;let k:=Ps.ax y.1 (nn w) q1 4;let l:=Ps.ax y.1 (nn w) q1 2;let I:=bZ.mk j u v d.aq d.wh;let e:=λp:Prop=>aa [y.1] (aa [bM y.1] p);let K:=λp:Prop=>aa [y.2.i] (aa [b] (aa [E] p));let J:Prop:=(0<=y.2.i/\(y.2.i<(R:Int)));let O:Prop:=(d.aq=f.aq/\d.wh=f.wh/\(Iv True));let B:Prop:=(e (t=q/\r=n/\s=o/\c.aq=a.1.aq/\c.wh=a.1.wh/\True));let C:Prop:=(Iv (bs (y.1,w)/\J)/\aa ([y.2.i,2]:List Int) (aa [y.1] (aa [bM y.1] (aa [t,r,s,c.aq,c.wh] (0=a.2.1/\0=a.2.2/\e (((l.i:Nat):Int)=q/\((l.an:Nat):Int)=n/\((l.ae:Nat):Int)=o/\l.aq=a.1.aq/\l.wh=a.1.wh/\True))))));let P:Prop:=(Iv (bs (y.1,w)/\J)/\aa ([y.2.i,4]:List Int) (aa [y.1] (aa [bM y.1] (aa [t,r,s,c.aq,c.wh] (0=a.2.1/\0=a.2.2/\e (((k.i:Nat):Int)=q/\((k.an:Nat):Int)=n/\((k.ae:Nat):Int)=o/\k.aq=a.1.aq/\k.wh=a.1.wh/\True))))));let Q:Prop:=(Iv (kt b)/\aa [b] (ak H (Iv (kt [])/\aa ([[]]:List (List UInt8)) (ak (!(eg b).2) (C) (ak (!(decide (gD []<=30))) (C) (ak H ((eg b).1=a.2.1/\(-1)=a.2.2/\B) ((eg b).1=a.2.1/\gD []=a.2.2/\B))))) (Iv (kt A)/\aa [A] (ak (!(eg b).2) (C) (ak (!(eg A).2) (C) (ak H ((eg b).1=a.2.1/\(-1)=a.2.2/\B) ((eg b).1=a.2.1/\(eg A).1=a.2.2/\B)))))));Iv (bs (y.1,D)/\True)/\aa [y.1] (aa [bM y.1] (aa [m,y.2.an,y.2.ae,y.2.aq,y.2.wh] ((ak E (Iv (bs (y.1,G)/\True)/\aa ([44]:List Int) (aa [y.1] (aa [bM y.1] (aa [F,V,U,y.2.aq,y.2.wh] (ak T (Iv (bs (y.1,I)/\True)/\aa [y.1] (aa [bM y.1] (aa [j,u,v,d.aq,d.wh] (∃z:Unit,K (gp y.1 (nn I)=A/\(!(ga y.1 (nn I)))=H/\e (((cj y.1 (R-j.toNat) j.toNat []).1:Int)=M/\((u.toNat:Nat):Int)=L/\((v.toNat:Nat):Int)=N/\O)))))) (∃z:Unit,K (b=A/\false=H/\e (j=M/\u=L/\v=N/\O)))))))) (∃z:Unit,K (b=A/\false=H/\e (F=M/\V=L/\U=N/\y.2.aq=f.aq/\y.2.wh=f.wh/\(Iv True)))))/\(∀x:Unit,(Iv True)->ak (!E) (Iv (bs (y.1,g)/\J)/\aa ([y.2.i,4]:List Int) (aa [y.1] (aa [bM y.1] (aa [M,L,N,f.aq,f.wh] (0=a.2.1/\0=a.2.2/\e (((h.i:Nat):Int)=q/\((h.an:Nat):Int)=n/\((h.ae:Nat):Int)=o/\h.aq=a.1.aq/\h.wh=a.1.wh/\True)))))) (Iv (bs (y.1,g)/\True)/\aa ([125]:List Int) (aa [y.1] (aa [bM y.1] (aa [M,L,N,f.aq,f.wh] (ak S (P) (ak (!H) (Iv True/\aa [A] (aa [b] (ak (gY A b) (P) (Q)))) (Q)))))))))))
def dz (G:List Gt) (i o g e w:Int):nn ⟨((cj G (G.length-i.toNat) i.toNat []).1:Nat),(o.toNat:Nat),(g.toNat:Nat),e,w⟩=dg G (nn ⟨i,o,g,e,w⟩):=rfl
def pno (s:bZ):s.an.toNat=(nn s).an:=rfl
def png (s:bZ):s.ae.toNat=(nn s).ae:=rfl
def nne (s:bZ):(nn s).aq=s.aq:=rfl
def nnw (s:bZ):(nn s).wh=s.wh:=rfl
@[simp] theorem nxw (s:Ps):s.next.wh=s.wh:=rfl
def dgo (G:List Gt) (s:Ps):(dg G s).an=s.an:=rfl
def dgg (G:List Gt) (s:Ps):(dg G s).ae=s.ae:=rfl
def dge (G:List Gt) (s:Ps):(dg G s).aq=s.aq:=rfl
def dgw (G:List Gt) (s:Ps):(dg G s).wh=s.wh:=rfl
def dzi (G:List Gt) (s:Ps):(cj G (G.length-s.i) s.i []).1=(dg G s).i:=rfl
def pni (s:bZ):s.i.toNat=(nn s).i:=rfl
def bs.XX (h:bs y) (hi:y.2.i<y.1.length):aw .i64 y.2.i 1=y.2.i+1/\nn ⟨y.2.i+1,y.2.an,y.2.ae,y.2.aq,y.2.wh⟩=(nn y.2).next/\(nn y.2).i<y.1.length/\fL y.1 (nn y.2) (nn y.2).next/\bs (y.1,⟨y.2.i+1,y.2.an,y.2.ae,y.2.aq,y.2.wh⟩):=by
 obtain⟨a,a2,a3,a4,b⟩:=id h;have hl:(nn y.2).i<y.1.length:=by show y.2.i.toNat<_;omega
 have c:((y.1,(⟨y.2.i+1,y.2.an,y.2.ae,y.2.aq,y.2.wh⟩:bZ)):PS).1.length=y.1.length:=rfl;exact⟨ba ω ω,rO a2.1,hl,h.adv.next hl,a,⟨show 0<=y.2.i+1 by omega,show y.2.i+1<=(y.1.length:Int) by omega⟩,a3,a4,b⟩
theorem xa:∀(n i:Nat) (b:By),kt b->kt (cj G n i b).2
 | 0,_,_,h=>h
 | n+1,i,b,h=>by
  unfold cj;split
  ·rename_i e
   refine xa n _ _ ?_;split
   ·intro c a;rcases Zax.1 a with d | d
    ·exact h c d
    ·grind [UInt8.toNat_ofNat']
   ·exact h
  ·exact h
theorem pC (G:List Gt) (s:Ps):kt (gp G s):=xa _ _ _ λc h=>by cases h
theorem QcU (y:PS):fR y.1 (nn y.2)=na y.1 (nn y.2).i (oO y).1 (gp y.1 (nn y.2).next) (oO y).2.1 (ga y.1 (nn y.2).next) (oO y).2.2:=by
 grind [fR,oO]
theorem QmE (y:PS) (n:GJ.pre y):RL y:=by
 obtain⟨h0,hi⟩:bs y/\y.2.i<y.1.length:=n;obtain⟨l,f,hl,k,q⟩:=h0.XX hi;have i0:0<=y.2.i:=h0.2.1.1;have c:=(rG k).1;have g:=c.skip 44;have r:=h0.of c;have os:=h0.of g;have e:fL y.1 (nn y.2) (oO y).1:=by
  unfold oO;split
  ·rename_i h
   exact(rG (c.next (cW h.2))).1
  ·exact c
 have s:=h0.of e;have d:=h0.of (e.skip 125);have g1:=pC y.1 (nn y.2).next;have g2:kt (oO y).2.1:=by grind [oO,pC]
 have x:gD []=0:=rfl;have g0:kt []:=λ_ h=>nomatch h
 have o:ga y.1 (nn y.2).next->a8 y.1 (dg y.1 (nn y.2).next) 44->oO y=(dg y.1 (dg y.1 (nn y.2).next).next,gp y.1 (dg y.1 (nn y.2).next).next,!ga y.1 (dg y.1 (nn y.2).next).next):=λa b=>Zac ⟨a,b⟩
 have p:¬(ga y.1 (nn y.2).next/\a8 y.1 (dg y.1 (nn y.2).next) 44)->oO y=(dg y.1 (nn y.2).next,gp y.1 (nn y.2).next,false):=λa=>Zaa a
 have k1:a8 y.1 (dg y.1 (nn y.2).next) 44->bj y.1 (dg y.1 (nn y.2).next) 44=(dg y.1 (nn y.2).next).next:=λh=>Zac h
 have k2:a8 y.1 (dg y.1 (nn y.2).next) 44=false->bj y.1 (dg y.1 (nn y.2).next) 44=dg y.1 (nn y.2).next:=λh=>Zaa (by grind)
 have t:(cj y.1 (y.1.length-(y.2.i+1).toNat) (y.2.i+1).toNat []).1=(dg y.1 (nn y.2).next).i:=by rw[<-f];rfl
 have w:(nn y.2).next.wh=y.2.wh:=rfl;have z2:nn ⟨(dg y.1 (nn y.2).next).i,(nn y.2).an,(nn y.2).ae,y.2.aq,y.2.wh⟩=dg y.1 (nn y.2).next:=rfl;unfold RL;simp only[bH,l,f,dz,ez,ZaX,ZaY,ZaZ,t,z2,Zad,dzi,pni,pno,png,QcU];refine⟨q,?_,?_⟩
 ·clear s d g1 g2
  with_reducible repeat' first | apply And.intro | intro _
  all_goals first
   | assumption
   | (simp_all [dgo,dgg,dge,dgw,nne,nnw];done)
 ·clear o p k1 k2 r os c g;generalize oO y=j at*
  have u:a8 y.1 j.1 125->bj y.1 j.1 125=j.1.next:=λh=>Zac h
  have v:a8 y.1 j.1 125=false->bj y.1 j.1 125=j.1:=λh=>Zaa (by grind)
  generalize ga y.1 (nn y.2).next=ok at*
  generalize gp y.1 (nn y.2).next=m at*
  with_reducible repeat' first | apply And.intro | intro _
  all_goals first
   | assumption
   | (simp_all [na,eg];done)
def Qgn (a:Ok w_):Ok GJ:=okZ [w_,sV,pR,Md,GA] f177 QmA ⟨a,zM,tQ,Qf3,Qf6⟩ QmE
theorem GK {a n:Nat} {s:Ps} {b:Bool} (h:s.aq≠0\/a8 G s 93):dJ G a n s l b=(s,l,b,false):=by
 cases n with
 | zero=>rfl
 | succ n=>
  grind [dJ]
theorem Mh {one:Bool} {b:Nat} {s:Ps}:(jG G l one b s).1.aq≠0->(jG G l one b s).2=[]:=by
 grind [jG]
theorem XY {G:List Gt} {s:Ps} (h:(dU G s).1.aq≠0):(dU G s).2=[]:=by
 grind [dU,Mh]
theorem QmF (y:PS) (B:GI.pre y):RK y:=by
 obtain⟨h0,hi⟩:bs y/\y.2.i<y.1.length:=B;obtain⟨r,u,hl,v,E⟩:=h0.XX hi;have i0:0<=y.2.i:=h0.2.1.1;have e:=v.skip 94;have os:=h0.of e;unfold RK;simp only[bI,bH,r,u,dz,ez,ZaX,ZaY,ZaZ,pni,av,a7,bm];refine⟨E,⟨⟨zz (bj y.1 (nn y.2).next 94),[],true⟩,rfl,rfl,rfl,rfl,rfl,rfl,rfl,os,e.op,by simp,_,λ_=>?_,rfl⟩,λx A=>?_⟩
 ·have:=e.len;show _<=_+(bj y.1 (nn y.2).next 94).i
  omega
 ·obtain⟨s,l,b⟩:=x;obtain⟨c,k,D,n,d,g⟩:=A;simp only at*
  have a2:fL y.1 (nn s) (nn s):=c.adv;obtain⟨b1,o,p,q,_⟩:y.1.length<=4096/\(0<=s.i/\s.i<=y.1.length)/\(0<=s.an/\s.an<=20)/\(0<=s.ae/\s.ae<=4)/\_:=id c;have F:(nn s).i<=y.1.length:=a2.len;have zi:((nn s).i:Int)=s.i:=Zby o.1;have zo:((nn s).an:Int)=s.an:=Zby p.1;have zg:((nn s).ae:Int)=s.ae:=Zby q.1;have w:rF y.1 (nn y.2)=(if (dJ y.1 (nn y.2).i n (nn s) l b).2.2.2 then((dJ y.1 (nn y.2).i n (nn s) l b).1,[]) else if (dJ y.1 (nn y.2).i n (nn s) l b).1.aq≠0 then((dJ y.1 (nn y.2).i n (nn s) l b).1,[]) else if (dJ y.1 (nn y.2).i n (nn s) l b).2.2.1 then((dJ y.1 (nn y.2).i n (nn s) l b).1.ax y.1 (nn y.2).i 4,[])
   else((dJ y.1 (nn y.2).i n (nn s) l b).1.next,[wz (if a8 y.1 (nn y.2).next 94 then kQ (aV (dJ y.1 (nn y.2).i n (nn s) l b).2.1) else aV (dJ y.1 (nn y.2).i n (nn s) l b).2.1)])):=by rw[g];rfl
  have cs:s.aq≠0\/a8 y.1 (nn s) 93->dJ y.1 (nn y.2).i n (nn s) l b=(nn s,l,b,false):=λh=>GK h
  have f:s.aq=0->∃m,n=m+1:=λh=>⟨n-1,ω⟩
  have G:y.1.length<=4096:=b1;have H:(aV l).length<=2*l.length:=pw l;have b8:l.length<=40000:=by grind
  have I:a8 y.1 (nn s) 93->aw .i64 s.i 1=s.i+1:=λh=>ba ω ω
  refine⟨λa=>⟨c,λz=>⟨λt=>⟨⟨c,i0,hi⟩,?_⟩,λt=>⟨⟨c,t⟩,?_⟩⟩,λz=>?_⟩,λa=>?_⟩
  ·obtain⟨m,rfl⟩:=f a;have:dJ y.1 (nn y.2).i (m+1) (nn s) l b=((nn s).ax y.1 (nn y.2).i 4,l,b,true):=by
    unfold dJ;rw[Zac ⟨a,by grind⟩,Zac ω]
   grind
  ·obtain⟨m,rfl⟩:=f a;have j:(nn s).i<y.1.length:=ω;obtain⟨c1,c2,c3⟩:=jZ a2 j;have c4:(nn s).i<=(dU y.1 (nn s)).1.i:=c1.le;have c5:=c1.len;have c6:=@XY y.1 (nn s);have C:(l++(dU y.1 (nn s)).2).length<=8*(dU y.1 (nn s)).1.i+(if (dU y.1 (nn s)).1.aq=0 then 0 else 8):=by
    grind
   have hlen:(l++(dU y.1 (nn s)).2).length<=40000:=by grind
   refine⟨ω,⟨zz (dU y.1 (nn s)).1,l++(dU y.1 (nn s)).2,false⟩,rfl,rfl,rfl,rfl,rfl,rfl,rfl,⟨c.of c1,c1.op.trans k,C,m,λh=>?_,?_⟩,?_⟩
   ·have:=c2 h;have:=d a;show _<=m+(dU y.1 (nn s)).1.i;omega
   ·rw[<-g]
    conv=>rhs;unfold dJ
    rw[Zac ⟨a,by grind⟩,Zaa ω];rfl
   ·show 2*(y.1.length-(dU y.1 (nn s)).1.i)+(if (dU y.1 (nn s)).1.aq=0 then 1 else 0)<2*(y.1.length-(nn s).i)+(if s.aq=0 then 1 else 0)
    grind
  all_goals
   rw[cs (by first | exact .inl a | exact .inr (by grind))] at w;clear g cs f D d u r e os b1 o p q
   with_reducible repeat' first | apply And.intro | intro _
   all_goals first
    | assumption
    | omega
    | (simp_all [nne,nnw,wz,nd,tL];done)
    | (simp_all [nne,nnw,wz,nd,tL];omega)
def Qgo (a:Ok dr):Ok GI:=okZ [sV,V',pR,RF,dr,Gg] f198 Qmy ⟨zM,isOk,tQ,Qgh a,a,Qap a⟩ QmF
def gM (y:PS):Ps->Ps×List Nd:=qq y.1 (20-(nn y.2).an)
def lvl (y:PS):Nat:=5*(20-(nn y.2).an)
def RM (f:FuncId) (pre:PS->Prop) (F:PS->Ps×List Nd):br D:=wY f PS (λy=>y) Me pre (λ_=>[]) (λy=>zz (F y).1) λy=>.list 7 (F y).2
def qB (y:PS):Ps×List Nd:=qq y.1 (21-(nn y.2).an) (nn y.2)
def mj (y:PS):Ps×List Nd:=l3 y.1 (gM y) (nn y.2)
def yw (y:PS):Ps×List Nd:=fb y.1 (gM y) (nn y.2)
def dD (y:PS):Ps×List Nd:=iJ y.1 (gM y) (nn y.2)
def ml (y:PS):Ps×List Nd:=gP y.1 (gM y) (nn y.2)
def GL:br D:=RM 59 (λ_=>True) qB
def Mi:br D:=RM 100 (λ_=>True) mj
def Mj:br D:=RM 141 E5 yw
def RN:br D:=RM 176 E5 dD
def RO:br D:=RM 197 E5 ml
def fmT (n:Nat):tI:=[GL.under (λy=>lvl y+4) n,Mi.under (λy=>lvl y+3) n,Mj.under (λy=>lvl y+2) n,RN.under (λy=>lvl y+1) n,RO.under (λy=>lvl y) n]
def fmW (l:tI) (i:Nat) (fn:Func) (k:br D) (a:k.Y->cO D) (n:Nat) (y:k.Y):Prop:=vc (fmT (n+i)++l) fn k a y
def Qaz (G:List Gt) (s:bZ):List (Nat×AO D.E):=psO G s++[(1,.tok 9 99)]
def XZ (y:PS) (x:bZ×List (List Nd)):Prop:=bs (y.1,x.1)/\(nn x.1).an=(nn y.2).an/\(nn y.2).i<=(nn x.1).i/\0<x.2.length/\total x.2+2*x.2.length<=3*((nn x.1).i-(nn y.2).i)+3/\∃n,(x.1.aq=0->y.1.length+2<=n+(nn x.1).i)/\
 fS y.1 (gM y) n (nn x.1) x.2=fS y.1 (gM y) (y.1.length+2-(mj y).1.i) (mj y).1 [(mj y).2]
def DL (y:PS) (x:bZ×List (List Nd)):Nat:=2*(y.1.length-(nn x.1).i)+(if x.1.aq=0 then 1 else 0)
def Qgq (y:GL.Y):cO D:=⟨[],[],[(28,⟨bZ×List (List Nd),[0],λx=>[(3,.grow 9 x.2 1)],[],λx=>Qaz y.1 x.1,2,XZ y,DL y⟩)],[],1,[]⟩
def QmG (y:GL.Y):Prop:=fmW [sV,yu] 4 f59 GL Qgq (lvl y) y
def RP (y:PS) (x:bZ×List (List Nd)):Prop:=bs (y.1,x.1)/\(nn x.1).an=(nn y.2).an/\(nn y.2).i<=(nn x.1).i/\total x.2<=3*((nn x.1).i-(nn y.2).i)/\x.2.length<=(nn x.1).i-(nn y.2).i+(if x.1.aq=0 then 0 else 1)/\∃n,(x.1.aq=0->y.1.length+2<=n+(nn x.1).i)/\
 ej y.1 (gM y) n (nn x.1) x.2=ej y.1 (gM y) (y.1.length+2-(nn y.2).i) (nn y.2) []
def Qgr (y:Mi.Y):cO D:=⟨[],[],[(28,⟨bZ×List (List Nd),[0],λx=>[(3,.grow 9 x.2 1)],[],λx=>Qaz y.1 x.1,2,RP y,DL y⟩)],[],1,[]⟩
def QmH (y:Mi.Y):Prop:=fmW [V',yu] 3 f100 Mi Qgr (lvl y) y
def oP (y:PS):Ps×Int×Int:=if a8 y.1 (dD y).1 42 then((dD y).1.next,0,-1) else if a8 y.1 (dD y).1 43 then((dD y).1.next,1,-1) else if a8 y.1 (dD y).1 63 then((dD y).1.next,0,1) else fR y.1 (dD y).1
def uj (y:PS):Prop:=(dD y).1.aq=0/\(a8 y.1 (dD y).1 42\/a8 y.1 (dD y).1 43\/a8 y.1 (dD y).1 63\/a8 y.1 (dD y).1 123)
def Qgs (y:Mj.Y):cO D:=⟨[],[],[],[(31,⟨Unit,[0,3],λ_=>[(4,.ptr 1 0)],[],λ_=>psO y.1 (zz (oP y).1)++[(1,.cells [QsE 5,.dd,QsE (oP y).2.1,QsE (oP y).2.2,.bool false,QsE 0,QsE 1] 152 false)],2,λ_=>uj y,λ_=>0⟩)],1,[]⟩
def QmI (y:Mj.Y):Prop:=fmW [sV,V',GJ] 2 f141 Mj Qgs (lvl y) y
def QmJ (y:RN.Y):Prop:=fmW [yr,pR,GI,yv,Rj,DI] 1 f176 RN (λ_=>ew ()) (lvl y) y
def QmK (y:RO.Y):Prop:=fmW [sV,pR] 0 f197 RO (λ_=>ew ()) (lvl y) y
def RQ (y:(List (Int×Int))×bZ):Prop:=let c:=(qB y).1;let q1:=((c.i:Nat):Int);let o:=((c.an:Nat):Int);let q:=((c.ae:Nat):Int);let n:=(y.1,y.2);let g:=ej y.1 (gM n) ((y.1.length+2) -y.2.i.toNat) (nn y.2) [];let m:=λp:Prop=>aa [y.1] (aa [bM y.1] p);Iv ((bs n/\True)/\(lvl n+3)<(lvl y+4))/\aa [y.1] (aa [bM y.1] (aa [y.2.i,y.2.an,y.2.ae,y.2.aq,y.2.wh] ((∃z:bZ×(List (List Nd)),([bU 3 g.2]:List (List Nd))=z.2/\m (((g.1.i:Nat):Int)=z.1.i/\((g.1.an:Nat):Int)=z.1.an/\((g.1.ae:Nat):Int)=z.1.ae/\g.1.aq=z.1.aq/\g.1.wh=z.1.wh/\(Iv (XZ y z))))/\(∀x:bZ×(List (List Nd)),let b:=bj y.1 (nn x.1) 124;let r:=a8 y.1 (nn x.1) 124;let l:=((b.i:Nat):Int);let d:=((b.ae:Nat):Int);let e:=((b.an:Nat):Int);let h:=bZ.mk l e d b.aq b.wh;let f:=(y.1,h);let a:=ej y.1 (gM f) ((y.1.length+2) -l.toNat) (nn h) [];let j:=bC x.2 [bU 3 a.2];let k:=λp:Prop=>aa ([4]:List Int) (aa [x.2] p);(Iv (XZ y x))->ak (aC x.1.aq 0) (Iv (bs (y.1,x.1)/\True)/\aa ([124]:List Int) (aa [y.1] (aa [bM y.1] (aa [x.1.i,x.1.an,x.1.ae,x.1.aq,x.1.wh] (ak r (Iv ((bs f/\True)/\(lvl f+3)<(lvl y+4))/\aa [y.1] (aa [bM y.1] (aa [l,e,d,b.aq,b.wh] (bx (ag j) 24/\∃z:bZ×(List (List Nd)),j=z.2/\m (((a.1.i:Nat):Int)=z.1.i/\((a.1.an:Nat):Int)=z.1.an/\((a.1.ae:Nat):Int)=z.1.ae/\a.1.aq=z.1.aq/\a.1.wh=z.1.wh/\(Iv (XZ y z/\DL y z<DL y x))))))) (Iv (total x.2<=100000/\x.2.length<=100000)/\k (bU 4 x.2=(qB y).2/\m (l=q1/\e=o/\d=q/\b.aq=c.aq/\b.wh=c.wh/\True)))))))) (Iv (total x.2<=100000/\x.2.length<=100000)/\k (bU 4 x.2=(qB y).2/\m (x.1.i=q1/\x.1.an=o/\x.1.ae=q/\x.1.aq=c.aq/\x.1.wh=c.wh/\True)))))))
def X0:∀y,RQ y=QmG y:=λy=>by kernel_rfl
def RR (y:(List (Int×Int))×bZ):Prop:=let e:=ej y.1 (gM y) ((y.1.length+2) -y.2.i.toNat) (nn y.2) [];let q1:=((e.1.an:Nat):Int);let k:=((e.1.ae:Nat):Int);let l:=((e.1.i:Nat):Int);let m:=bU 3 e.2;let j:=λp:Prop=>aa [y.1] (aa [bM y.1] p);(∃z:bZ×(List (List Nd)),[]=z.2/\j (y.2.i=z.1.i/\y.2.an=z.1.an/\y.2.ae=z.1.ae/\y.2.aq=z.1.aq/\y.2.wh=z.1.wh/\(Iv (RP y z))))/\(∀x:bZ×(List (List Nd)),let n:=!(ay 0 x.1.an);let o:=ay x.1.i (ag y.1);let c:=(y.1,x.1);let q:=a8 y.1 (nn x.1) 41;let h:=!(a8 y.1 (nn x.1) 124);let a:=(yw c).1;let f:=bC x.2 [(yw c).2];let d:=λp:Prop=>aa [x.1.aq,x.1.i] (aa [y.1] p);let b:Prop:=(Iv (total x.2<=100000/\x.2.length<=100000)/\aa ([3]:List Int) (aa [x.2] (bU 3 x.2=m/\j (x.1.i=l/\x.1.an=q1/\x.1.ae=k/\x.1.aq=e.1.aq/\x.1.wh=e.1.wh/\True))));let g:Prop:=(Iv ((bs c/\E5 c)/\(lvl c+2)<(lvl y+3))/\aa [y.1] (aa [bM y.1] (aa [x.1.i,x.1.an,x.1.ae,x.1.aq,x.1.wh] (bx (ag f) 24/\∃z:bZ×(List (List Nd)),f=z.2/\j (((a.i:Nat):Int)=z.1.i/\((a.an:Nat):Int)=z.1.an/\((a.ae:Nat):Int)=z.1.ae/\a.aq=z.1.aq/\a.wh=z.1.wh/\(Iv (RP y z/\DL y z<DL y x)))))));(Iv (RP y x))->ak (aC x.1.aq 0) (ak o (Iv (bs c/\True)/\aa ([124]:List Int) (aa [y.1] (aa [bM y.1] (aa [x.1.i,x.1.an,x.1.ae,x.1.aq,x.1.wh] (ak h (Iv (bs c/\True)/\aa ([41]:List Int) (aa [y.1] (aa [bM y.1] (aa [x.1.i,x.1.an,x.1.ae,x.1.aq,x.1.wh] (ak q (aa [x.1.aq,x.1.i] (aa [y.1] (aa [x.1.an] (ak n (g) (b))))) (d (g))))))) (d (b))))))) (d (b))) (aa [x.1.aq] (b)))
def X1:∀y,RR y=QmH y:=λy=>by kernel_rfl
def RS (y:(List (Int×Int))×bZ):Prop:=let O:=(yw y).2;let q1:=(yw y).1;let e:=(oP y).1;let M:=(oP y).2.2;let P:=((q1.an:Nat):Int);let Q:=((q1.i:Nat):Int);let R:=((q1.ae:Nat):Int);let N:=(oP y).2.1;let J:=((e.an:Nat):Int);let K:=((e.ae:Nat):Int);let f:=((e.i:Nat):Int);let h:=(y.1,y.2);let b:=(dD h).1;let s:=(dD h).2;let t:=((b.ae:Nat):Int);let u:=((b.i:Nat):Int);let v:=((b.an:Nat):Int);let w:=bZ.mk f J K e.aq e.wh;let j:=bj y.1 (nn w) 63;let A:=bZ.mk u v t b.aq b.wh;let L:=bC [Nd.mk 5 [] N M (a8 y.1 (nn w) 63) 0 1] s;let S:=a8 y.1 (nn A) 42;let c:=bj y.1 (nn A) 42;let B:=((c.an:Nat):Int);let C:=((c.ae:Nat):Int);let D:=((c.i:Nat):Int);let E:=bZ.mk D B C c.aq c.wh;let d:=bj y.1 (nn E) 43;let T:=a8 y.1 (nn E) 43;let F:=((d.ae:Nat):Int);let G:=((d.an:Nat):Int);let H:=((d.i:Nat):Int);let I:=bZ.mk H G F d.aq d.wh;let a:=bj y.1 (nn I) 63;let U:=a8 y.1 (nn I) 63;let k:=((a.an:Nat):Int);let l:=((a.ae:Nat):Int);let m:=((a.i:Nat):Int);let n:=bZ.mk m k l a.aq a.wh;let g:=fR y.1 (nn n);let V:=a8 y.1 (nn n) 123;let o:=λp:Prop=>aa [y.1] (aa [bM y.1] p);let q:=λp:Prop=>aa ([0,1]:List Int) (aa [y.1] (aa [bM y.1] p));let r:=λp:Prop=>aa [s] (aa ([5]:List Int) p);Iv ((bs h/\E5 h)/\(lvl h+1)<(lvl y+2))/\aa [y.1] (aa [bM y.1] (aa [y.2.i,y.2.an,y.2.ae,y.2.aq,y.2.wh] (ak (!(aC b.aq 0)) ([]=O/\o (u=Q/\v=P/\t=R/\b.aq=q1.aq/\b.wh=q1.wh/\True)) ((Iv (bs (y.1,A)/\True)/\aa ([42]:List Int) (aa [y.1] (aa [bM y.1] (aa [u,v,t,b.aq,b.wh] (ak S (∃z:Unit,r (0=N/\(-1)=M/\false=false/\q (D=f/\B=J/\C=K/\c.aq=e.aq/\c.wh=e.wh/\(Iv (uj y))))) (Iv (bs (y.1,E)/\True)/\aa ([43]:List Int) (aa [y.1] (aa [bM y.1] (aa [D,B,C,c.aq,c.wh] (ak T (∃z:Unit,r (1=N/\(-1)=M/\false=false/\q (H=f/\G=J/\F=K/\d.aq=e.aq/\d.wh=e.wh/\(Iv (uj y))))) (Iv (bs (y.1,I)/\True)/\aa ([63]:List Int) (aa [y.1] (aa [bM y.1] (aa [H,G,F,d.aq,d.wh] (ak U (∃z:Unit,r (0=N/\1=M/\false=false/\q (m=f/\k=J/\l=K/\a.aq=e.aq/\a.wh=e.wh/\(Iv (uj y))))) (Iv (bs (y.1,n)/\True)/\aa ([123]:List Int) (aa [y.1] (aa [bM y.1] (aa [m,k,l,a.aq,a.wh] (ak V (Iv (bs (y.1,n)/\E5 (y.1,n))/\aa [y.1] (aa [bM y.1] (aa [m,k,l,a.aq,a.wh] (∃z:Unit,r (g.2.1=N/\g.2.2=M/\false=false/\q (((g.1.i:Nat):Int)=f/\((g.1.an:Nat):Int)=J/\((g.1.ae:Nat):Int)=K/\g.1.aq=e.aq/\g.1.wh=e.wh/\(Iv (uj y)))))))) (s=O/\o (m=Q/\k=P/\l=R/\a.aq=q1.aq/\a.wh=q1.wh/\True))))))))))))))))))))))/\(∀x:Unit,(Iv (uj y))->ak (!(aC e.aq 0)) ([]=O/\o (f=Q/\J=P/\K=R/\e.aq=q1.aq/\e.wh=q1.wh/\True)) (Iv (bs (y.1,w)/\True)/\aa ([63]:List Int) (aa [y.1] (aa [bM y.1] (aa [f,J,K,e.aq,e.wh] (bx (ag L) 72/\L=O/\o (((j.i:Nat):Int)=Q/\((j.an:Nat):Int)=P/\((j.ae:Nat):Int)=R/\j.aq=q1.aq/\j.wh=q1.wh/\True)))))))))))
def X2:∀y,RS y=QmI y:=λy=>by kernel_rfl
def RT (y:(List (Int×Int))×bZ):Prop:=let e:=(dD y).1;let q1:=(dD y).2;let s:=y.2.i.toNat;let n:=((e.i:Nat):Int);let o:=((e.ae:Nat):Int);let q:=((e.an:Nat):Int);let k:=dT y.1 (nn y.2);let l:=rF y.1 (nn y.2);let d:=(y.1,y.2);let r:=(ml d).1;let f:=Ps.ax y.1 (nn y.2) s 4;let a:=(gt (0,0) y.1 s).1;let j:=λp:Prop=>aa [y.1] (aa [bM y.1] (aa [y.2.i,y.2.an,y.2.ae,y.2.aq,y.2.wh] p));let g:=λp:Prop=>aa [y.1] (aa [bM y.1] p);let h:Prop:=(g (aw .i64 y.2.i 1=n/\y.2.an=q/\y.2.ae=o/\y.2.aq=e.aq/\y.2.wh=e.wh/\True));let m:Prop:=(g (((k.1.i:Nat):Int)=n/\((k.1.an:Nat):Int)=q/\((k.1.ae:Nat):Int)=o/\k.1.aq=e.aq/\k.1.wh=e.wh/\True));let c:Prop:=(Iv True/\aa [a] (([Nd.mk 2 (dZ a) 0 0 false 0 0]:List Nd)=q1/\h));let b:Prop:=(Iv (bs d/\0<=y.2.i/\y.2.i<(y.1.length:Int))/\aa ([y.2.i,4]:List Int) (aa [y.1] (aa [bM y.1] (aa [y.2.i,y.2.an,y.2.ae,y.2.aq,y.2.wh] ([]=q1/\g (((f.i:Nat):Int)=n/\((f.an:Nat):Int)=q/\((f.ae:Nat):Int)=o/\f.aq=e.aq/\f.wh=e.wh/\True))))));Iv (bs d/\0<=y.2.i/\y.2.i<(y.1.length:Int))/\aa [y.2.i] (aa [y.1] (aa [bM y.1] (aa [y.2.i,y.2.an,y.2.ae,y.2.aq,y.2.wh] (ak (eQ y.1 s) (b) (aH 0 y.2.i/\ay y.2.i (ag y.1)/\ak (aC a 40) (Iv ((bs d/\E5 d)/\lvl d<(lvl y+1))/\j ((ml d).2=q1/\g (((r.i:Nat):Int)=n/\((r.an:Nat):Int)=q/\((r.ae:Nat):Int)=o/\r.aq=e.aq/\r.wh=e.wh/\True))) (ak (aC a 91) (Iv (bs d/\E5 d)/\j (l.2=q1/\g (((l.1.i:Nat):Int)=n/\((l.1.an:Nat):Int)=q/\((l.1.ae:Nat):Int)=o/\l.1.aq=e.aq/\l.1.wh=e.wh/\True))) (ak (aC a 92) (ak (DJ d) (Iv (bs d/\GB (d,true))/\j (([Nd.mk 2 [] 0 0 false 0 0]:List Nd)=q1/\m)) (Iv (bs d/\GB (d,false))/\j (([Nd.mk 2 k.2.1 0 0 false 0 0]:List Nd)=q1/\m))) (ak (aC a 46) (Iv True/\([Nd.mk 2 WR 0 0 false 0 0]:List Nd)=q1/\h) (ak (aC a 94) (([Nd.mk 7 [] 0 0 false 0 0]:List Nd)=q1/\h) (ak (aC a 36) (([Nd.mk 8 [] 0 0 false 0 0]:List Nd)=q1/\h) (ak (aC a 42) (ak (aC a 42) (b) (c)) (ak (aC a 43) (ak (aC a 43) (b) (c)) (ak (aC a 63) (ak (aC a 63) (b) (c)) (ak (aC a 41) (ak (aC a 41) (b) (c)) (ak (aC a 93) (ak (aC a 93) (b) (c)) (ak (aC a 123) (ak (aC a 123) (b) (c)) (ak (aC a 125) (ak (aC a 125) (b) (c)) (ak (aC a 124) (b) (c)))))))))))))))))))
def X3:∀y,RT y=QmJ y:=λy=>by kernel_rfl
def RU (y:(List (Int×Int))×bZ):Prop:=let b:=(ml y).1;let q1:=(ml y).2;let V:=y.2.i.toNat;let A:=((b.an:Nat):Int);let B:=((b.i:Nat):Int);let C:=((b.ae:Nat):Int);let q6:=aw .i64 y.2.i 1;let q7:=bZ.mk q6 y.2.an y.2.ae y.2.aq y.2.wh;let j:=bj y.1 (nn q7) 63;let q9:=a8 y.1 (nn q7) 63;let k:=((j.ae:Nat):Int);let l:=((j.an:Nat):Int);let m:=((j.i:Nat):Int);let G:=aw .i64 k 1;let W:=aw .i64 l 1;let h:=bZ.mk m l k j.aq j.wh;let a:=bj y.1 (nn h) 58;let q17:=!(a8 y.1 (nn h) 58);let o:=((a.ae:Nat):Int);let q:=((a.an:Nat):Int);let r:=((a.i:Nat):Int);let s:=Ps.ax y.1 (nn h) V 10;let t:=Ps.ax y.1 (nn h) V 13;let X:=aw .i64 q 1;let D:=(y.1,bZ.mk m W G j.aq j.wh);let c:=(qB D).1;let H:=((c.i:Nat):Int);let I:=((c.ae:Nat):Int);let J:=cF .i64 ((c.an:Nat):Int) 1;let E:=bC [Nd.mk 6 [] 0 0 false G 1] (qB D).2;let F:=bZ.mk r q o a.aq a.wh;let u:=(y.1,bZ.mk r X o a.aq a.wh);let v:=Ps.ax y.1 (nn F) V 4;let w:=Ps.ax y.1 (nn F) V 10;let d:=(qB u).1;let K:=((d.ae:Nat):Int);let L:=((d.i:Nat):Int);let M:=cF .i64 ((d.an:Nat):Int) 1;let N:=bZ.mk H J I c.aq c.wh;let f:=bj y.1 (nn N) 41;let q40:=!(a8 y.1 (nn N) 41);let O:=((f.ae:Nat):Int);let P:=((f.an:Nat):Int);let Q:=((f.i:Nat):Int);let R:=bZ.mk L M K d.aq d.wh;let g:=bj y.1 (nn R) 41;let q46:=!(a8 y.1 (nn R) 41);let S:=((g.i:Nat):Int);let T:=((g.an:Nat):Int);let U:=((g.ae:Nat):Int);let Y:=bZ.mk Q P O f.aq f.wh;let x:=Ps.ax y.1 (nn Y) V 4;let Z:=bZ.mk S T U g.aq g.wh;let z:=Ps.ax y.1 (nn Z) V 4;let e:=λp:Prop=>aa [y.1] (aa [bM y.1] p);let n:Prop:=(0<=y.2.i/\(y.2.i<(y.1.length:Int)));Iv (bs (y.1,q7)/\True)/\aa ([63]:List Int) (aa [y.1] (aa [bM y.1] (aa [q6,y.2.an,y.2.ae,y.2.aq,y.2.wh] (ak q9 (Iv (bs (y.1,h)/\True)/\aa ([58]:List Int) (aa [y.1] (aa [bM y.1] (aa [m,l,k,j.aq,j.wh] (ak q17 (Iv (bs (y.1,F)/\n)/\aa ([y.2.i,4]:List Int) (aa [y.1] (aa [bM y.1] (aa [r,q,o,a.aq,a.wh] ([]=q1/\e (((v.i:Nat):Int)=B/\((v.an:Nat):Int)=A/\((v.ae:Nat):Int)=C/\v.aq=b.aq/\v.wh=b.wh/\True)))))) (ak (aH 20 q) (Iv (bs (y.1,F)/\n)/\aa ([y.2.i,10]:List Int) (aa [y.1] (aa [bM y.1] (aa [r,q,o,a.aq,a.wh] ([]=q1/\e (((w.i:Nat):Int)=B/\((w.an:Nat):Int)=A/\((w.ae:Nat):Int)=C/\w.aq=b.aq/\w.wh=b.wh/\True)))))) (Iv ((bs u/\True)/\(lvl u+4)<(lvl y+0))/\aa [y.1] (aa [bM y.1] (aa [r,X,o,a.aq,a.wh] (ak (aC d.aq 0) (Iv (bs (y.1,R)/\True)/\aa ([41]:List Int) (aa [y.1] (aa [bM y.1] (aa [L,M,K,d.aq,d.wh] (ak q46 (Iv (bs (y.1,Z)/\n)/\aa ([y.2.i,4]:List Int) (aa [y.1] (aa [bM y.1] (aa [S,T,U,g.aq,g.wh] ([]=q1/\e (((z.i:Nat):Int)=B/\((z.an:Nat):Int)=A/\((z.ae:Nat):Int)=C/\z.aq=b.aq/\z.wh=b.wh/\True)))))) ((qB u).2=q1/\e (S=B/\T=A/\U=C/\g.aq=b.aq/\g.wh=b.wh/\True))))))) ((qB u).2=q1/\e (L=B/\M=A/\K=C/\d.aq=b.aq/\d.wh=b.wh/\True)))))))))))) (ak (aH 20 l) (Iv (bs (y.1,h)/\n)/\aa ([y.2.i,10]:List Int) (aa [y.1] (aa [bM y.1] (aa [m,l,k,j.aq,j.wh] ([]=q1/\e (((s.i:Nat):Int)=B/\((s.an:Nat):Int)=A/\((s.ae:Nat):Int)=C/\s.aq=b.aq/\s.wh=b.wh/\True)))))) (ak (aH 4 k) (Iv (bs (y.1,h)/\n)/\aa ([y.2.i,13]:List Int) (aa [y.1] (aa [bM y.1] (aa [m,l,k,j.aq,j.wh] ([]=q1/\e (((t.i:Nat):Int)=B/\((t.an:Nat):Int)=A/\((t.ae:Nat):Int)=C/\t.aq=b.aq/\t.wh=b.wh/\True)))))) (Iv ((bs D/\True)/\(lvl D+4)<(lvl y+0))/\aa [y.1] (aa [bM y.1] (aa [m,W,G,j.aq,j.wh] (ak (aC c.aq 0) (Iv (bs (y.1,N)/\True)/\aa ([41]:List Int) (aa [y.1] (aa [bM y.1] (aa [H,J,I,c.aq,c.wh] (ak q40 (Iv (bs (y.1,Y)/\n)/\aa ([y.2.i,4]:List Int) (aa [y.1] (aa [bM y.1] (aa [Q,P,O,f.aq,f.wh] ([]=q1/\e (((x.i:Nat):Int)=B/\((x.an:Nat):Int)=A/\((x.ae:Nat):Int)=C/\x.aq=b.aq/\x.wh=b.wh/\True)))))) (bx (ag E) 72/\E=q1/\e (Q=B/\P=A/\O=C/\f.aq=b.aq/\f.wh=b.wh/\True))))))) (bx (ag E) 72/\E=q1/\e (H=B/\J=A/\I=C/\c.aq=b.aq/\c.wh=b.wh/\True))))))))))))
def X4:∀y,RU y=QmK y:=λy=>by kernel_rfl
theorem RV {s:bZ} (h:(nn s).an=(nn y.2).an):gM (y.1,s)=gM y:=by grind [gM]
theorem RW {s:bZ} (h:(nn s).an=(nn y.2).an):lvl (y.1,s)=lvl y:=by grind [lvl]
def xb (y:PS):l5 y.1 (gM y):=uS _
structure PsF (G:List Gt) (s:bZ):Prop where
 ok:bs (G,s)
 a:fL G (nn s) (nn s)
 zi:((nn s).i:Int)=s.i
 zo:((nn s).an:Int)=s.an
 zg:((nn s).ae:Int)=s.ae
 len:G.length<=4096
 il:(nn s).i<=G.length
 ol:(nn s).an<=20
 gl:(nn s).ae<=4
variable {G:List Gt} {Z:Nat} {s:Ps} {Y:bZ} {y:PS} {A:Ps->Ps×List Nd} {l:List (List Nd)}
def bs.f {s:bZ} (h:bs (G,s)):PsF G s:=by
 obtain⟨b1,a,b,c,_⟩:G.length<=4096/\(0<=s.i/\s.i<=G.length)/\(0<=s.an/\s.an<=20)/\(0<=s.ae/\s.ae<=4)/\_:=id h;exact⟨h,h.adv,Zby a.1,Zby b.1,Zby c.1,b1,by show s.i.toNat<=_;omega,by show s.an.toNat<=_;omega,by show s.ae.toNat<=_;omega⟩
theorem GM (h:s.aq≠0\/a8 G s 124=false):fS G A Z s l=(s,l):=by
 cases Z with
 | zero=>rfl
 | succ Z=>
  grind [fS]
def X5 (h:bs y):qB y=Dh y.1 (gM y) (nn y.2):=by
 have:=(bs.f (G:=y.1) (s:=y.2) h).ol;unfold qB gM;rw[show 21-(nn y.2).an=(20-(nn y.2).an)+1 by omega];rfl
theorem QmN (y:PS) (C:GL.pre y):RQ y:=by
 obtain⟨h0,_⟩:bs y/\True:=C;have f:=bs.f (G:=y.1) (s:=y.2) h0;have⟨c1,c2⟩:=l6 (xb y) f.il f.gl;have u:=X5 h0;have q:qB y=((fS y.1 (gM y) (y.1.length+2-(mj y).1.i) (mj y).1 [(mj y).2]).1,bU 4 (fS y.1 (gM y) (y.1.length+2-(mj y).1.i) (mj y).1 [(mj y).2]).2):=u;unfold RQ;simp only[bH,ez,av,a7,bm,nJ,l9];refine⟨⟨h0,by grind⟩,⟨(zz (mj y).1,[(mj y).2]),rfl,rfl,rfl,rfl,rfl,rfl,h0.of c1,c1.op,c1.le,by simp,?_,_,λ_=>?_,rfl⟩,λx B=>?_⟩
 ·show total [(mj y).2]+2*1<=_
  have e:total [(mj y).2]=(mj y).2.length:=by simp[total]
  have c3:(mj y).2.length<=3*((mj y).1.i-(nn y.2).i)+1:=c2;show _<=3*((mj y).1.i-(nn y.2).i)+3
  omega
 ·have:(mj y).1.i<=y.1.length:=c1.len;show _<=_+(mj y).1.i
  omega
 ·have⟨s,b⟩:=x;have⟨p,c,D,H,I,n,z,r⟩:=B;simp only at*
  have g:=p.f;rw[<-r] at q;have A:b.length<=10000/\total b<=20000:=by have:=g.il;have:=g.len;omega
  have cs:s.aq≠0\/a8 y.1 (nn s) 124=false->qB y=(nn s,bU 4 b):=λh=>by rw[q,GM h]
  refine⟨λl=>⟨p,λj=>?_,λj=>?_⟩,λl=>?_⟩
  ·have o:=cW j;have a3:=g.a.next o;have hs:bj y.1 (nn s) 124=(nn s).next:=Zac j;have t:bs (y.1,⟨(nn s).next.i,(nn s).next.an,(nn s).next.ae,(nn s).next.aq,(nn s).next.wh⟩):=p.of a3;have d:(nn s).next.an=(nn y.2).an:=c;have v:=RV (y:=y) (s:=⟨(nn s).next.i,(nn s).next.an,(nn s).next.ae,(nn s).next.aq,(nn s).next.wh⟩) d;have w:=RW (y:=y) (s:=⟨(nn s).next.i,(nn s).next.an,(nn s).next.ae,(nn s).next.aq,(nn s).next.wh⟩) d;have⟨k,E⟩:=l6 (xb y) (s:=(nn s).next) a3.len a3.gm;rw[hs,v,w];have F:(nn s).next.i<=(l3 y.1 (gM y) (nn s).next).1.i:=k.le;have J:(nn s).next.i=(nn s).i+1:=rfl;refine⟨⟨t,ω⟩,?_,(zz (l3 y.1 (gM y) (nn s).next).1,b++[(l3 y.1 (gM y) (nn s).next).2]),rfl,rfl,rfl,rfl,rfl,rfl,⟨t.of k,k.op.trans c,?_,by simp,?_,?_⟩,?_⟩
   ·grind
   ·show _<=(l3 y.1 (gM y) (nn s).next).1.i;omega
   ·show total (b++[_])+2*(b++[_]).length<=3*((l3 y.1 (gM y) (nn s).next).1.i-_)+3
    grind [fT]
   ·obtain⟨m,rfl⟩:∃m,n=m+1:=⟨n-1,ω⟩;refine⟨m,λ_=>by show _<=m+(l3 y.1 (gM y) (nn s).next).1.i;omega,?_⟩;rw[<-r]
    conv=>rhs;unfold fS
    rw[Zac ⟨l,j⟩];rfl
   ·show 2*(y.1.length-(l3 y.1 (gM y) (nn s).next).1.i)+(if (l3 y.1 (gM y) (nn s).next).1.aq=0 then 1 else 0)<2*(y.1.length-(nn s).i)+(if s.aq=0 then 1 else 0)
    grind
  ·grind [bj]
  ·rw[cs (.inl l)];exact⟨⟨ω,ω⟩,rfl,g.zi.symm,g.zo.symm,g.zg.symm,rfl,rfl⟩
theorem qC {r:Int} (h:a8 G s r):bj G s r=s.next:=Zac h
theorem qD {r:Int} (h:a8 G s r=false):bj G s r=s:=Zaa (by grind)
theorem GN (h:¬(s.aq=0/\s.i<G.length/\a8 G s 124=false/\¬(a8 G s 41/\0<s.an))):ej G A Z s l=(s,l):=by
 cases Z with
 | zero=>rfl
 | succ Z=>unfold ej;rw[Zaa h]
theorem QmO (y:PS) (A:Mi.pre y):RR y:=by
 obtain⟨h0,_⟩:bs y/\True:=A;unfold RR;simp only[bI,bH,ez,av,a7,bm,Zan,Zao];refine⟨⟨(y.2,[]),rfl,rfl,rfl,rfl,rfl,rfl,h0,rfl,Zah _,by simp[total],by simp,_,λ_=>?_,rfl⟩,λx w=>?_⟩
 ·grind
 ·have⟨s,a⟩:=x;have⟨e,b,B,H,I,n,u,o⟩:=w;simp only at*
  have g:=e.f;have F:=g.il;have G:=g.len;have zi:=g.zi;have zo:=g.zo;have v:a.length<=10000/\total a<=20000:=by grind
  rw[pni,<-o];have E:=RV (y:=y) (s:=s) b;have q:=RW (y:=y) (s:=s) b;have r:yw (y.1,s)=fb y.1 (gM y) (nn s):=by grind [yw]
  rw[r,q];have stop:¬((nn s).aq=0/\(nn s).i<y.1.length/\a8 y.1 (nn s) 124=false/\¬(a8 y.1 (nn s) 41/\0<(nn s).an))->(total a<=100000/\a.length<=100000)/\bU 3 a=bU 3 (ej y.1 (gM y) n (nn s) a).2/\s.i=((ej y.1 (gM y) n (nn s) a).1.i:Int)/\s.an=((ej y.1 (gM y) n (nn s) a).1.an:Int)/\s.ae=((ej y.1 (gM y) n (nn s) a).1.ae:Int)/\s.aq=(ej y.1 (gM y) n (nn s) a).1.aq/\s.wh=(ej y.1 (gM y) n (nn s) a).1.wh:=λh=>by
   rw[GN h];exact⟨⟨ω,ω⟩,rfl,zi.symm,zo.symm,g.zg.symm,rfl,rfl⟩
  have go:s.aq=0->s.i<y.1.length->a8 y.1 (nn s) 124=false->¬(a8 y.1 (nn s) 41/\0<s.an)->((bs (y.1,s)/\E5 (y.1,s))/\lvl y+2<lvl y+3)/\((a++[(fb y.1 (gM y) (nn s)).2]).length:Int)*(24:Nat)<=140737488355328/\∃z:bZ×List (List Nd),a++[(fb y.1 (gM y) (nn s)).2]=z.2/\((fb y.1 (gM y) (nn s)).1.i:Int)=z.1.i/\((fb y.1 (gM y) (nn s)).1.an:Int)=z.1.an/\((fb y.1 (gM y) (nn s)).1.ae:Int)=z.1.ae/\(fb y.1 (gM y) (nn s)).1.aq=z.1.aq/\(fb y.1 (gM y) (nn s)).1.wh=z.1.wh/\RP y z/\DL y z<DL y (s,a):=λh1 c d j=>by
   have hl:(nn s).i<y.1.length:=ω;have⟨l,p,C⟩:=wD (xb y) hl g.gl;have D:(nn s).i<=(fb y.1 (gM y) (nn s)).1.i:=l.le;refine⟨⟨⟨e,c⟩,ω⟩,?_,(zz (fb y.1 (gM y) (nn s)).1,a++[(fb y.1 (gM y) (nn s)).2]),rfl,rfl,rfl,rfl,rfl,rfl,⟨e.of l,l.op.trans b,?_,?_,?_,?_⟩,?_⟩
   ·grind
   ·show _<=(fb y.1 (gM y) (nn s)).1.i;omega
   ·show total (a++[_])<=3*((fb y.1 (gM y) (nn s)).1.i-_)
    rw[fT];omega
   ·show(a++[_]).length<=(fb y.1 (gM y) (nn s)).1.i-_+(if (fb y.1 (gM y) (nn s)).1.aq=0 then 0 else 1)
    grind
   ·obtain⟨m,rfl⟩:∃m,n=m+1:=⟨n-1,ω⟩;refine⟨m,λh=>by have:=p h;show _<=m+(fb y.1 (gM y) (nn s)).1.i;omega,?_⟩;rw[<-o]
    conv=>rhs;unfold ej
    rw[Zac ⟨h1,hl,d,λh=>j ⟨h.1,ω⟩⟩];rfl
   ·show 2*(y.1.length-(fb y.1 (gM y) (nn s)).1.i)+(if (fb y.1 (gM y) (nn s)).1.aq=0 then 1 else 0)<2*(y.1.length-(nn s).i)+(if s.aq=0 then 1 else 0)
    grind
  refine⟨λh1=>⟨λc=>⟨e,λd=>⟨e,λj=>⟨λt=>go h1 c d ω,λt=>stop λk=>k.2.2.2 ⟨j,ω⟩⟩,λj=>go h1 c d λk=>?_⟩,λd=>stop λk=>?_⟩,λc=>stop λk=>?_⟩,λh1=>stop λk=>h1 k.1⟩
  ·grind
  ·grind
  ·omega
def ez2 (a b c:Nat) (e w:Int):nn ⟨a,b,c,e,w⟩=⟨a,b,c,e,w⟩:=rfl
theorem QcV {y:PS} (h:uj y):yw y=nc y.1 (oP y).1 (oP y).2.1 (oP y).2.2 (dD y).2:=by
 have⟨h1,a⟩:=h;show fb y.1 (gM y) (nn y.2)=_
 unfold fb oP;grind [dD]
theorem QcW {y:PS} (h1:(dD y).1.aq=0) (a:a8 y.1 (dD y).1 42=false) (b:a8 y.1 (dD y).1 43=false) (c:a8 y.1 (dD y).1 63=false) (d:a8 y.1 (dD y).1 123=false):yw y=dD y:=by
 show fb y.1 (gM y) (nn y.2)=_
 grind [fb,dD]
theorem X6 {y:PS} (h1:(dD y).1.aq≠0):yw y=((dD y).1,[]):=by
 show fb y.1 (gM y) (nn y.2)=_
 grind [fb,dD]
theorem QmP (y:PS) (e:Mj.pre y):RS y:=by
 obtain⟨h0,hi⟩:bs y/\y.2.i<y.1.length:=e;have f:=bs.f (G:=y.1) (s:=y.2) h0;have zi:=f.zi;obtain⟨a,a2,a3⟩:fL y.1 (nn y.2) (dD y).1/\((dD y).1.aq=0->(nn y.2).i<(dD y).1.i)/\(dD y).2.length<=3*((dD y).1.i-(nn y.2).i):=zu (xb y) ω f.gl;have o:=h0.of a;have a4:=a.len;have len:=f.len;have j:uj y->bs (y.1,⟨(oP y).1.i,(oP y).1.an,(oP y).1.ae,(oP y).1.aq,(oP y).1.wh⟩):=λ⟨_,h⟩=>h0.of (by
  unfold oP;split
  ·exact a.next (cW ‹_›)
  ·split
   ·exact a.next (cW ‹_›)
   ·split
    ·exact a.next (cW ‹_›)
    ·refine(wC a ?_).1;rcases h with h | h | h | h<;>exact cW h)
 have i2:∀r,a8 y.1 (dD y).1 r->(dD y).1.i<y.1.length:=λr h=>cW h
 have L:lvl y+1<lvl y+2:=ω;unfold RS;simp only[bH,ez,av,a7,bm,nJ,l9,ZaZ,ZaY,Zan,Zao];have m:=@QcW y;have n:=@X6 y;have g:=@QcV y;refine⟨⟨⟨h0,hi⟩,L⟩,λb=>?_,λb=>⟨?_,λc=>?_⟩⟩
 ·grind
 ·have p:a8 y.1 (dD y).1 42->uj y:=λh=>⟨b,.inl h⟩
  have q:a8 y.1 (dD y).1 43->uj y:=λh=>⟨b,.inr (.inl h)⟩
  have t:a8 y.1 (dD y).1 63->uj y:=λh=>⟨b,.inr (.inr (.inl h))⟩
  have u:a8 y.1 (dD y).1 123->uj y:=λh=>⟨b,.inr (.inr (.inr h))⟩
  have l:oP y=if a8 y.1 (dD y).1 42 then((dD y).1.next,0,-1) else if a8 y.1 (dD y).1 43 then((dD y).1.next,1,-1) else if a8 y.1 (dD y).1 63 then((dD y).1.next,0,1) else fR y.1 (dD y).1:=rfl
  grind [E5,qC,qD]
 ·rw[g c];have d:=j c;unfold nc;refine⟨λk=>by grind,λk=>?_⟩;rw[Zaa ω];exact⟨d,by grind,rfl,rfl,rfl,rfl,rfl,rfl⟩
theorem QmQ (y:PS) (j:RN.pre y):RT y:=by
 obtain⟨h0,hi⟩:bs y/\y.2.i<y.1.length:=j;have⟨d,m,hl,k,o⟩:=h0.XX hi;have f:=bs.f (G:=y.1) (s:=y.2) h0;have i0:0<=y.2.i:=h0.2.1.1;have zi:=f.zi;have b:y.2.i+1=((nn y.2).next.i:Int):=by simp_all
 have zo:=f.zo;have zg:=f.zg;have a:dD y=iJ y.1 (gM y) (nn y.2):=rfl;unfold iJ at a;have g:(y.1.getD (nn y.2).i (0,0)).1=aJ y.1 (nn y.2).i:=rfl;have l:gP y.1 (gM y) (nn y.2)=ml y:=rfl;have c:DJ y=decide ((dT y.1 (nn y.2)).2.1=[]):=rfl;unfold RT;simp only[bI,bH,ez,av,d,pni,cS,E5];rw[g];generalize aJ y.1 (nn y.2).i=r at*
 generalize dD y=at_ at*
 cases e:eQ y.1 (nn y.2).i with
 | true=>
  grind []
 | false=>
  simp only[e,ZaE,Za0] at a;simp only[reduceCtorEq,ZbV,ZaX,Zal];refine⟨⟨h0,i0,hi⟩,i0,hi,λk1=>?_,λk1=>⟨λk2=>?_,λk2=>⟨λk3=>?_,λk3=>⟨λk4=>?_,λk4=>⟨λk5=>?_,λk5=>⟨λk6=>?_,λk6=>?_⟩⟩⟩⟩⟩⟩
  ·grind
  ·grind
  ·simp only[k1,k2,k3,Zbv,Za0] at a;subst a;refine⟨λh=>⟨⟨h0,hi,h.symm⟩,?_,rfl,rfl,rfl,rfl,rfl⟩,λh=>⟨⟨h0,hi,h.symm⟩,rfl,rfl,rfl,rfl,rfl,rfl⟩⟩;rw[h] at c;have:=ZaH c.symm;simp only[this];rfl
  ·simp only[k1,k2,k3,k4,Zbv,Za0] at a;subst a;exact⟨rfl,b,zo.symm,zg.symm,rfl,rfl⟩
  ·simp only[k1,k2,k3,k4,k5,Zbv,Za0] at a;subst a;exact⟨rfl,b,zo.symm,zg.symm,rfl,rfl⟩
  ·simp only[k1,k2,k3,k4,k5,k6,Zbv,Za0] at a;subst a;exact⟨rfl,b,zo.symm,zg.symm,rfl,rfl⟩
  ·have w:(r=42\/r=43\/r=63\/r=41\/r=93\/r=123\/r=125\/r=124)->at_=((nn y.2).ax y.1 (nn y.2).i 4,[]):=λh=>by grind
   have n:¬(r=42\/r=43\/r=63\/r=41\/r=93\/r=123\/r=125\/r=124)->at_=((nn y.2).next,[wz (dZ r)]):=λh=>by grind
   with_reducible repeat' first | apply And.intro | intro _
   all_goals first
    | assumption
    | (exfalso;omega)
    | (rw[w ω];done)
    | (rw[n ω];done)
    | (rw[n ω];first | rfl | exact b | exact zo.symm | exact zg.symm)
theorem JR {s:bZ} (h:(nn s).an=(nn y.2).an+1):qB (y.1,s)=gM y (nn s):=by
 unfold qB gM;grind
theorem RX (h:(nn Y).an=(nn y.2).an+1) (a:(nn y.2).an<20):lvl (y.1,Y)+4<lvl y:=by
 grind [lvl]
theorem JS {n:Nat} (h:n<=1000000):aw .i64 (n:Int) 1=((n+1:Nat):Int):=by grind
theorem zO (h:1<=Z) (a:Z<=1000000):cF .i64 (Z:Int) 1=((Z-1:Nat):Int):=by grind
structure Grp (y:PS) (s:Ps):Prop where
 a:fL y.1 (nn y.2) s
 o:s.an<20
theorem Grp.Qgu {y:PS} {s:Ps} {g:Nat} (h0:bs y) (h:Grp y s) (f:g=s.ae\/g=s.ae+1/\s.ae<4):bs (y.1,⟨s.i,((s.an+1:Nat):Int),(g:Int),s.aq,s.wh⟩):=by
 obtain⟨b1,c,d,e,b⟩:y.1.length<=4096/\(0<=y.2.i/\y.2.i<=y.1.length)/\(0<=y.2.an/\y.2.an<=20)/\(0<=y.2.ae/\y.2.ae<=4)/\Fx y.1:=h0;have:=h.a.len;have:=h.a.gm;have:=h.o;exact⟨b1,⟨ZaF _,by grind⟩,⟨ZaF _,by grind⟩,⟨ZaF _,by grind⟩,b⟩
theorem Grp.out {y:PS} {s:Ps} {g:Nat} (h0:bs y) (h:Grp y s) (j:g=s.ae\/g=s.ae+1/\s.ae<4):∀a,a=gM y ⟨s.i,s.an+1,g,s.aq,s.wh⟩->a.1.an=s.an+1/\fL y.1 (nn y.2) { a.1 with an:=a.1.an-1 }/\a.2.length<=20000:=λa b=>by
 have h1:=h.a.len;have c:=h.a.gm;have⟨c1,c2⟩:=xb y ⟨s.i,s.an+1,g,s.aq,s.wh⟩ h1 (by grind);rw[<-b] at c1 c2;have c3:a.1.an=s.an+1:=c1.op;have c5:=c1.len;have c6:s.i<=a.1.i:=c1.le;have c7:g<=a.1.ae:=c1.gr;have c8:y.1.length<=4096:=h0.1;have d:=h.a.le;have e:=h.a.op;have f:=h.a.gr;exact⟨c3,⟨by grind,c5,by grind,by grind,c1.gm⟩,ω⟩
def zP (G:List Gt) (c:Nat) (a:Ps×List Nd) (l:List Nd):Ps×List Nd:=
 let b:Ps:={ a.1 with an:=a.1.an-1 }
 if b.aq=0/\a8 G b 41=false then(b.ax G c 4,[]) else(if b.aq=0 then b.next else b,l)
theorem QmR (y:PS) (Q:RO.pre y):RU y:=by
  obtain⟨h0,hi⟩:bs y/\y.2.i<y.1.length:=Q;have⟨M,P,hl,w,R⟩:=h0.XX hi;have i0:0<=y.2.i:=h0.2.1.1;have H:∀free,a8 y.1 (nn y.2).next 63=free->ml y=
      (let A:=if free then(nn y.2).next.next else(nn y.2).next
       if free/\a8 y.1 A 58=false then(A.ax y.1 (nn y.2).i 4,[])
       else
        let s3:=if free then A.next else A
        if 20<=s3.an then(s3.ax y.1 (nn y.2).i 10,[])
        else if free=false/\4<=s3.ae then(s3.ax y.1 (nn y.2).i 13,[])
        else
          let g:=if free then s3.ae else s3.ae+1
          let a:=gM y ⟨s3.i,s3.an+1,g,s3.aq,s3.wh⟩
          zP y.1 (nn y.2).i a (if free then a.2 else { nd 6 with cap:=g,af:=1 }::a.2)):=λfree h=>by
    show gP y.1 (gM y) (nn y.2)=_
    grind [gP,zP]
  have v:∀(a:Ps) (b:Ps×List Nd),b.1=a->(a.i:Int)=b.1.i/\(a.an:Int)=b.1.an/\(a.ae:Int)=b.1.ae/\a.aq=b.1.aq/\a.wh=b.1.wh:=λa b h=>by grind
  
  have L:∀(s:Ps) (g:Nat) (a:Ps×List Nd) (r l:List Nd),Grp y s->(g=s.ae\/g=s.ae+1/\s.ae<4)->a=gM y ⟨s.i,s.an+1,g,s.aq,s.wh⟩->ml y=zP y.1 (nn y.2).i a l->r=l->
      cF .i64 (a.1.an:Int) 1=((a.1.an-1:Nat):Int)/\((r.length:Int)*(72:Nat)<=140737488355328\/a.2.length+1<r.length)/\
      (a.1.aq=0->bs (y.1,⟨a.1.i,((a.1.an-1:Nat):Int),a.1.ae,a.1.aq,a.1.wh⟩)/\
        (a8 y.1 { a.1 with an:=a.1.an-1 } 41=false->[]=(ml y).2/\(ml y).1=Ps.ax y.1 { a.1 with an:=a.1.an-1 } (nn y.2).i 4)/\
        (a8 y.1 { a.1 with an:=a.1.an-1 } 41->r=(ml y).2/\(ml y).1=Ps.next { a.1 with an:=a.1.an-1 }))/\
      (a.1.aq≠0->r=(ml y).2/\(ml y).1={ a.1 with an:=a.1.an-1 }):=λs g a r l I z p O U=>by
    have⟨c1,c2,c3⟩:=I.out h0 z a p;have c4:=I.o;unfold zP at O;refine⟨zO ω ω,ω,λk=>⟨h0.of c2,λk2=>?_,λk2=>?_⟩,λk=>?_⟩
    all_goals grind
  unfold RU;simp only[bI,bH,M,P,ez,pni,av,a7,bm,Zan,Zao,Zbn];generalize (nn y.2).next=c at*
  refine⟨R,λu=>?_,λu=>?_⟩
  · have e:=H true u;have a2:=w.next (cW u);have J:=h0.of a2;rw[qC u];refine⟨J,λt=>?_,λt=>?_⟩
    · rw[qD t];rw[show ml y=(c.next.ax y.1 (nn y.2).i 4,[]) by rw[e];exact Zac ⟨rfl,t⟩];exact⟨⟨J,i0,hi⟩,rfl,rfl,rfl,rfl,rfl,rfl⟩
    · have a3:=a2.next (cW t);have S:=h0.of a3;have e:=e.trans (Zaa (λq=>by rw[Zac rfl,t] at q;cases q.2));rw[qC t];refine⟨λm=>?_,λm=>?_⟩
      · rw[show ml y=(c.next.next.ax y.1 (nn y.2).i 10,[]) from e.trans (Zac (show 20<=c.next.next.an by omega))];exact⟨⟨S,i0,hi⟩,rfl,rfl,rfl,rfl,rfl,rfl⟩
      · have G:Grp y c.next.next:=⟨a3,ω⟩;have e:=(e.trans (Zaa (show ¬20<=c.next.next.an by omega))).trans (Zaa (λq=>by cases q.1));have op:c.next.next.an+1=(nn y.2).an+1:=by rw[a3.op]
        rw[JS ω,JR (y:=y) (s:=⟨(c.next.next.i:Nat),((c.next.next.an+1:Nat):Int),(c.next.next.ae:Nat),c.next.next.aq,c.next.next.wh⟩) op,ez2];generalize p:gM y ⟨c.next.next.i,c.next.next.an+1,c.next.next.ae,c.next.next.aq,c.next.next.wh⟩=a;have e:ml y=zP y.1 (nn y.2).i a a.2:=by rw[e,<-p];rfl
        have⟨B,_,C,D⟩:=L _ _ a a.2 a.2 G (.inl rfl) p.symm e rfl;rw[B,ez2];refine⟨⟨G.Qgu h0 (.inl rfl),RX op ω⟩,λk=>?_,λk=>?_⟩
        · have⟨x,E,F⟩:=C k;refine⟨x,λj=>?_,λj=>?_⟩
          · rw[qD j];have⟨d,f⟩:=E j;exact⟨⟨x,i0,hi⟩,d,v _ _ f⟩
          · rw[qC j];have⟨d,f⟩:=F j;exact⟨d,v _ _ f⟩
        · have⟨d,f⟩:=D k;exact⟨d,v _ _ f⟩
  · have e:=H false u;rw[qD u];refine⟨λm=>?_,λm=>⟨λN=>?_,λN=>?_⟩⟩
    · rw[show ml y=(c.ax y.1 (nn y.2).i 10,[]) from e.trans (Zac (show 20<=c.an by omega))];exact⟨⟨h0.of w,i0,hi⟩,rfl,rfl,rfl,rfl,rfl,rfl⟩
    · rw[show ml y=(c.ax y.1 (nn y.2).i 13,[]) from(e.trans (Zaa (show ¬20<=c.an by omega))).trans (Zac ⟨rfl,show 4<=c.ae by omega⟩)];exact⟨⟨h0.of w,i0,hi⟩,rfl,rfl,rfl,rfl,rfl,rfl⟩
    · have G:Grp y c:=⟨w,ω⟩;have e:=(e.trans (Zaa (show ¬20<=c.an by omega))).trans (Zaa (λq=>by have:4<=c.ae:=q.2;omega));have op:c.an+1=(nn y.2).an+1:=by rw[w.op]
      have z:c.ae+1=c.ae\/c.ae+1=c.ae+1/\c.ae<4:=.inr ⟨rfl,ω⟩;rw[JS (n:=c.an) ω,JS (n:=c.ae) ω,JR (y:=y) (s:=⟨(c.i:Nat),((c.an+1:Nat):Int),((c.ae+1:Nat):Int),c.aq,c.wh⟩) op,ez2];generalize p:gM y ⟨c.i,c.an+1,c.ae+1,c.aq,c.wh⟩=a;have e:ml y=zP y.1 (nn y.2).i a ({ nd 6 with cap:=((c.ae+1:Nat):Int),af:=1 }::a.2):=by rw[e,<-p];rfl
      have⟨B,T,C,D⟩:=L _ _ a ([Nd.mk 6 [] 0 0 false ((c.ae+1:Nat):Int) 1]++a.2) _ G z p.symm e rfl;have K:((([Nd.mk 6 [] 0 0 false ((c.ae+1:Nat):Int) 1]++a.2).length:Nat):Int)*(72:Nat)<=140737488355328:=by
        rcases T with h | h
        · exact h
        · rw[Zab,ZbA] at h;omega
      rw[B,ez2];refine⟨⟨G.Qgu h0 z,RX op ω⟩,λk=>?_,λk=>?_⟩
      · have⟨x,E,F⟩:=C k;refine⟨x,λj=>?_,λj=>?_⟩
        · rw[qD j];have⟨d,f⟩:=E j;exact⟨⟨x,i0,hi⟩,d,v _ _ f⟩
        · rw[qC j];have⟨d,f⟩:=F j;exact⟨K,d,v _ _ f⟩
      · have⟨d,f⟩:=D k;exact⟨K,d,v _ _ f⟩
inductive Fm where
 | aG | cat | rep | yx | uk
variable {G:List Gt}
def fmC:Fm->br D
 | .aG=>GL | .cat=>Mi | .rep=>Mj | .yx=>RN | .uk=>RO
def QmS:∀i,(fmC i).Y->Nat
 | .aG=>λy=>lvl y+4 | .cat=>λy=>lvl y+3 | .rep=>λy=>lvl y+2 | .yx=>λy=>lvl y+1 | .uk=>λy=>lvl y
def fmF:Fm->Func
 | .aG=>f59 | .cat=>f100 | .rep=>f141 | .yx=>f176 | .uk=>f197
def Qgv:Fm->tI
 | .aG=>[sV,yu] | .cat=>[V',yu] | .rep=>[sV,V',GJ] | .yx=>[yr,pR,GI,yv,Rj,DI] | .uk=>[sV,pR]
def fmO:∀i,(fmC i).Y->cO D
 | .aG=>Qgq | .cat=>Qgr | .rep=>Qgs | .yx=>λ_=>ew () | .uk=>λ_=>ew ()
def fmL:List Fm:=[.aG,.cat,.rep,.yx,.uk]
set_option maxRecDepth 100000 in
theorem QmT (b:Ok dr) (c:Ok w_):∀i,Ok (fmC i):=
 wJ fmL fmC QmS (fn:=fmF) (tab:=Qgv) (iH:=fmO)
  (λi=>match i with
   | .aG=>⟨zM,Qaw⟩ | .cat=>⟨isOk,Qaw⟩ | .rep=>⟨zM,isOk,Qgn c⟩ | .yx=>⟨Rx,tQ,Qgo b,Qay b,okZ [Gg] f200 (λ_=>ew ()) (Qap b) Qml,Qav b⟩ | .uk=>⟨zM,tQ⟩)
  (λi=>match i with
   | .aG=>by kernel_rfl | .cat=>by kernel_rfl | .rep=>by kernel_rfl | .yx=>by kernel_rfl | .uk=>by kernel_rfl)
  (λi=>match i with
   | .aG=>by kernel_rfl | .cat=>by kernel_rfl | .rep=>by kernel_rfl | .yx=>by kernel_rfl | .uk=>by kernel_rfl)
  λi=>match i with
   | .aG=>λy a=>Eq.mp (X0 y) (QmN y a) | .cat=>λy a=>Eq.mp (X1 y) (QmO y a) | .rep=>λy a=>Eq.mp (X2 y) (QmP y a) | .yx=>λy a=>Eq.mp (X3 y) (QmQ y a) | .uk=>λy a=>Eq.mp (X4 y) (QmR y a)
def b_ (y:By):List Nd×Int×Int:=if 120<y.length then([],2,0) else wA (bb y)
def yy:br D:=bL 36 By (λa _=>XA a) (λ_=>True) (λy=>[.str y]) λy=>.tuple [.list 7 (b_ y).1,QsE (b_ y).2.1,QsE (b_ y).2.2]
def X7 (y:By) (x:Nat):Prop:=x<=(bb y).length
def QmU (y:yy.Y):cO D:=⟨[],[],[(250,⟨Nat,[21,22],λx=>[(5,.ptr 0 0),(6,QsE (aO (bb y) x)),(23,QsE x)],[],λx=>[(0,.cells [.list 13 (bb y),.grow 5 ((bM (bb y)).take x) 1,QsE 0,QsE 0,QsE 0,QsE 0,QsE 0] 138 false),(1,.tok 5 3)],2,X7 y,λx=>(bb y).length-x⟩)],[],1,[]⟩
def RY (y:List UInt8):Prop:=let a:=bb y;let q1:=bM a;let m:=a.length;let n:=ag a;let o:=(b_ y).2.1;let q:=(b_ y).2.2;let r:=ej a (qq a 20) ((m+2) -0) (nn (bZ.mk 0 0 0 0 0)) [];let b:=fS a (qq a 20) ((m+2) -r.1.i) r.1 [bU 3 r.2];let d:=((b.1.i:Nat):Int);let s:=((b.1.an:Nat):Int);let f:=((b.1.ae:Nat):Int);let g:=aC b.1.aq 0;let h:=bZ.mk d s f b.1.aq b.1.wh;let c:=Ps.ax a (nn h) d.toNat 4;let e:=λp:Prop=>aa ([0,0,0,0,0]:List Int) p;let j:Prop:=(bU 4 b.2=(b_ y).1/\0=o/\0=q/\True);let k:Prop:=(ak (!g) (RAM b.1.aq b.1.wh ([]=(b_ y).1/\b.1.aq=o/\b.1.wh=q/\True)) (j));ak (ay 120 (dL y)) ([]=(b_ y).1/\2=o/\0=q/\True) (Iv (y.length<=1000000)/\RAL y ((∃z:Nat,aa [a] (aa [n] (0=aO a z/\0=(z:Int)/\aa [a] ([]=List.take z q1/\e ((Iv (X7 y z)))))))/\(∀x:Nat,let l:=bC (List.take x q1) [aO a x];(Iv (X7 y x))->ak (ay (x:Int) n) (aH 0 (x:Int)/\ay (x:Int) n/\bx (ag l) 8/\∃z:Nat,aa [a] (aa [n] (aw .i64 (aO a x) (gt (0,0) a (x:Int).toNat).2=aO a z/\aw .i64 (x:Int) 1=(z:Int)/\aa [a] (l=List.take z q1/\e ((Iv (X7 y z/\(m-z)<(m-x)))))))) (Iv (bs (a,bZ.mk 0 0 0 0 0)/\True)/\aa [a] (List.take x q1=q1/\e (ak g (aa [b.1.aq,d] (aa [a] (ak (ay d n) (Iv (bs (a,h)/\0<=d/\d<(m:Int))/\aa ([d,4]:List Int) (aa [a] (aa [q1] (aa [d,s,f,b.1.aq,b.1.wh] (ak (!(aC c.aq 0)) (aa [c.aq,c.wh] ([]=(b_ y).1/\c.aq=o/\c.wh=q/\True)) (j)))))) (k)))) (aa [b.1.aq] (k))))))))
theorem ni:∀(n:Nat) (l:By),(ig n l).length<=l.length/\∀g∈ig n l,1<=g.2/\g.2<=4
 | 0,l=>⟨by grind [ig],λg h=>by grind [ig]⟩
 | n+1,l=>by
  by_cases h:l=[]
  ·grind [l_]
  ·have d:=Zbe.2 h;rcases ko l with h0 | ⟨m,a,h1,b,c⟩
   ·rw[ma h h0];obtain⟨i1,i2⟩:=ni n (l.drop 1);grind
   ·rw[oH h a h1];obtain⟨i1,i2⟩:=ni n (l.drop m);grind
def DM (y:By):(bb y).length<=y.length:=(ni _ y).1
theorem gR {i:Nat} (h:i<G.length):aO G (i+1)=aO G i+(G.getD i (0,0)).2:=by
 grind [aO,List.take_succ]
theorem xc (a:∀g∈G,1<=g.2/\g.2<=4):∀i,i<=G.length->0<=aO G i/\aO G i<=4*i
 | 0,_=>by simp[aO]
 | i+1,h=>by
  have:=xc a i ω;grind [gR]
theorem QmW (y:By) (p:yy.pre y):RY y:=by
 have hl:=DM y;have w:=(ni y.length y).2;have m:=xc (G:=bb y) w;obtain⟨b,_⟩:=uS (G:=bb y) 21 Oa (Zaj _) (Zaj _);have v:=F5 y;unfold RY;simp only[bI,bH,ez,av,lb,a7,bm,Zad,Zan,Zao,cS];obtain⟨c,n⟩:∃c,ej (bb y) (qq (bb y) 20) ((bb y).length+2-0) (nn ⟨0,0,0,0,0⟩) []=c:=⟨_,rfl⟩;rw[n];obtain⟨d,o⟩:∃d,fS (bb y) (qq (bb y) 20) ((bb y).length+2-c.1.i) c.1 [bU 3 c.2]=d:=⟨_,rfl⟩;rw[o];have u:qq (bb y) 21 Oa=(d.1,bU 4 d.2):=by rw[<-o,<-n];rfl
 rw[u] at b;have r:=b.len;have f:=b.op;have t:=b.gm;simp only at r f t;have f:d.1.an=0:=f;have B:120<y.length->b_ y=([],2,0):=λh=>Zac h
 obtain⟨s,hs⟩:∃s,(if d.1.aq=0/\d.1.i<(bb y).length then d.1.ax (bb y) d.1.i 4 else d.1)=s:=⟨_,rfl⟩;have k:¬120<y.length->b_ y=if s.aq≠0 then([],s.aq,s.wh) else(bU 4 d.2,0,0):=λh=>by
  grind [b_,wA]
 have A:=eU (G:=bb y) d.1 d.1.i (e:=4) (by decide);refine⟨λh=>by grind,λh=>⟨ω,⟨0,by rfl,rfl,by simp,Zaj _⟩,λx C=>⟨λl=>?_,λl=>?_⟩⟩⟩
 ·have a:x<(bb y).length:=ω;have b1:=m x ω;have q:=m (x+1) ω;rw[gR a] at q;have z:=wZ (bb y);refine⟨ω,l,by simp;omega,x+1,?_,ba ω ω,?_,by assumption,ω⟩
  ·rw[ba ω ω,gR a]
  ·rw[ZbE,Zaf ω];have:=JP a 0;grind
 ·have k:=k ω;have V8:bs (bb y,⟨0,0,0,0,0⟩):=⟨by grind,⟨ZaQ _,by grind⟩,⟨ZaQ _,by grind⟩,⟨ZaQ _,by grind⟩,v⟩;have j:bs (bb y,⟨d.1.i,d.1.an,d.1.ae,d.1.aq,d.1.wh⟩):=V8.of b;refine⟨V8,?_,λg=>⟨λhi=>⟨⟨j,ω,hi⟩,λhw=>?_,λhw=>absurd hw A⟩,λhi=>⟨λhw=>absurd g hw,λ_=>?_⟩⟩,λg=>⟨λ_=>?_,λhw=>absurd hw g⟩⟩
  ·grind [List.take_of_length_le,wZ]
  ·grind
  ·grind
  ·grind
def QaA (b:Ok dr) (a:Ok w_):Ok yy:=okZ [F8,GL,pR] f36 QmU ⟨Qfn,QmT b a .aG,tQ⟩ QmW
end
end sx
namespace syn
open Go Go.RowKit cls
def ij (x:Nd):Bool:=(x.op==2||x.r.length==0)&&(x.op==5||(x.mn==0&&x.mx==0&&!x.lz))&&(x.op==6||x.cap==0)
def b9 (x:Nd) (g:Int):Int×Bool:=
 if ij x=false then(0,false)
 else if x.op=1\/x.op=7\/x.op=8 then(0,x.af==0)
 else if x.op=2 then(0,x.af==0&&decide (x.r=aV x.r))
 else if x.op=3\/x.op=4 then(x.af,decide (2<=x.af))
 else if x.op=5 then(1,x.af==1&&decide (0<=x.mn)&&decide (x.mn<=30)&&(x.mx==-1||(decide (x.mn<=x.mx)&&decide (x.mx<=30))))
 else if x.op=6 then(1,x.af==1&&x.cap==g+1&&decide (x.cap<=4))
 else(0,false)
def fl (f:Nat->Nat->Bool×Nat×Nat):Nat->Nat->Nat->Bool×Nat×Nat
 | 0,a,g=>(true,a,g)
 | k+1,a,g=>if (f a g).1=false then f a g else fl f k (f a g).2.1 (f a g).2.2
def fm (L:List Nd):Nat->Nat->Nat->Bool×Nat×Nat
 | 0,a,g=>(false,a,g)
 | n+1,a,g=>if L.length<=a then(false,a,g) else
  if (b9 (L.getD a (nd 0)) g).2=false then(false,a,g) else fl (fm L n) (b9 (L.getD a (nd 0)) g).1.toNat (a+1) (if (L.getD a (nd 0)).op=6 then g+1 else g)
section
variable {Z:Nat->Option Nat}
def nj (x:Nd):Option Int:=
 let bare:=λ(r:List Rg) (mn mx:Int) (lz:Bool) (cap af:Int)=>decide (x.af=af)&&decide (x.mn=mn)&&decide (x.mx=mx)&&decide (x.lz=lz)&&decide (x.cap=cap)&&decide (x.r.length=r.length)
 if x.op=1\/x.op=7\/x.op=8 then(if bare [] 0 0 false 0 0 then some 0 else none)
 else if x.op=2 then(if x.r=aV x.r then(if bare x.r 0 0 false 0 0 then some 0 else none) else none)
 else if x.op=3\/x.op=4 then(if x.af<2 then none else if bare [] 0 0 false 0 x.af then some x.af else none)
 else if x.op=5 then(if x.mn<0\/30<x.mn\/30<x.mx\/x.mx< -1\/(0<=x.mx/\x.mx<x.mn) then none else if bare [] x.mn x.mx x.lz 0 1 then some 1 else none)
 else if x.op=6 then(if x.cap<1\/4<x.cap then none else if bare [] 0 0 false x.cap 1 then some 1 else none)
 else none
def mm (f:Nat->Option Nat):Nat->Nat->Option Nat
 | 0,a=>some a
 | k+1,a=>match f a with
  | none=>none
  | some b=>mm f k b
def fW (L:List Nd):Nat->Nat->Option Nat
 | 0,_=>none
 | n+1,a=>if L.length<=a then none else match nj (L.getD a (nd 0)) with
  | none=>none
  | some k=>mm (fW L n) k.toNat (a+1)
def gu:List Nd->Nat->Option Nat
 | [],g=>some g
 | x::l,g=>if x.op=6 then(if x.cap=(g:Int)+1 then gu l (g+1) else none) else gu l g
def dE (L:List Nd):Bool:=decide (1<=L.length)&&decide (L.length<=480)&&(fm L 241 0 0).1&&(fm L 241 0 0).2.1==L.length
def GO (L:List Nd):Bool:=decide (1<=L.length)&&decide (L.length<=480)&&(fW L 241 0==some L.length)&&(gu L 0).isSome
theorem Ml (x:Nd):ij x↔((x.op=2\/x.r=[])/\(x.op=5\/(x.mn=0/\x.mx=0/\x.lz=false))/\(x.op=6\/x.cap=0)):=by
 grind [ij]
theorem Mm (x:Nd) (g:Nat):((b9 x g).2↔(∃k,nj x=some k)/\(x.op=6->x.cap=(g:Int)+1))/\((b9 x g).2->nj x=some (b9 x g).1):=by
 grind [b9,nj,ij]
theorem qE:∀(l m:List Nd) (g:Nat),gu (l++m) g=(gu l g).bind (gu m)
 | [],m,g=>rfl
 | x::l,m,g=>by
  rw[Za1,gu,gu];split
  ·split
   ·exact qE l m _
   ·rfl
  ·exact qE l m g
def gg (L:List Nd) (a b g:Nat):Option Nat:=gu ((L.drop a).take (b-a)) g
def rP (L:List Nd) (a g:Nat):gg L a a g=some g:=by simp[gg,gu]
theorem lj (L:List Nd) {a b c:Nat} (g:Nat) (h1:a<=b) (d:b<=c):gg L a c g=(gg L a b g).bind λg=>gg L b c g:=by
 unfold gg;rw[<-qE];congr 1;rw[show c-a=(b-a)+(c-b) by omega,ZdW,ZbZ,show a+(b-a)=b by omega]
def DN (L:List Nd) {a:Nat} (g:Nat) (h:a<L.length):gg L a (a+1) g=if (L.getD a (nd 0)).op=6 then(if (L.getD a (nd 0)).cap=(g:Int)+1 then some (g+1) else none) else some g:=by
 unfold gg;have e:(L.drop a).take (a+1-a)=[L.getD a (nd 0)]:=by
  rw[show a+1-a=1 by omega,Zaq h,Zag,Zaf h];rfl
 rw[e];rfl
theorem mq (L:List Nd) (e:∀a b,Z a=some b->a<b/\b<=L.length):∀(k a b:Nat),a<=L.length->mm Z k a=some b->a<=b/\b<=L.length
 | 0,a,b,d,h=>by cases(show some a=some b from h);exact⟨Zah _,d⟩
 | k+1,a,b,d,h=>by
  rw[mm] at h;split at h
  ·cases h
  ·rename_i c g
   have h1:=e a c g;have i:=mq L e k c b h1.2 h;omega
theorem mr (L:List Nd):∀(n a b:Nat),fW L n a=some b->a<b/\b<=L.length
 | 0,a,b,h=>nomatch h
 | n+1,a,b,h=>by
  rw[fW] at h;split at h
  ·cases h
  ·split at h
   ·cases h
   ·rename_i hl _ _ _
    have:=mq L (mr L n) _ _ _ ω h;omega
def Qgw (L:List Nd) (f:Nat->Nat->Bool×Nat×Nat) (r:Nat->Option Nat):Prop:=∀a g,
 ((f a g).1->r a=some (f a g).2.1/\gg L a (f a g).2.1 g=some (f a g).2.2)/\(∀b c,r a=some b->gg L a b g=some c->f a g=(true,b,c))
theorem rQ (L:List Nd) {f:Nat->Nat->Bool×Nat×Nat} (h:Qgw L f Z) (l:∀a b,Z a=some b->a<b/\b<=L.length):∀(k a g:Nat),a<=L.length->
  ((fl f k a g).1->mm Z k a=some (fl f k a g).2.1/\gg L a (fl f k a g).2.1 g=some (fl f k a g).2.2)/\(∀b d,mm Z k a=some b->gg L a b g=some d->fl f k a g=(true,b,d))
 | 0,a,g,t=>⟨λ_=>⟨rfl,rP L a g⟩,λb d h1 i=>by
   cases(show some a=some b from h1);rw[rP] at i;cases i;rfl⟩
 | k+1,a,g,t=>by
  obtain⟨q,s⟩:=h a g;rw[fl,mm];constructor
  ·intro h1;by_cases m:(f a g).1=false
   ·grind
   ·rw[Zaa m] at h1 ⊢;obtain⟨q1,u⟩:=q (by grind);have j:=l _ _ q1;obtain⟨p1,p2⟩:=(rQ L h l k (f a g).2.1 (f a g).2.2 j.2).1 h1;grind [mq,lj]
  ·intro b d h1 i;split at h1
   ·cases h1
   ·rename_i c m
    have j:=l _ _ m;have n:=mq L l _ _ _ j.2 h1;rw[lj L g (Zcx j.1) n.1] at i;obtain⟨g1,o,p⟩:=ZdC.1 i;have e:=s c g1 m o;rw[e];simp only[Zb0,Za0];exact(rQ L h l k c g1 j.2).2 b d h1 p
theorem JT (L:List Nd):∀n,Qgw L (fm L n) (fW L n)
 | 0=>λa g=>⟨λh=>(by cases h),λb l h=>(by cases h)⟩
 | n+1=>λa g=>by
  have o:=JT L n;rw[fm,fW];by_cases hl:L.length<=a
  ·grind
  rw[Zaa hl,Zaa hl];obtain⟨hs,j⟩:=Mm (L.getD a (nd 0)) g;have c:=DN L g (show a<L.length by omega);generalize L.getD a (nd 0)=x at hs j c ⊢;constructor
  ·intro h1;by_cases r:(b9 x g).2=false
   ·grind
   ·rw[Zaa r] at h1 ⊢;have d:(b9 x g).2:=by grind
    rw[j d];obtain⟨p1,p2⟩:=(rQ L o (mr L n) _ _ _ ω).1 h1;refine⟨p1,?_⟩;have f:=mq L (mr L n) _ _ _ ω p1;rw[lj L g (ZcR a) f.1,c];grind
  ·intro b l h1 m;split at h1
   ·cases h1
   ·rename_i k hk
    have f:=mq L (mr L n) _ _ _ ω h1;rw[lj L g (ZcR a) f.1,c] at m;obtain⟨g1,s,p⟩:=ZdC.1 m;have q:x.op=6->x.cap=(g:Int)+1:=λt=>by
     grind
    have d:=hs.2 ⟨⟨k,hk⟩,q⟩;have e:=j d;rw[hk] at e;cases e;rw[Zaa (by grind)];have i:(if x.op=6 then g+1 else g)=g1:=by
     grind
    rw[i];exact(rQ L o (mr L n) _ _ _ ω).2 b l h1 p
theorem Mn (L:List Nd):GO L=dE L:=by
 obtain⟨a,b⟩:=JT L 241 0 0;grind [GO,dE,Option.isSome_iff_exists,gg]
end
end syn
set_option maxRecDepth 100000
set_option maxHeartbeats 4000000
namespace sx
noncomputable section
open Go Go.RowKit cls syn
def QcY (v:AV D.E):C Nd:=az (asAgg v) λcs=>qi D 7 cs
def Qgx (args:List (AV D.E)):C Nd:=match args with
 | [a]=>QcY a
 | _=>.fail
def Qgy (args:List (AV D.E)):C (Nd×Int):=match args with
 | [a,b]=>az (QcY a) λx=>aL (cA b) λ_ n=>.ret (x,n)
 | _=>.fail
def ik (x:Nd):Prop:=x.r.length<=1000000
def RZ:br D:=bL 178 Nd (λa _=>Qgx a) (λ_=>True) (λy=>[.agg (D.bd 7 y)]) λy=>.bool (ij y)
def R0:br D:=bL 142 (Nd×Int) (λa _=>Qgy a) (λy=>ik y.1/\0<=y.2/\y.2<=1000000) (λy=>[.agg (D.bd 7 y.1),QsE y.2]) λy=>.tuple [QsE (b9 y.1 y.2).1,.bool (b9 y.1 y.2).2]
structure WkS where
 l:List Nd
 at_:Int
 gr:Int
abbrev X9:=WkS×Int
def wkO (l:List Nd) (a g:Int):List (Nat×AO D.E):=[(0,.cells [.list 7 l,.int .i64 a,.int .i64 g] 213 false)]
def QmZ (args:List (AV D.E)) (s:St D.E):C X9:=match args with
 | [p,d]=>match p with
  | .ptr b _=>az (cN (s.h.get b)) λo=>match o with
   | .cells cs _ _=>match cs with
    | [l,a,g]=>az (aU D s 7 l) λl=>aL (cA a) λ_ a=>aL (cA g) λ_ g=>aL (cA d) λ_ d=>.ret (⟨l,a,g⟩,d)
    | _=>.fail
   | _=>.fail
  | _=>.fail
 | _=>.fail
def WkP (y:X9):Prop:=(y.1.l.length<=1000000/\∀x∈y.1.l,ik x)/\(0<=y.1.at_/\y.1.at_<=y.1.l.length)/\(0<=y.1.gr/\y.1.gr<=y.1.at_)/\0<=y.2/\y.2<=241
def nT (y:X9):Bool×Nat×Nat:=fm y.1.l (241-y.2.toNat) y.1.at_.toNat y.1.gr.toNat
def xd:br D:=⟨103,X9,QmZ,WkP,λy=>[.ptr 0 0,QsE y.2],λy=>wkO y.1.l y.1.at_ y.1.gr,λy=>.bool (nT y).1,λy=>wkO y.1.l ((nT y).2.1:Nat) ((nT y).2.2:Nat),1,1⟩
def X' (y:X9) (x:Int×Int×Int):Prop:=WkP (⟨y.1.l,x.1,x.2.1⟩,y.2)/\y.1.at_<y.1.l.length/\fl (fm y.1.l (240-y.2.toNat)) x.2.2.toNat x.1.toNat x.2.1.toNat=nT y/\(0<x.2.2->y.2<=240)/\x.2.2<=9223372036854775807
def QcZ (y:X9):Nd:=y.1.l.getD y.1.at_.toNat (nd 0)
def R1 (y:X9):Int:=if (QcZ y).op=6 then y.1.gr+1 else y.1.gr
def R2 (y:X9):Prop:=y.1.at_<y.1.l.length/\y.2<=240/\(b9 (QcZ y) y.1.gr).2
def Qm0 (y:xd.Y):cO D:=⟨[(5,.fact 6)],[],[(1020,⟨Int×Int×Int,[0,1],λx=>[(6,QsE x.2.2)],[],λx=>wkO y.1.l x.1 x.2.1,1,X' y,λx=>x.2.2.toNat⟩)],[(127,⟨Unit,[0,1,6],λ_=>[],[],λ_=>wkO y.1.l (y.1.at_+1) (R1 y),1,λ_=>R2 y,λ_=>0⟩)],1,[]⟩
def Qgz (y:xd.Y):Prop:=vc [xd.under (λy=>241-y.2.toNat) (241-y.2.toNat),R0] f103 xd Qm0 y
def X_ (args:List (AV D.E)) (s:St D.E):C (List Nd):=match args with
 | [a]=>az (aU D s 7 a) λl=>.ret (l:List Nd)
 | _=>.fail
def cx (y:List Nd):Prop:=∀x∈y,ik x
def GP:br D:=bL 61 (List Nd) X_ cx (λy=>[.list 7 y]) λy=>.bool (dE y)
def R3 (y:Nd):Prop:=let a:Prop:=(ak (aC y.op 6) (true=ij y/\True) (aC y.cap 0=ij y/\True));let q1:Prop:=(ak (aC y.op 5) (a) (ak (aC y.mn 0) (ak (aC y.mx 0) (ak (!y.lz) (a) (false=ij y/\True)) (false=ij y/\True)) (false=ij y/\True)));ak (aC y.op 2) (q1) (ak (aC (ag y.r) 0) (q1) (false=ij y/\True))
abbrev RAS {T0 T1 T2 T3 T4 T5 T6:Type} (a:T0) (b:T1) (c:T2) (d:T3) (e:T4) (f:T5) (g:T6) (p:Prop):Prop:=aa [a] (aa [b] (aa [c] (aa [d] (aa [e] (aa [f] (aa [g] p))))))
abbrev RA6 (v:Nd) (p:Prop):Prop:=aa [v.op] (aa [v.r] (aa [v.mn] (aa [v.mx] (aa [v.lz] (aa [v.cap] (aa [v.af] p))))))
def R4 (y:Nd×Int):Prop:=let g:=aH y.1.mn y.1.mx;let q1:=aC y.1.af 0;let a:=(b9 y.1 y.2).2;let b:=(b9 y.1 y.2).1;let h:=aC y.1.cap (aw .i64 y.2 1);let i:=!(ij (Nd.mk y.1.op y.1.r y.1.mn y.1.mx y.1.lz y.1.cap y.1.af));let j:Prop:=(RAL y.1.mn (1=b/\false=a/\True));let d:Prop:=(RAL y.1.af (0=b/\q1=a/\True));let e:Prop:=(RAM y.1.af y.1.af (y.1.af=b/\aH 2 y.1.af=a/\True));let u:=RAL y.1.af (1=b/\false=a/\True);let f:Prop:=(ak (aC y.1.op 5) (ak (aC y.1.af 1) (ak (aH 0 y.1.mn) (ak (aH y.1.mn 30) (ak (aC y.1.mx (-1)) (RAP y.1.af y.1.mn y.1.mn y.1.mx (1=b/\true=a/\True)) (ak g (RAS y.1.af y.1.mn y.1.mn y.1.mx y.1.mx y.1.mn y.1.mx (1=b/\aH y.1.mx 30=a/\True)) (RAR y.1.af y.1.mn y.1.mn y.1.mx y.1.mx y.1.mn (1=b/\false=a/\True)))) (RAO y.1.af y.1.mn y.1.mn (1=b/\false=a/\True))) (RAM y.1.af y.1.mn (1=b/\false=a/\True))) u) (ak (aC y.1.op 6) (ak (aC y.1.af 1) (ak h (RAO y.1.af y.1.cap y.1.cap (1=b/\aH y.1.cap 4=a/\True)) (RAM y.1.af y.1.cap (1=b/\false=a/\True))) u) (0=b/\false=a/\True)));let c:Prop:=(ak (aC y.1.op 2) (ak q1 (Iv (y.1.r.length<=100000000)/\RAL y.1.r (0=b/\decide (y.1.r=aV y.1.r)=a/\True)) (0=b/\false=a/\True)) (ak (aC y.1.op 3) (ak (aC y.1.op 3) (e) (f)) (ak (aC y.1.op 4) (e) (f))));Iv True/\RA6 y.1 (ak i (0=b/\false=a/\True) (ak (aC y.1.op 1) (ak (aC y.1.op 1) (d) (c)) (ak (aC y.1.op 7) (ak (aC y.1.op 7) (d) (c)) (ak (aC y.1.op 8) (d) (c)))))
def GQ (y:WkS×Int):Prop:=let h:=aw .i64 y.2 1;let q1:=aH (ag y.1.l) y.1.at_;let i:=((nT y).2.2:Int);let j:=((nT y).2.1:Int);let a:=gt (Nd.mk 0 [] 0 0 false 0 0) y.1.l y.1.at_.toNat;let m:=Nd.mk a.op a.r a.mn a.mx a.lz a.cap a.af;let e:=b9 m y.1.gr;let f:=λp:Prop=>RAL y.1.l p;let k:Prop:=(false=(nT y).1/\f (y.1.at_=j/\y.1.gr=i/\True));ak q1 (RAM y.1.at_ y.1.l (k)) (RAM y.1.at_ y.1.l (ak (ay 240 y.2) (k) (aH 0 y.1.at_/\ay y.1.at_ (ag y.1.l)/\aa [y.1.l] (aa [y.1.at_,a.op] (aa [a.r] (aa [a.mn,a.mx] (aa [a.lz] (aa [a.cap,a.af] (Iv (ik m/\0<=y.1.gr/\y.1.gr<=1000000)/\aa [a.op] (aa [a.r] (aa [a.mn,a.mx] (aa [a.lz] (aa [a.cap,a.af,y.1.gr,a.op] (aa [a.r] (aa [a.mn,a.mx] (aa [a.lz] (aa [a.cap,a.af,y.1.gr] ((iY .i64 e.1)->ak (!e.2) (k) ((ak (aC a.op 6) (∃z:Unit,aa [y.2,e.1] (aa [y.1.l] (aw .i64 y.1.at_ 1=(y.1.at_+1)/\aw .i64 y.1.gr 1=R1 y/\(Iv (R2 y))))) (∃z:Unit,aa [y.2,e.1] (aa [y.1.l] (aw .i64 y.1.at_ 1=(y.1.at_+1)/\y.1.gr=R1 y/\(Iv (R2 y))))))/\(∀x:Unit,(Iv (R2 y))->(∃z:Int×Int×Int,aa [y.2] (e.1=z.2.2/\f ((y.1.at_+1)=z.1/\R1 y=z.2.1/\(Iv (X' y z)))))/\(∀b:Int×Int×Int,let g:=(WkS.mk y.1.l b.1 b.2.1,h);let c:=((nT g).2.2:Int);let d:=((nT g).2.1:Int);(Iv (X' y b))->ak (ay 0 b.2.2) (Iv (WkP g/\(241-h.toNat)<(241-y.2.toNat))/\aa [h] (aa [y.1.l] (aa [b.1,b.2.1] (ak (!(nT g).1) (false=(nT y).1/\f (d=j/\c=i/\True)) (∃z:Int×Int×Int,aa [y.2] (cF .i64 b.2.2 1=z.2.2/\f (d=z.1/\c=z.2.1/\(Iv (X' y z/\z.2.2.toNat<b.2.2.toNat))))))))) (true=(nT y).1/\f (b.1=j/\b.2.1=i/\True)))))))))))))))))))))))
def R5:∀y,GQ y=Qgz y:=λy=>by kernel_rfl
abbrev RAB (p:Prop):Prop:=aa ([0,0]:List Int) p
def R6 (y:List Nd):Prop:=let a:=(WkS.mk y 0 0,(0:Int));ak (ay (ag y) 1) (false=dE y/\True) (ak (ay 480 (ag y)) (false=dE y/\True) (Iv (WkP a)/\RAC (RAL y (RAB (ak (nT a).1 (aC ((nT a).2.1:Int) (ag y)=dE y/\True) (false=dE y/\True))))))
theorem Qm2 (y:Nd) (a:RZ.pre y):R3 y:=by
 grind [R3,ij]
def QgA:Ok RZ:=okZ [] f178 (λ_=>ew ()) trivial Qm2
theorem Qm3 (y:Nd×Int) (e:R0.pre y):R4 y:=by
 obtain⟨⟨op,r,mn,mx,lz,cap,af⟩,g⟩:=y;obtain⟨h1,h,i⟩:r.length<=1000000/\0<=g/\g<=1000000:=e;have c:aw IntKind.i64 g 1=g+1:=ba ω ω;have d:∀a b:Int,(a==b)=decide (a=b):=λa b=>by rfl
 unfold R4 b9;simp only[bH,av,nJ,l9,tL,Qff,c,d,Zan,Zao,ZaP,Zbi];generalize ij _=f;generalize aV r=k;have j:r.length<=100000000:=ω;cases f
 all_goals
  with_reducible repeat' first | apply And.intro | intro _
  all_goals first
   | assumption
   | (simp_all;done)
   | (simp_all;omega)
   | (exfalso;omega)
def QgB (a:Ok dr):Ok R0:=okZ [RZ,Dz] f142 (λ_=>ew ()) ⟨QgA,Qao a⟩ Qm3
theorem zQ {L:List Nd} {n:Nat} (h:∀a g,a<=L.length->g<=a->a<=(fm L n a g).2.1/\(fm L n a g).2.1<=L.length/\(fm L n a g).2.2<=(fm L n a g).2.1):∀k a g,a<=L.length->g<=a->a<=(fl (fm L n) k a g).2.1/\(fl (fm L n) k a g).2.1<=L.length/\(fl (fm L n) k a g).2.2<=(fl (fm L n) k a g).2.1
 | 0,a,g,h1,b=>⟨Zah _,h1,b⟩
 | k+1,a,g,h1,b=>by
  have:=h a g h1 b;unfold fl;split
  ·exact this
  ·have:=zQ h k _ _ this.2.1 this.2.2;omega
theorem JU (L:List Nd):∀n a g,a<=L.length->g<=a->a<=(fm L n a g).2.1/\(fm L n a g).2.1<=L.length/\(fm L n a g).2.2<=(fm L n a g).2.1
 | 0,a,g,h1,b=>⟨Zah _,h1,b⟩
 | n+1,a,g,h1,b=>by
  unfold fm;split
  ·grind
  ·split
   ·grind
   ·have:=zQ (JU L n) (b9 (L.getD a (nd 0)) g).1.toNat (a+1) (if (L.getD a (nd 0)).op=6 then g+1 else g) ω (by grind);omega
theorem QgC (y:X9) (B:xd.pre y):GQ y:=by
 obtain⟨⟨l,a,g⟩,d⟩:=y;obtain⟨⟨h1,e⟩,v,w,c⟩:(l.length<=1000000/\∀x∈l,ik x)/\(0<=a/\a<=l.length)/\(0<=g/\g<=a)/\0<=d/\d<=241:=B;obtain⟨a,rfl⟩:=Zau v.1;obtain⟨g,rfl⟩:=Zau w.1;obtain⟨d,rfl⟩:=Zau c.1;have j:nT (⟨l,a,g⟩,d)=fm l (241-d) a g:=by rfl
 have p:=JU l;unfold GQ;simp only[bI,bH,av,ZaX,ZaY,ZaZ,Zan,Zao,cS,Zad,zD];have u:aw .i64 (d:Int) 1=((d+1:Nat):Int):=by grind
 have s:(⟨(l.getD a ⟨0,[],0,0,false,0,0⟩).op,(l.getD a ⟨0,[],0,0,false,0,0⟩).r,(l.getD a ⟨0,[],0,0,false,0,0⟩).mn,(l.getD a ⟨0,[],0,0,false,0,0⟩).mx,(l.getD a ⟨0,[],0,0,false,0,0⟩).lz,(l.getD a ⟨0,[],0,0,false,0,0⟩).cap,(l.getD a ⟨0,[],0,0,false,0,0⟩).af⟩:Nd)=l.getD a (nd 0):=rfl;have t:(l.getD a ⟨0,[],0,0,false,0,0⟩).op=(l.getD a (nd 0)).op:=rfl;rw[s,t,u,j];have zero:∀(n:Nat),(n=0\/l.length<=a\/(b9 (l.getD a (nd 0)) g).2=false)->false=(fm l n a g).1/\(a:Int)=((fm l n a g).2.1:Nat)/\(g:Int)=((fm l n a g).2.2:Nat):=λn h=>by
  cases n with
  | zero=>exact⟨rfl,rfl,rfl⟩
  | succ n=>
   grind [fm]
 have I:aw .i64 (a:Int) 1=(a:Int)+1:=ba ω ω;have J:aw .i64 (g:Int) 1=(g:Int)+1:=ba ω ω;have on:QcZ (⟨l,a,g⟩,d)=l.getD a (nd 0):=rfl;have C:R1 (⟨l,a,g⟩,d)=if (l.getD a (nd 0)).op=6 then(g:Int)+1 else g:=by rfl
 have ok:R2 (⟨l,a,g⟩,d)=((a:Int)<l.length/\(d:Int)<=240/\(b9 (l.getD a (nd 0)) g).2):=by rfl
 rw[C,ok];refine⟨λk=>zero _ (.inr (.inl ω)),λk=>⟨λk2=>zero _ (.inl ω),λk2=>⟨ω,ω,⟨e _ ?_,ω,ω⟩,λkf=>⟨λk3=>zero _ (.inr (.inr k3)),λk3=>⟨⟨λk4=>?_,λk4=>?_⟩,λ_=>⟨⟨((a:Int)+1,(if (l.getD a (nd 0)).op=6 then(g:Int)+1 else g),(b9 (l.getD a (nd 0)) g).1),rfl,rfl,rfl,?_⟩,λx A=>?_⟩⟩⟩⟩⟩⟩
 ·grind
 ·grind
 ·grind
 ·have M:a<l.length:=ω;have L:d<=240:=ω;have F:241-d=(240-d)+1:=ω;obtain⟨G,K⟩:∃G:Nat,(if (l.getD a (nd 0)).op=6 then g+1 else g)=G:=⟨_,rfl⟩;have i:(if (l.getD a (nd 0)).op=6 then(g:Int)+1 else g)=(G:Int):=by grind
  have z:G<=g+1:=ω;rw[i];refine⟨⟨⟨h1,e⟩,⟨show 0<=(a:Int)+1 by omega,show(a:Int)+1<=(l.length:Int) by omega⟩,⟨show 0<=(G:Int) by omega,show(G:Int)<=(a:Int)+1 by omega⟩,c.1,c.2⟩,show(a:Int)<(l.length:Int) by omega,?_,λ_=>k2,kf.2⟩;grind [fm,Int.toNat_natCast]
 ·obtain⟨b,g1,q⟩:=x;obtain⟨⟨_,i1,i2,_⟩,i3,i4,i5,i6⟩:=A;have i1:0<=b/\b<=(l.length:Int):=i1;have i2:0<=g1/\g1<=b:=i2;have i4:fl (fm l (240-d)) q.toNat b.toNat g1.toNat=fm l (241-d) a g:=i4.trans j;obtain⟨b,rfl⟩:=Zau i1.1;obtain⟨g1,rfl⟩:=Zau i2.1;simp only[Zad] at i4;have f:nT (⟨l,b,g1⟩,((d+1:Nat):Int))=fm l (240-d) b g1:=by
   grind [nT,Int.toNat_natCast]
  simp only;rw[f];obtain⟨b1,D,E⟩:=p (240-d) b g1 ω ω;refine⟨λk4=>⟨⟨⟨⟨h1,e⟩,i1,i2,ω,show((d+1:Nat):Int)<=241 by omega⟩,ω⟩,λk5=>?_,λk5=>?_⟩,λk4=>?_⟩
  ·obtain⟨m,o⟩:∃m,q.toNat=m+1:=⟨q.toNat-1,ω⟩;grind [fl]
  ·obtain⟨m,o⟩:∃m,q.toNat=m+1:=⟨q.toNat-1,ω⟩;rw[o] at i4;unfold fl at i4;rw[Zaa (by grind)] at i4;have e2:cF .i64 q 1=q-1:=sQ ω (by grind);have H:(q-1).toNat=m:=ω;rw[e2];refine⟨(((fm l (240-d) b g1).2.1:Nat),((fm l (240-d) b g1).2.2:Nat),q-1),rfl,rfl,rfl,⟨⟨⟨h1,e⟩,⟨ZaF _,show((fm l (240-d) b g1).2.1:Int)<=(l.length:Int) by omega⟩,⟨ZaF _,show((fm l (240-d) b g1).2.2:Int)<=((fm l (240-d) b g1).2.1:Int) by omega⟩,c.1,c.2⟩,i3,?_,λ_=>k2,by grind⟩,by grind⟩;grind [Int.toNat_natCast]
  ·rw[show q.toNat=0 by omega] at i4;rw[<-i4];exact⟨rfl,rfl,rfl⟩
def Qc0 (a:Ok dr):Ok xd:=Ob (λy=>241-y.2.toNat) R5 (QgB a) QgC
theorem Qm4 (y:List Nd) (c:GP.pre y):R6 y:=by
 have c:∀x∈y,ik x:=c;unfold R6;simp only[bH,av,tL,gk,oG];have e:nT (⟨y,0,0⟩,0)=fm y 241 0 0:=rfl;rw[e];unfold dE;have d:∀a b:Nat,(a==b)=decide ((a:Int)=b):=λa b=>by grind
 rw[d];refine⟨λh=>?_,λh=>⟨λf=>?_,λf=>⟨⟨⟨show y.length<=1000000 by omega,c⟩,⟨ZaQ _,ZaF _⟩,⟨ZaQ _,ZaQ _⟩,ZaQ _,show(0:Int)<=241 by decide⟩,λg=>?_,λg=>?_⟩⟩⟩
 ·grind
 ·grind
 ·grind
 ·grind
def QaB (a:Ok dr):Ok GP:=okZ [xd] f61 (λ_=>ew ()) (Qc0 a) Qm4
abbrev QL:=List Int×List Int
abbrev QS:=QL×bZ
def gq (p:QL):List Gt:=(List.range p.1.length).map λi=>(if p.1.getD i 0= -1 then 65533 else p.1.getD i 0,p.2.getD (i+1) 0-p.2.getD i 0)
structure Bw (p:QL):Prop where
 len:p.1.length<=1000
 r:∀i,i<p.1.length->p.1.getD i 0=if eQ (gq p) i then-1 else aJ (gq p) i
 a:∀i,i<=p.1.length->p.2.getD i 0=aO (gq p) i
 al:p.2.length=p.1.length+1
 f:Fx (gq p)
 n:∀g∈gq p,1<=g.2/\g.2<=4
 p0:∀i,0<=aJ (gq p) i
def fc (y:QS):Prop:=Bw y.1/\(0<=y.2.i/\y.2.i<=100000)/\y.2.an=0/\0<=y.2.ae/\y.2.ae<=4
def qO (p:QL) (s:bZ):List (Nat×AO D.E):=[(0,.cells [.list 14 p.1,.list 5 p.2,.int .i64 s.i,.int .i64 s.ae,.int .i64 s.aq,.int .i64 s.wh] 162 false)]
def Qc1 (v:AV D.E) (s:St D.E):C QS:=match v with
 | .ptr b _=>az (cN (s.h.get b)) λo=>match o with
  | .cells cs _ _=>match cs with
   | [r,a,i,g,e,w]=>az (aU D s 14 r) λr=>az (aU D s 5 a) λa=>aL (cA i) λ_ i=>aL (cA g) λ_ g=>aL (cA e) λ_ e=>aL (cA w) λ_ w=>.ret (((r:List Int),(a:List Int)),⟨i,0,g,e,w⟩)
   | _=>.fail
  | _=>.fail
 | _=>.fail
def inQ (args:List (AV D.E)) (s:St D.E):C QS:=match args with
 | [p]=>Qc1 p s
 | _=>.fail
def R7 (args:List (AV D.E)) (s:St D.E):C (QS×Int):=match args with
 | [p,a]=>az (Qc1 p s) λy=>aL (cA a) λ_ n=>.ret (y,n)
 | _=>.fail
def QaC (args:List (AV D.E)) (s:St D.E):C (QS×Int×Int):=match args with
 | [p,a,b]=>az (Qc1 p s) λy=>aL (cA a) λ_ m=>aL (cA b) λ_ n=>.ret (y,m,n)
 | _=>.fail
abbrev xe (f:FuncId) (Y:Type) (qs:Y->QS) (ya:List (AV D.E)->St D.E->C Y) (pre:Y->Prop) (args:Y->List (AV D.E)) (out:Y->bZ) (res:Y->AV D.E):br D:=⟨f,Y,ya,λy=>fc (qs y)/\pre y,λy=>.ptr 0 0::args y,λy=>qO (qs y).1 (qs y).2,res,λy=>qO (qs y).1 (out y),1,1⟩
variable {G:List Gt}
def QgD (s:bZ) (e a:Int):bZ:=⟨s.i,s.an,s.ae,cn (aC s.aq 0) e s.aq,cn (aC s.aq 0) a s.wh⟩
def rR:br D:=xe 71 (QS×Int×Int) (·.1) QaC (λ_=>True) (λy=>[QsE y.2.1,QsE y.2.2]) (λy=>QgD y.1.2 y.2.1 y.2.2) λ_=>.tuple []
def yz:br D:=xe 72 QS (λy=>y) inQ (λy=>y.2.i<=y.1.1.length) (λ_=>[]) (λy=>y.2) λy=>QsE (aO (gq y.1) (nn y.2).i)
def qF:br D:=xe 110 (QS×Int) (·.1) R7 (λy=>0<=y.2/\y.2<=127) (λy=>[.int .i32 y.2]) (λy=>y.1.2) λy=>.bool (a8 (gq y.1.1) (nn y.1.2) y.2)
def R8:br D:=bL 235 Int (λa _=>in1 a) (λ_=>True) (λy=>[.int .i32 y]) λy=>.bool (gX y)
def zS:br D:=bL 211 (List Rg) Bp (λ_=>True) (λy=>[.list 6 y]) λy=>.list 7 [wz y]
def R9:br D:=bL 234 (List Rg) Bp (λ_=>True) (λy=>[.list 6 y]) λy=>.bool (db y)
def Bx:br D:={ yu with f:=111 }
def Qna (y:Bx.Y):cO D:=⟨[],[],[(250,⟨Nat,[1],λx=>[(5,.grow 7 ({ nd y.1 with af:=y.2.length }::(y.2.take x).flatten) 0),(6,QsE x)],[],λ_=>[(0,.tok 7 152)],1,λx=>x<=y.2.length,λx=>y.2.length-x⟩)],[],1,[]⟩
def R':br D:={ Md with f:=216 }
def Mo:br D:={ GA with f:=217 }
def Qnd (y:Mo.Y):cO D:=⟨[],[],[(122,⟨Nat,[0],λx=>[(4,QsE (gD (y.take x))),(5,QsE x)],[],λ_=>[],0,λx=>x<=y.length,λx=>y.length-x⟩)],[],1,[]⟩
def Mq:br D:=xe 215 QS (λy=>y) inQ (λ_=>True) (λ_=>[]) (λy=>zz (dg (gq y.1) (nn y.2))) λy=>.tuple [.str (gp (gq y.1) (nn y.2)),.bool (ga (gq y.1) (nn y.2))]
def Mr (y:QS) (x:Int×By×Bool):Prop:=(0<=x.1/\x.1<=100000)/\x.2.1.length<=x.1/\(nn y.2).i<=x.1.toNat/\(x.2.2=decide ((nn y.2).i<x.1.toNat))/\∃n,(gq y.1).length<=n+x.1.toNat/\cj (gq y.1) n x.1.toNat x.2.1=cj (gq y.1) ((gq y.1).length-(nn y.2).i) (nn y.2).i []
def Qnf (y:Mq.Y):cO D:=⟨[],[],[(28,⟨Int×By×Bool,[0],λx=>[(4,.str x.2.1),(5,.bool x.2.2)],[],λx=>qO y.1 ⟨x.1,0,y.2.ae,y.2.aq,y.2.wh⟩,1,Mr y,λx=>y.1.1.length-x.1.toNat⟩)],[],1,[]⟩
def R_ (y:(((List Int)×(List Int))×bZ)×Int×Int):Prop:=let a:=aC y.1.2.aq 0;let q1:=cn a y.2.2 y.1.2.wh;let b:=cn a y.2.1 y.1.2.aq;let c:=λp:Prop=>aa [y.1.1.1,y.1.1.2] (aa [y.1.2.i,y.1.2.ae] p);ak a (c (y.2.1=b/\y.2.2=q1/\True)) (c (y.1.2.aq=b/\y.1.2.wh=q1/\True))
def Sa (y:((List Int)×(List Int))×bZ):Prop:=let a:=gt 0 y.1.2 y.2.i.toNat;aH 0 y.2.i/\ay y.2.i (ag y.1.2)/\aa [y.1.2] (aa [y.2.i,a] (a=aO (gq y.1) y.2.i.toNat/\aa [y.1.1,y.1.2] (aa [y.2.i,y.2.ae,y.2.aq,y.2.wh] (True))))
def Sb (y:(((List Int)×(List Int))×bZ)×Int):Prop:=let a:=a8 (gq y.1.1) (nn y.1.2) y.2;let q1:=ay y.1.2.i (ag y.1.1.1);let b:=gt 0 y.1.1.1 y.1.2.i.toNat;let c:Prop:=(aa [y.1.1.1,y.1.1.2] (aa [y.1.2.i,y.1.2.ae,y.1.2.aq,y.1.2.wh] (True)));ak q1 (aH 0 y.1.2.i/\q1/\aa [y.1.2.i] (aa [y.1.1.1,y.1.1.1] (aa [y.1.2.i,b] (aC b y.2=a/\c)))) (aa [y.1.2.i] (aa [y.1.1.1] (false=a/\c)))
def QaD (y:Int):Prop:=let a:Prop:=(ak (aH 123 y) (aH y 126=gX y/\True) (false=gX y/\True));let q1:Prop:=(ak (aH 91 y) (ak (aH y 96) (true=gX y/\True) (a)) (a));let b:Prop:=(ak (aH 58 y) (ak (aH y 64) (true=gX y/\True) (q1)) (q1));ak (aH 33 y) (ak (aH y 47) (true=gX y/\True) (b)) (b)
def GR (y:List (Int×Int)):Prop:=
 ([Nd.mk 2 y 0 0 false 0 0]:List Nd)=([wz y]:List Nd)/\
 True
def Sd (y:List (Int×Int)):Prop:=let a:=(gt (0,0) y 0).1;let q1:=(gt (0,0) y 0).2;ak (aC (ag y) 1) (Tt 1 (ay 0 (ag y)/\Tt 1 (ay 0 (ag y)/\aa [a,q1] (aC a q1=db y/\True)))) (false=db y/\True)
def Se (y:Int×(List (List Nd))):Prop:=let a:=ag y.2;let q1:=y.2.length;let b:=bU y.1 y.2;let c:=Nd.mk y.1 [] 0 0 false 0 (q1:Int);ak (aC a 1) (Tt 1 (ay 0 a/\gt [] y.2 0=b/\True)) (ak (aC a 0) (([Nd.mk 1 [] 0 0 false 0 0]:List Nd)=b/\True) ((∃z:Nat,aa [y.2] (([Nd.mk y.1 [] 0 0 false 0 a]:List Nd)=(c::(List.flatten (List.take z y.2)))/\0=(z:Int)/\(Iv (z<=q1))))/\(∀x:Nat,let d:=(c::(List.flatten (List.take x y.2)));let e:=bC d (gt [] y.2 (x:Int).toNat);(Iv (x<=q1))->ak (ay (x:Int) a) (aH 0 (x:Int)/\ay (x:Int) a/\bx (ag e) 72/\∃z:Nat,aa [y.2] (e=(c::(List.flatten (List.take z y.2)))/\aw .i64 (x:Int) 1=(z:Int)/\(Iv (z<=q1/\(q1-z)<(q1-x))))) (d=b/\True))))
def Sf (y:(List UInt8)×(List UInt8)):Prop:=let a:=!(aC (dL y.1) (dL y.2));ak a (ay (dL y.1) (dL y.2)=gY y.1 y.2/\True) (slt y.1 y.2=gY y.1 y.2/\True)
def Sg (y:List UInt8):Prop:=ak (ay 2 (dL y)) (0=(eg y).1/\false=(eg y).2/\True) ((∃z:Nat,RAL y (0=gD (List.take z y)/\0=(z:Int)/\(Iv (z<=y.length))))/\(∀x:Nat,let a:=y.length;let q1:=gD (List.take x y);let b:=ay (x:Int) (dL y);(Iv (x<=a))->ak b (aH 0 (x:Int)/\b/\∃z:Nat,RAL y (aw .i64 (iB .i64 q1 10) (vz .i64 (cF .u8 (sat y (x:Int)) 48))=gD (List.take z y)/\aw .i64 (x:Int) 1=(z:Int)/\(Iv (z<=a/\(a-z)<(a-x))))) (q1=(eg y).1/\aH q1 30=(eg y).2/\True)))
def Sh (y:((List Int)×(List Int))×bZ):Prop:=let a:=y.1.1;let q1:=gp (gq y.1) (nn y.2);let e:=ag a;let j:=ga (gq y.1) (nn y.2);let k:=((cj (gq y.1) ((gq y.1).length-y.2.i.toNat) y.2.i.toNat []).1:Int);let f:=λp:Prop=>aa [a,y.1.2] p;let g:=λp:Prop=>aa [y.2.ae,y.2.aq,y.2.wh] p;let l:Prop:=(y.2.ae=((y.2.ae.toNat:Nat):Int)/\aa [y.2.aq,y.2.wh] (True));(∃z:Int×(List UInt8)×Bool,[]=z.2.1/\false=z.2.2/\f (y.2.i=z.1/\g ((Iv (Mr y z)))))/\(∀x:Int×(List UInt8)×Bool,let b:=gt 0 a x.1.toNat;let h:=yi x.2.1 (Utf8.encode b).data.toList;let c:Prop:=(x.2.1=q1/\x.2.2=j/\f (x.1=k/\l));let d:Prop:=(aH 0 x.1/\ay x.1 e/\aH (dL h) BIG/\aa [a] (aa [x.1,b] (∃z:Int×(List UInt8)×Bool,h=z.2.1/\true=z.2.2/\f (aw .i64 x.1 1=z.1/\g ((Iv (Mr y z/\(a.length-z.1.toNat)<(a.length-x.1.toNat))))))));(Iv (Mr y x))->ak (ay x.1 e) (aH 0 x.1/\ay x.1 e/\ak (aH 48 b) (aH 0 x.1/\ay x.1 e/\aa [x.1] (aa [a,a] (aa [x.1,b] (aa [a] (aa [x.1,b] (ak (aH b 57) (ak (!(seq x.2.1 [])) (d) (aH 0 x.1/\ay x.1 e/\aa [a] (aa [x.1,b] (ak (!(aC b 48)) (d) (∃z:Int×(List UInt8)×Bool,x.2.1=z.2.1/\true=z.2.2/\f (aw .i64 x.1 1=z.1/\g ((Iv (Mr y z/\(a.length-z.1.toNat)<(a.length-x.1.toNat)))))))))) (c))))))) (aa [x.1] (aa [a,a] (aa [x.1,b] (c))))) (aa [x.1] (aa [a] (c))))
def xf (p:QL):(gq p).length=p.1.length:=by unfold gq;simp
theorem DO {i:Nat} (h:eQ G i):aJ G i=65533:=by
 grind [aJ,eQ]
theorem Bw.rune {p:QL} (h:Bw p) {i:Nat} (hi:i<p.1.length):(eQ (gq p) i=false/\p.1.getD i 0=aJ (gq p) i)\/(eQ (gq p) i/\p.1.getD i 0= -1/\aJ (gq p) i=65533):=by
 have:=h.r i hi;grind [DO]
def GU {s:Ps} (r:Int) (h:s.i<G.length):a8 G s r=decide (aJ G s.i=r):=Rw r h
def Qnh (y:QS×Int×Int) (a:rR.pre y):R_ y:=by
 unfold R_;simp only[fU];exact⟨λh=>by rw[h];exact⟨rfl,rfl⟩,λh=>by rw[h];exact⟨rfl,rfl⟩⟩
def tR:Ok rR:=okZ [] f71 (λ_=>ew ()) trivial Qnh
def Qni (y:QS) (d:yz.pre y):Sa y:=by
 obtain⟨⟨h1,b,_⟩,c⟩:=d;have h1:Bw y.1:=h1;have b:0<=y.2.i/\y.2.i<=100000:=b;have c:y.2.i<=y.1.1.length:=c;have e:=h1.al;unfold Sa;simp only[ie,Zai,km,gk,av,cS];exact⟨b.1,ω,h1.a _ ω⟩
def DP:Ok yz:=okZ [] f72 (λ_=>ew ()) trivial Qni
theorem Qnj (y:QS×Int) (d:qF.pre y):Sb y:=by
 obtain⟨⟨h1,a,_⟩,b,c⟩:=d;have h1:Bw y.1.1:=h1;have a:0<=y.1.2.i/\y.1.2.i<=100000:=a;have b:0<=y.2:=b;have c:y.2<=127:=c;have hl:=xf y.1.1;unfold Sb;simp only[fU,km,gk,oG,av,cS];refine⟨λh=>⟨a.1,h,?_⟩,λh=>(Bv (s:=nn y.1.2) y.2 (show(gq y.1.1).length<=y.1.2.i.toNat by omega)).symm⟩;rw[GU (s:=nn y.1.2) y.2 (show y.1.2.i.toNat<(gq y.1.1).length by omega)];have e:(nn y.1.2).i=y.1.2.i.toNat:=rfl;rcases h1.rune (i:=y.1.2.i.toNat) ω with⟨_,h⟩ | ⟨_,h,f⟩
 ·grind
 ·grind
def xg:Ok qF:=okZ [] f110 (λ_=>ew ()) trivial Qnj
def Qnk (y:Int) (a:R8.pre y):QaD y:=Qf1 y trivial
def QgF:Ok R8:=okZ [] f235 (λ_=>ew ()) trivial Qnk
theorem QgG (y:List Rg) (a:zS.pre y):GR y:=by
 unfold GR
 first
 | exact⟨rfl,trivial⟩
 | (simp only[fU];rfl)
def Qc2:Ok zS:=okZ [] f211 (λ_=>ew ()) trivial QgG
theorem Qnl (y:List Rg) (a:R9.pre y):Sd y:=by
 unfold Sd;simp only[fU,gk,nJ,l9,av,cS];grind [db]
def QgH:Ok R9:=okZ [] f234 (λ_=>ew ()) trivial Qnl
theorem Qnm (y:By×By) (a:R'.pre y):Sf y:=by
 unfold Sf;simp only[lF,Zai,lb,Zan,Zao,nJ,l9];unfold gY;refine⟨λh=>?_,λh=>?_⟩
 ·grind
 ·rw[ZaN (show ¬y.1.length<y.2.length by omega),show(y.1.length==y.2.length)=true by grind,bytesLess_eq];rfl
def QgI:Ok R':=okZ [] f216 (λ_=>ew ()) trivial Qnm
theorem Qc3 (a:Int):iB .i64 10 a=iB .i64 a 10:=by grind [iB]
theorem Qnn (y:By) (a:Mo.pre y):Sg y:=by
 have h:=Qf5 y a;unfold JM at h;unfold Sg;grind [Qc3]
def QgJ:Ok Mo:=okZ [] f217 Qnd trivial Qnn
theorem Qno (y:Int×List (List Nd)) (a:Bx.pre y):Se y:=by
 have h:=Qf4 y a;unfold JN at h;unfold Se;simp only[fU] at h ⊢;grind
def QaE:Ok Bx:=okZ [] f111 Qna trivial Qno
theorem Bz {n:Int} (h0:0<=n) (h1:n<128):(Utf8.encode n).data.toList=[UInt8.ofNat n.toNat]:=by
 obtain⟨m,rfl⟩:=Zau h0;have:∀k:Nat,k<128->(Utf8.encode (k:Int)).data.toList=[UInt8.ofNat k]:=by decide
 grind
theorem Qnp (y:QS) (A:Mq.pre y):Sh y:=by
 obtain⟨⟨h1,d,D,p⟩,_⟩:=A;have h1:Bw y.1:=h1;have d:0<=y.2.i/\y.2.i<=100000:=d;have p:0<=y.2.ae/\y.2.ae<=4:=p;have hl:=xf y.1;have len:=h1.len;unfold Sh;simp only[bI,fU,av,lb,wL,lf,cS,Zan,Zao];have r:y.2.ae=((y.2.ae.toNat:Nat):Int):=ω;refine⟨⟨(y.2.i,[],false),rfl,rfl,rfl,d,by grind,Zah _,by simp[nn],_,?_,rfl⟩,λx v=>?_⟩
 ·show _<=(gq y.1).length-y.2.i.toNat+y.2.i.toNat;omega
 ·obtain⟨i,b,k⟩:=x;obtain⟨i1,i2,i3,i4,n,i5,i6⟩:=v;simp only at*
  have i3:y.2.i.toNat<=i.toNat:=i3;have i4:k=decide (y.2.i.toNat<i.toNat):=i4;have fin:cj (gq y.1) n i.toNat b=(i.toNat,b)->b=gp (gq y.1) (nn y.2)/\k=ga (gq y.1) (nn y.2)/\i=((cj (gq y.1) ((gq y.1).length-y.2.i.toNat) y.2.i.toNat []).1:Int)/\y.2.ae=((y.2.ae.toNat:Nat):Int):=λh=>by
   have e:cj (gq y.1) ((gq y.1).length-(nn y.2).i) (nn y.2).i []=(i.toNat,b):=i6.symm.trans h;refine⟨by grind [gp],by grind [ga],?_,r⟩;have e:cj (gq y.1) ((gq y.1).length-y.2.i.toNat) y.2.i.toNat []=(i.toNat,b):=e;grind
  have stop:¬(i.toNat<(gq y.1).length/\48<=aJ (gq y.1) i.toNat/\aJ (gq y.1) i.toNat<=57)->cj (gq y.1) n i.toNat b=(i.toNat,b):=λh=>by
   cases n with
   | zero=>rfl
   | succ n=>unfold cj;rw[Zaa h]
  refine⟨λq1=>⟨i1.1,q1,λl=>⟨i1.1,q1,λo=>?_,λo=>fin (stop λw=>?_)⟩,λl=>fin (stop λw=>?_)⟩,λq1=>fin (stop λw=>ω)⟩
  ·have u:eQ (gq y.1) i.toNat=false/\y.1.1.getD i.toNat 0=aJ (gq y.1) i.toNat:=by
    rcases h1.rune (i:=i.toNat) ω with h | ⟨_,h,_⟩
    ·exact h
    ·omega
   rw[u.2] at l o ⊢;have q:aw .i64 i 1=i+1:=ba ω ω;have e2:(i+1).toNat=i.toNat+1:=ω;have t:y.1.1.length-(i+1).toNat<y.1.1.length-i.toNat:=ω;have f:(gq y.1).length<=n-1+(i+1).toNat:=ω;have g:0<=i+1/\i+1<=100000:=ω;have a:y.2.i.toNat<=(i+1).toNat/\true=decide (y.2.i.toNat<(i+1).toNat):=⟨ω,by grind⟩;have j:(b.length:Int)<=i+1:=ω;rw[Bz ω ω,q];obtain⟨m,rfl⟩:∃m,n=m+1:=⟨n-1,ω⟩;have c:(if i.toNat<(gq y.1).length/\48<=aJ (gq y.1) i.toNat/\aJ (gq y.1) i.toNat<=57 then cj (gq y.1) m (i.toNat+1) (if 48<aJ (gq y.1) i.toNat\/b≠[] then b++[UInt8.ofNat (aJ (gq y.1) i.toNat).toNat] else b) else(i.toNat,b))=_:=i6;rw[Zac ⟨ω,l,o⟩] at c;have go:(48<aJ (gq y.1) i.toNat\/b≠[])->0<=i/\i<(y.1.1.length:Int)/\((yi b [UInt8.ofNat (aJ (gq y.1) i.toNat).toNat]).length:Int)<=BIG/\∃z:Int×By×Bool,yi b [UInt8.ofNat (aJ (gq y.1) i.toNat).toNat]=z.2.1/\true=z.2.2/\i+1=z.1/\Mr y z/\y.1.1.length-z.1.toNat<y.1.1.length-i.toNat:=λh=>by
    rw[Zac h] at c;have hlen:(yi b [UInt8.ofNat (aJ (gq y.1) i.toNat).toNat]).length=b.length+1:=by unfold yi;simp
    refine⟨i1.1,q1,by grind [BIG],(i+1,_,true),rfl,rfl,rfl,⟨⟨ω,ω⟩,by grind,ω,by grind,m,by assumption,?_⟩,by assumption⟩;grind
   refine⟨λB=>go (.inr λh=>by grind),λB=>⟨i1.1,q1,λC=>go (.inl ω),λC=>?_⟩⟩;refine⟨(i+1,b,true),rfl,rfl,rfl,⟨g,j,a.1,a.2,m,f,?_⟩,t⟩;grind
  ·rcases h1.rune (i:=i.toNat) ω with⟨_,h⟩ | ⟨_,h,s⟩<;>omega
  ·rcases h1.rune (i:=i.toNat) ω with⟨_,h⟩ | ⟨_,h,s⟩<;>omega
def QgK:Ok Mq:=okZ [] f215 Qnf trivial Qnp
end
end sx
namespace syn
open Go Go.RowKit cls
structure RB (G:List Gt) (k:Nat) (s t:Ps):Prop where
 le:s.i<=t.i
 len:t.i<=G.length+k
 op:t.an=s.an
 gr:s.ae<=t.ae
 gm:t.ae<=4
section
variable {G:List Gt} {k:Nat} {s t u:Ps}
theorem RB.refl (h:s.i<=G.length+k) (g:s.ae<=4):RB G k s s:=⟨Zah _,h,rfl,Zah _,g⟩
def RB.trans {j:Nat} (h:RB G j s t) (a:RB G k t u):RB G k s u:=⟨Zav h.le a.le,a.len,a.op.trans h.op,Zav h.gr a.gr,a.gm⟩
def RB.mono {j:Nat} (h:RB G j s t) (a:j<=k):RB G k s t:=⟨h.le,by have:=h.len;omega,h.op,h.gr,h.gm⟩
theorem RB.ax (h:RB G k s t) (f:Nat) (e:Int):RB G k s (t.ax G f e):=⟨by simpa using h.le,by simpa using h.len,by simpa using h.op,by simpa using h.gr,by simpa using h.gm⟩
theorem RB.next (h:RB G k s t):RB G (k+1) s t.next:=⟨by have:=h.le;simp;omega,by have:=h.len;simp;omega,h.op,h.gr,h.gm⟩
def RB.oQ (h:RB G k s t) (hl:t.i<G.length):RB G 0 s t.next:=⟨by have:=h.le;simp;omega,by simp;omega,h.op,h.gr,h.gm⟩
def RB.skip (h:RB G k s t) (r:Int):RB G k s (bj G t r):=by
 unfold bj;split
 ·rename_i a;exact(h.oQ (cW a)).mono (Zaj _)
 ·exact h
def uY (h:RB G k s t):RB G k s (dg G t):=by
 have:=jj (G:=G) (G.length-t.i) t.i [];have h1:=h.le;have a:=h.len;exact⟨by show _<=(cj G _ _ []).1;omega,by show(cj G (G.length-t.i) t.i []).1<=_;omega,h.op,h.gr,h.gm⟩
theorem Si (h:RB G k s t) (f:Nat):RB G k s (rH G t f).1/\t.i<=(rH G t f).1.i/\(rH G t f).2.length<=8:=by
 have m1:(aV [(9,10),(13,13),(32,32)]).length<=6:=pw _;have m2:(aV [(48,57),(65,90),(95,95),(97,122)]).length<=8:=pw _;unfold rH;by_cases h1:G.length<=t.i
 ·rw[Zac h1];exact⟨h.ax _ _,by simp,by simp⟩
 ·rw[Zaa h1];have n:=(h.oQ ω).mono (k:=k) (Zaj _);dsimp only
  repeat' split
  all_goals first
   | exact⟨h.ax _ _,by simp,by simp⟩
   | exact⟨n.ax _ _,by simp,by simp⟩
   | exact⟨n,by simp,Zav m1 (by decide)⟩
   | exact⟨n,by simp,m2⟩
   | exact⟨n,by simp,by simp⟩
theorem uZ (h:RB G k s t) (hl:t.i<G.length):RB G 0 s (eV G t).1/\t.i<(eV G t).1.i/\(eV G t).2.length<=8:=by
 have n:=h.oQ hl;unfold eV;dsimp only
 repeat' split
 ·exact⟨n.ax _ _,by simp,by simp⟩
 ·obtain⟨a,b,c⟩:=Si n t.i;exact⟨a,by assumption,c⟩
 ·exact⟨n.ax _ _,by simp,by simp⟩
 ·simp_all
theorem Ym (h:RB G k s t) (hk:t.i<=G.length) (f:Nat) (a l:List Rg) (g:a.length<=8):RB G 0 s (ki G t f a l).1/\t.i<=(ki G t f a l).1.i/\(ki G t f a l).2.1.length<=l.length+8:=by
 have h0:RB G 0 s t:=⟨h.le,ω,h.op,h.gr,h.gm⟩;unfold ki;by_cases h1:t.aq≠0\/a8 G t 45=false
 ·grind
 ·rw[Zaa h1];have c:a8 G t 45:=by
   grind
  have n:=h.oQ (cW c);dsimp only;split
  ·exact⟨n.ax _ _,by simp,by simp⟩
  ·rename_i e
   obtain⟨b1,b,d⟩:=uZ n (show t.next.i<G.length by omega);simp only[iP] at b;split
   ·exact⟨b1.ax _ _,by simp;omega,by simp⟩
   ·grind
theorem rS:∀(n:Nat) (t:Ps) (l:List Rg) (b:Bool),RB G 0 s t->RB G 0 s (dn G n t l b).1/\t.i<=(dn G n t l b).1.i/\(dn G n t l b).2.1.length<=l.length+8*((dn G n t l b).1.i-t.i)
 | 0,t,l,b,h=>⟨h,Zah _,by simp[dn]⟩
 | n+1,t,l,b,h=>by
  unfold dn;split
  ·rename_i c
   obtain⟨a,a2,a3⟩:=uZ h c.2.1;obtain⟨m1,m2,m3⟩:=Ym a (by have:=a.len;omega) t.i (eV G t).2 l a3;dsimp only;split
   ·grind
   ·have:=rS n _ (ki G (eV G t).1 t.i (eV G t).2 l).2.1 true m1;grind
  ·grind
def Qc4 (h:RB G k s t) (hk:t.i<=G.length) (f:Nat):RB G 1 s (yq G t f).1/\t.i<(yq G t f).1.i:=by
 have h0:RB G 0 s t:=⟨h.le,ω,h.op,h.gr,h.gm⟩;have h1:=h0.skip 94;have a:t.i<=(bj G t 94).i:=by unfold bj;split<;>simp
 obtain⟨c1,c2,_⟩:=rS (G.length+2-(bj G t 94).i) _ [] false h1;unfold yq;dsimp only;split
 ·exact⟨(c1.ax f 4).next,by simp;omega⟩
 ·exact⟨c1.next,by simp;omega⟩
theorem zT (h:RB G k s t) (hl:t.i<G.length):RB G 1 s (d_ G t).1/\t.i<(d_ G t).1.i:=by
 have n:=uY (h.oQ hl);have g:t.i<(dg G t.next).i:=by
  have:=jj (G:=G) (G.length-t.next.i) t.next.i [];show _<(cj G (G.length-t.next.i) t.next.i []).1
  grind [iP]
 have key:∀(u:Ps) (f:Nat) (m n:List UInt8) (ok op:Bool),RB G 0 s u->t.i<u.i->RB G 1 s (jk G f u m n ok op).1/\t.i<(jk G f u m n ok op).1.i:=λu f m n ok op hu hi=>by
  unfold jk;dsimp only;have w:∀c:Bool,RB G 0 s (if c then u.ax G f 4 else u)/\t.i<(if c then u.ax G f 4 else u).i:=λc=>by
   cases c
   ·grind
   ·exact⟨hu.ax _ _,by simp_all⟩
  obtain⟨a,d⟩:=w (decide (ok=false\/a8 G u 125=false\/(op=false/\gY n m)));simp only[ZaP] at a d;generalize (if ok=false\/a8 G u 125=false\/(op=false/\gY n m) then u.ax G f 4 else u)=v at*
  have e:∀(c:Prop) [Decidable c],RB G 1 s (if c then v.next.ax G f 2 else v.next)/\t.i<(if c then v.next.ax G f 2 else v.next).i:=λc _=>by
   split
   ·exact⟨a.next.ax _ _,by simp;omega⟩
   ·exact⟨a.next,by simp;omega⟩
  exact e _
 unfold d_;dsimp only;split
 ·rename_i b
  have m:=uY (n.oQ (cW b.2));grind [jj,dg,iP]
 ·grind
def zU (h:RB G k s t) (f:Nat):RB G (k+1) s (eL G t f)/\(eL G t f).i=t.i+1:=by
 unfold eL;split
 ·exact⟨(h.ax f 4).next,by simp⟩
 ·exact⟨h.next,by simp⟩
def um (G:List Gt) (k:Nat) (aG:Ps->Ps×List Nd):Prop:=∀s,s.i<=G.length->s.ae<=4->RB G k s (aG s).1/\(aG s).2.length<=3*((aG s).1.i-s.i)+1
variable {aG:Ps->Ps×List Nd}
theorem Ms (A:um G k aG) (deep:Nat) (hl:t.i<=G.length) (e:t.ae<=4) (f:Nat):RB G (k+1) t (iQ G aG deep t f).1/\(iQ G aG deep t f).2.length<=3*((iQ G aG deep t f).1.i-t.i)+3:=by
 have r:RB G (k+1) t t:=RB.refl ω e;unfold iQ;dsimp only;by_cases h1:a8 G t 63/\a8 G t.next 58=false
 ·rw[Zac h1];exact⟨r.ax _ _,by simp⟩
 ·rw[Zaa h1];by_cases c:20<=deep
  ·rw[Zac c];exact⟨r.ax _ _,by simp⟩
  ·rw[Zaa c];by_cases d:a8 G t 63
   ·rw[Zac d];have b:a8 G t.next 58:=by
     grind
    have g:=cW b;simp only[iP] at g;obtain⟨a,a2⟩:=A t.next.next (by simp;omega) e;obtain⟨c1,c2⟩:=zU a f;have a3:=a.le;simp only[iP] at a2 a3;refine⟨⟨?_,c1.len,c1.op,c1.gr,c1.gm⟩,?_⟩
    ·grind
    ·grind
   ·rw[Zaa d];by_cases b:4<=t.ae
    ·rw[Zac b];exact⟨r.ax _ _,by simp⟩
    ·rw[Zaa b];obtain⟨a,a2⟩:=A { t with ae:=t.ae+1 } hl (by grind);obtain⟨c1,c2⟩:=zU a f;have a3:t.i<=(aG { t with ae:=t.ae+1 }).1.i:=a.le;have a4:(aG { t with ae:=t.ae+1 }).2.length<=3*((aG { t with ae:=t.ae+1 }).1.i-t.i)+1:=a2;have a5:t.ae+1<=(aG { t with ae:=t.ae+1 }).1.ae:=a.gr;have c3:=c1.gr;simp only at c3;refine⟨⟨?_,c1.len,c1.op,?_,c1.gm⟩,?_⟩
     ·grind
     ·grind
     ·grind
theorem DQ (A:um G k aG) (deep:Nat) (hl:t.i<G.length) (d:t.ae<=4):RB G (k+1) t (fG G aG deep t).1/\t.i<(fG G aG deep t).1.i/\(fG G aG deep t).2.length<=3*((fG G aG deep t).1.i-t.i):=by
 have r:RB G 0 t t:=RB.refl ω d;have n:=r.oQ hl;have e:=n.mono (k:=k+1) (Zaj _);unfold fG;dsimp only
 repeat' split
 ·exact⟨e.ax _ _,by simp,by simp⟩
 ·obtain⟨a,b⟩:=Ms A deep (t:=t.next) (by simp;omega) d t.i;have c:=a.le;simp only[iP] at b c;exact⟨⟨ω,a.len,a.op,a.gr,a.gm⟩,ω,ω⟩
 ·obtain⟨a,b⟩:=Qc4 n (by simp;omega) t.i;simp only[iP] at b;exact⟨a.mono ω,by grind,by grind⟩
 ·simp_all
 ·simp_all
 ·simp_all
 ·grind [Si,iP]
 ·exact⟨e.ax _ _,by simp,by simp⟩
 ·simp_all
theorem JV (A:um G k aG) (deep:Nat) (hl:t.i<G.length) (f:t.ae<=4):RB G (k+1) t (rI G aG deep t).1/\t.i<(rI G aG deep t).1.i/\(rI G aG deep t).2.length<=3*((rI G aG deep t).1.i-t.i):=by
 obtain⟨a,b,c⟩:=DQ A deep hl f;have key:∀(u:Ps) (mn mx:Int),RB G (k+1) t u->(fG G aG deep t).1.i<u.i->RB G (k+1) t (jl G u mn mx (fG G aG deep t).2).1/\t.i<(jl G u mn mx (fG G aG deep t).2).1.i/\(jl G u mn mx (fG G aG deep t).2).2.length<=3*((jl G u mn mx (fG G aG deep t).2).1.i-t.i):=λu mn mx h1 d=>by
  have e:u.i<=(bj G u 63).i:=by unfold bj;split<;>simp
  unfold jl;exact⟨h1.skip 63,by grind,by grind⟩
 unfold rI;dsimp only;by_cases h1:(fG G aG deep t).1.aq≠0\/G.length<=(fG G aG deep t).1.i
 ·grind
 ·rw[Zaa h1];have d:(fG G aG deep t).1.i<G.length:=ω;have n:=(a.oQ d).mono (k:=k+1) (Zaj _);have e:=zT a d
  repeat' split
  ·exact key _ _ _ n (by simp)
  ·exact key _ _ _ n (by simp)
  ·exact key _ _ _ n (by simp)
  ·exact key _ _ _ (e.1.mono ω) e.2
  ·grind
theorem zV (A:um G k aG) (deep:Nat):∀(n:Nat) (t:Ps) (d:List (List Nd)),RB G (k+1) s t->total d<=3*(t.i-s.i)->RB G (k+1) s (dV G aG deep n t d).1/\total (dV G aG deep n t d).2<=3*((dV G aG deep n t d).1.i-s.i)
 | 0,t,d,h,e=>⟨h,e⟩
 | n+1,t,d,h,e=>by
  unfold dV;split
  ·rename_i f
   obtain⟨a,b,c⟩:=JV A deep f.2.1 h.gm;refine zV A deep n _ _ (h.trans a) ?_;rw[fT];have:=h.le;omega
  ·grind
def u0 (A:um G k aG) (deep:Nat) (hl:s.i<=G.length) (c:s.ae<=4):RB G (k+1) s (nR G aG deep s).1/\(nR G aG deep s).2.length<=3*((nR G aG deep s).1.i-s.i)+1:=by
 obtain⟨a,b⟩:=zV A deep (G.length+2-s.i) s [] (RB.refl ω c) (by simp[total]);have:=wE 3 (dV G aG deep (G.length+2-s.i) s []).2;exact⟨a,by show(bU 3 _).length<=3*((dV G aG deep (G.length+2-s.i) s []).1.i-_)+1;omega⟩
theorem zW (A:um G k aG) (deep:Nat):∀(n:Nat) (t:Ps) (c:List (List Nd)),RB G (k+1) s t->0<c.length->total c+2*c.length<=3*(t.i-s.i)+3->RB G (k+1) s (dB G aG deep n t c).1/\0<(dB G aG deep n t c).2.length/\total (dB G aG deep n t c).2+2*(dB G aG deep n t c).2.length<=3*((dB G aG deep n t c).1.i-s.i)+3
 | 0,t,c,h,h0,d=>⟨h,h0,d⟩
 | n+1,t,c,h,h0,d=>by
  unfold dB;split
  ·rename_i f
   have hl:=cW f.2;obtain⟨a,b⟩:=u0 A deep (s:=t.next) (by simp;omega) h.gm;have e:=a.le;have h1:=h.le;simp only[iP] at e b;refine zW A deep n _ _ ⟨ω,a.len,a.op.trans h.op,Zav h.gr a.gr,a.gm⟩ (by simp) ?_;grind [fT]
  ·grind
theorem Sj (A:um G k aG) (deep:Nat) (hl:s.i<=G.length) (g:s.ae<=4):RB G (k+1) s (tH G aG deep s).1/\(tH G aG deep s).2.length<=3*((tH G aG deep s).1.i-s.i)+1:=by
 obtain⟨a,b⟩:=u0 A deep hl g;have e:total [(nR G aG deep s).2]=(nR G aG deep s).2.length:=by simp[total]
 obtain⟨c,d,f⟩:=zW A deep (G.length+2-(nR G aG deep s).1.i) _ [(nR G aG deep s).2] a (by simp) (by grind);have:=tG 4 _ d;exact⟨c,by show(bU 4 _).length<=3*((dB G aG deep _ _ _).1.i-_)+1;omega⟩
end
theorem BA (G:List Gt):∀n deep,um G n (Bk G n deep)
 | 0,_=>λs h g=>⟨RB.refl ω g,by simp[Bk]⟩
 | n+1,deep=>λs h g=>Sj (BA G n (deep+1)) deep h g
end syn
set_option maxRecDepth 100000
set_option maxHeartbeats 4000000
namespace sx
noncomputable section
open Go Go.RowKit cls syn
def lk {α:Type} (a:α):α:=Classical.choose (⟨a,rfl⟩:∃b,b=a)
theorem aI {α:Type} (a:α):lk a=a:=ZcZ (⟨a,rfl⟩:∃b,b=a)
open Classical in
def ix (G:List Gt) (a:Int):Nat:=if h:∃i,i<=G.length/\aO G i=a then Classical.choose h else 0
def xh (G:List Gt) (a:Int):Prop:=∃i,i<=G.length/\a=aO G i
def sZ (y:QS×Int):Ps×List Rg:=rH (gq y.1.1) (nn y.1.2) (ix (gq y.1.1) y.2)
def Mu (y:QS×Int):Prop:=y.1.2.i<=y.1.1.1.length/\xh (gq y.1.1) y.2
def GV:br D:=xe 214 (QS×Int) (·.1) R7 Mu (λy=>[QsE y.2]) (λy=>zz (sZ y).1) λy=>.list 6 (sZ y).2
def Sk (y:QS):Prop:=y.2.i<y.1.1.length
def yB (y:QS):Ps×List Rg:=eV (gq y.1) (nn y.2)
def Sl:br D:=xe 233 QS (λy=>y) inQ Sk (λ_=>[]) (λy=>zz (yB y).1) λy=>.tuple [.list 6 (yB y).2,QsE (aO (gq y.1) (nn y.2).i)]
def Mw:br D:=xe 232 (QS×Int) (·.1) R7 (λy=>y.1.2.i<=90000/\xh (gq y.1.1) y.2) (λy=>[QsE y.2]) (λy=>zz (eL (gq y.1.1) (nn y.1.2) (ix (gq y.1.1) y.2))) λ_=>.tuple []
def nm (y:QS):Ps×By×Bool:=
 lk (if ga (gq y.1) (nn y.2).next/\a8 (gq y.1) (dg (gq y.1) (nn y.2).next) 44=true then(dg (gq y.1) (dg (gq y.1) (nn y.2).next).next,gp (gq y.1) (dg (gq y.1) (nn y.2).next).next,!ga (gq y.1) (dg (gq y.1) (nn y.2).next).next)
 else(dg (gq y.1) (nn y.2).next,gp (gq y.1) (nn y.2).next,false))
def gv (y:QS):Ps:=lk (if ga (gq y.1) (nn y.2).next=false\/a8 (gq y.1) (nm y).1 125=false\/((nm y).2.2=false/\gY (nm y).2.1 (gp (gq y.1) (nn y.2).next)) then(nm y).1.ax (gq y.1) (nn y.2).i 4 else(nm y).1)
def BB (y:QS):Int×Bool:=lk (if (nm y).2.2 then(-1,true) else eg (nm y).2.1)
def qG (y:QS):Ps×Int×Int:=lk (d_ (gq y.1) (nn y.2))
def GW:br D:=xe 186 QS (λy=>y) inQ Sk (λ_=>[]) (λy=>zz (qG y).1) λy=>.tuple [QsE (qG y).2.1,QsE (qG y).2.2]
def Qnt (y:GW.Y):cO D:=⟨[],[],[],[
 (63,⟨Unit,[0,4,5,6],λ_=>[(7,.str (nm y).2.1),(8,.bool (nm y).2.2)],[],λ_=>qO y.1 (zz (nm y).1),1,λ_=>True,λ_=>0⟩),
 (127,⟨Unit,[0,4,5,7,8],λ_=>[],[],λ_=>qO y.1 (zz (gv y)),1,λ_=>True,λ_=>0⟩),
 (2047,⟨Unit,[0,4,11,12],λ_=>[(13,QsE (BB y).1),(14,.bool (BB y).2)],[0],λ_=>[],1,λ_=>True,λ_=>0⟩)],1,[]⟩
def xi (y:QS×Int):Ps×List Rg:=lk (yq (gq y.1.1) (nn y.1.2) (ix (gq y.1.1) y.2))
def rU (y:QS×Int):Ps×List Rg×Bool:=lk (dn (gq y.1.1) ((gq y.1.1).length+2-(bj (gq y.1.1) (nn y.1.2) 94).i) (bj (gq y.1.1) (nn y.1.2) 94) [] false)
def nU (y:QS×Int):Ps:=lk (if (rU y).1.aq=0/\((rU y).2.2=false\/a8 (gq y.1.1) (rU y).1 93=false) then(rU y).1.ax (gq y.1.1) (ix (gq y.1.1) y.2) 4 else(rU y).1)
def GX (y:QS×Int) (x:bZ×List Rg×Bool):Prop:=(0<=x.1.i/\x.1.i<=y.1.1.1.length)/\x.1.an=0/\(0<=x.1.ae/\x.1.ae<=4)/\x.2.1.length<=20*(nn x.1).i/\∃n,y.1.1.1.length+2<=n+(nn x.1).i/\dn (gq y.1.1) n (nn x.1) x.2.1 x.2.2=rU y
def GY:br D:=xe 212 (QS×Int) (·.1) R7 Mu (λy=>[QsE y.2]) (λy=>zz (xi y).1) λy=>.list 6 (xi y).2
def Qnv (y:GY.Y):cO D:=⟨[],[],[(252,⟨bZ×List Rg×Bool,[0,1,5],λx=>[(6,.grow 6 x.2.1 1),(7,.bool x.2.2)],[],λx=>qO y.1.1 x.1++[(1,.tok 6 242)],2,GX y,λx=>y.1.1.1.length-(nn x.1).i⟩)],
  [(7,⟨Unit,[0,1],λ_=>[(5,.bool (a8 (gq y.1.1) (nn y.1.2) 94))],[],λ_=>qO y.1.1 (zz (bj (gq y.1.1) (nn y.1.2) 94)),1,λ_=>True,λ_=>0⟩),
   (127,⟨Unit,[0,5,6],λ_=>[],[],λ_=>qO y.1.1 (zz (nU y)),1,λ_=>True,λ_=>0⟩),
   (63,⟨Unit,[0,1,5],λ_=>[(6,.list 6 (rU y).2.1),(7,.bool (rU y).2.2)],[],λ_=>qO y.1.1 (zz (rU y).1),1,λ_=>True,λ_=>0⟩)],1,[]⟩
structure E6 where
 d:Rh
 v:nZ
def scP (y:E6):Prop:=0<=y.d.n/\y.d.n<=3/\Xz y.v 900000000000
def GZ (y:E6):nZ:=Gz ⟨y.v.p,y.v.aO,y.v.L,⟨zrs y.v.p.ab.length,Oc⟩⟩ (bdG (uoF (Gy y.d)).n.toNat)
def Qc5 (y:E6):List dh:=(DG (GZ y) (GZ y).L.length).2
def Sn (y:E6):Prop:=scP y/\(Gy y.d=[]\/gF (Gy y.d))
theorem Sp {v:nZ} {N:Int} (h:Xz v N):Xz ⟨v.p,v.aO,v.L,⟨zrs v.p.ab.length,Oc⟩⟩ N:=by
 obtain⟨⟨⟨_,_,a⟩,b,c⟩,d,e,f⟩:=h;refine⟨⟨⟨by grind [zrs],λx g=>?_,a⟩,b,c⟩,d,e,f⟩;have:x=0:=Zdw (show x∈List.replicate (v.p.ab.length:Int).toNat (0:Int) from g);omega
end
end sx
end Go.Proofs.YtklaonhcplaofaaGreat
