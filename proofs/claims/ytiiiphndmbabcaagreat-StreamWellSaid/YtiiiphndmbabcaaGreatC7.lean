/- StreamWell: a part of the proof. -/
import Derived.Test.YtiiiphndmbabcaaGreatC6
import Derived.Test.YtiiiphndmbabcaaGreatC4
import Derived.Test.YtiiiphndmbabcaaGreatC5
import Derived.Test.YtiiiphndmbabcaaGreatProg
import Derived.WalkKit
import Derived.Test.YtiiiphndmbabcaaGreatC2
import Derived.Lib.Hide
import Derived.Deep.LoopGhost
import Derived.Deep.DeepCutAuto
import Derived.Laws.AppendOwnNone
import Derived.BigQuiet
import Derived.Deep.QuietTactic
import Derived.Lib.MinMax
import Derived.Deep.DeepMust
import Derived.RegionTactic
import Derived.Laws.ResultCell
set_option linter.all false
namespace Go.Proofs.YtiiiphndmbabcaaGreat
open Go.Proofs.Tryz
set_option maxRecDepth 100000
set_option maxHeartbeats 4000000
namespace sx
noncomputable section
open Go Go.RowKit cls syn
variable {y:By} {x:Nat} {l:List Row}
theorem Kz (c:UInt8):nmB c↔(97<=c.toNat/\c.toNat<=122)\/(65<=c.toNat/\c.toNat<=90)\/(48<=c.toNat/\c.toNat<=57)\/c.toNat=45\/c.toNat=95\/c.toNat=46:=by
 grind [nmB]
theorem Ev (h:uO y x) (b:x<y.length) (h0:y≠[]) (h1:y.length<=32):(nmB (y.getD x 0)->∃z:Nat,aD .i64 (x:Int) 1=(z:Int)/\uO y z/\y.length-z<y.length-x)/\(¬nmB (y.getD x 0)->false=iZ y):=by
 refine⟨λh=>⟨x+1,bL ω,⟨b,λj c=>?_⟩,ω⟩,λh=>?_⟩
 ·rename_i a
  rcases Zbm j x with e | e
  ·exact a.2 j e
  ·grind
 ·grind [iZ]
theorem KC (h:uO y y.length) (h0:y≠[]) (h1:y.length<=32):true=iZ y:=by
 unfold iZ;symm;simp only[ZaW,ZaP,List.all_eq_true];refine⟨⟨h0,h1⟩,λc a=>?_⟩;obtain⟨i,hi,rfl⟩:=Za3 a;have:=h.2 i hi;grind
theorem Qh9 (y:By) (_:HA.pre y):TL y/\TM y:=by
 unfold TL TM;have hs:∀x:Nat,sat y (x:Int)=((y.getD x 0).toNat:Int):=λ_=>rfl
 simp only[bN,bh,lQ,w_,hs,Zan,Zao];have f:∀{s:By},seq s []=false↔s≠[]:=λ{s}=>by grind
 have c:y=[]->false=iZ y:=λh=>by subst h;rfl
 have d:32<(y.length:Int)->false=iZ y:=λh=>by
  grind [iZ]
 have i0:uO y 0:=⟨Zaj _,λj g=>absurd g (Zbo _)⟩;refine⟨⟨c,λh0=>⟨d,λh1=>⟨⟨0,rfl,i0⟩,λx a=>⟨λe=>⟨ω,e,?_⟩,λe=>?_⟩⟩⟩⟩,⟨c,λh0=>⟨d,λh1=>⟨⟨0,rfl,i0⟩,λx a=>⟨λe=>⟨ω,e,?_⟩,λe=>?_⟩⟩⟩⟩⟩
 all_goals have b:=f.mp h0
 ·obtain⟨p,q⟩:=Ev a ω b ω;rw[Kz] at p q
  with_reducible repeat' first | apply And.intro | intro _
  all_goals first | exact p ω | exact q ω
 ·rw[show x=y.length by have:=a.1;omega] at a;grind [KC]
 ·obtain⟨p,q⟩:=Ev a ω b ω;rw[Kz] at p q
  with_reducible repeat' first | apply And.intro | intro _
  all_goals first | exact p ω | exact q ω
 ·rw[show x=y.length by have:=a.1;omega] at a;grind [KC]
def Qia:Ok HA:=okZ (V:=TL) [] f111 Qqb trivial λy a=>(Qh9 y a).1
def Qib:Ok Ng:=okZ (V:=TM) [] f78 Qqd trivial λy a=>(Qh9 y a).2
theorem B6 (h:B5 l) {j:Nat} (a:x<j) (b:j<l.length):(l.getD x HB).k<(l.getD j HB).k:=by
 rw[eG b,eG ω];exact List.pairwise_iff_getElem.mp h x j ω b a
theorem QdK (h1:x<=l.length) (a:∀j,j<x->(l.getD j HB).k<y) (b:x<l.length->¬(l.getD x HB).k<y):lH l y=x:=by
 grind [lH,List.findIdx_eq]
theorem QdL (f:B5 l) (h1:x<l.length) (c:∀j,j<x->(l.getD j HB).k<y) (d:¬(l.getD x HB).k<y):jQ l y=seq (l.getD x HB).k y:=by
 rw[ZaG];unfold jQ;simp only[ZcT,ZaP,w_];constructor
 ·rintro⟨r,a,rfl⟩;obtain⟨i,hi,e⟩:=Za3 a;have b:l.getD i HB=r:=by grind
  grind [B6]
 ·grind
theorem Qqj (y:Wc) (q:Nh.pre y):TN y:=by
 obtain⟨l,k,v⟩:=y;obtain⟨g,hl⟩:B5 l/\l.length<=1000:=q;unfold TN;have m:∀n,gt (Row.mk [] 0) l n=l.getD n HB:=λ_=>rfl
 have st:∀{a b:By},slt a b↔a<b:=λ{a b}=>by simp[slt]
 have r:∀{a b:By},slt a b=false↔¬a<b:=λ{a b}=>by grind
 simp only[bN,bh,aw,m,st,r,Zad];refine⟨⟨(0,l.length),rfl,rfl,Zaj _,Zah _,λj d=>absurd d (Zbo _),λj h1 f=>absurd (show l.length<=j from h1) (Nat.not_le_of_lt f)⟩,λx p=>?_⟩;obtain⟨lo,hi⟩:=x;obtain⟨i1,i2,i3,i4⟩:=p;simp only at i1 i2 i3 i4 ⊢;refine⟨λe=>?_,λe=>?_⟩
 ·have o:Wm .i64 (aD .i64 (lo:Int) (hi:Int)) 2=(((lo+hi) / 2:Nat):Int):=by
   grind [Wm,dE,zM]
  rw[o];simp only[Zad];refine⟨ω,ω,λc=>⟨((lo+hi) / 2+1,hi),bL ω,rfl,⟨show(lo+hi) / 2+1<=hi by omega,i2,λj d=>?_,i4⟩,show hi-((lo+hi) / 2+1)<hi-lo by omega⟩,λc=>⟨(lo,(lo+hi) / 2),rfl,rfl,⟨show lo<=(lo+hi) / 2 by omega,show(lo+hi) / 2<=l.length by omega,i3,λj h1 f=>?_⟩,show(lo+hi) / 2-lo<hi-lo by omega⟩⟩
  ·have d:j<(lo+hi) / 2+1:=d;rcases Zbm j ((lo+hi) / 2) with e2 | e2
   ·exact Zdk (B6 g e2 ω) c
   ·grind
  ·have h1:(lo+hi) / 2<=j:=h1;rcases Zbm ((lo+hi) / 2) j with e2 | e2
   ·exact λc2=>c (Zdk (B6 g e2 f) c2)
   ·grind
 ·have i:lo=hi:=ω;subst i;have s:lH l k=lo:=QdK i2 i3 λh=>i4 lo (Zah _) h
  grind [QdL,jQ,List.getElem_of_mem]
def Qic:Ok Nh:=okZ [] f171 Qqf trivial Qqj
theorem Qid:Ok TJ:=okZ (V:=Qa6) [] f110 (λ_=>dr ()) trivial λy _=>by grind [Qa6]
theorem Qie:Ok TK:=okZ (V:=Qa7) [] f74 (λ_=>dr ()) trivial λy a=>by
 have:y.r.length<=1000:=a;grind [Qa7]
structure Qif where
 tab:List Row
 out:List (List Nd)
 au:Int
 at_:Int
def lX:List rW->Nat->List Row->List (List Nd)->Qif
 | [],_,t,o=>⟨t,o,0,0⟩
 | x::l,i,t,o=>if iZ x.name=false then⟨[],[],14,i⟩ else if jQ t x.name=true then⟨[],[],8,i⟩ else if (ck x.text).2.1≠0 then⟨[],[],(ck x.text).2.1,i⟩ else lX l (i+1) (rb t x.name i) (o++[cL (ck x.text).1])
def bs (y:cF):Qif:=lk (lX y.r 0 [] [])
def yO (y:cF):Bool:=decide ((bs y).au=0)
def B7 (k:cF->Bool) (args:List (AV D.E)) (s:St D.E):C (cF×Bool):=aA (Qa5 args s) λp=>.split (k p) (.ret (p,true)) (.ret (p,false))
def TO (y:cF×Bool):Prop:=y.1.r.length<=8/\y.2=yO y.1
def Ew:bk D:=⟨73,cF×Bool,B7 yO,TO,λy=>[HD y.1],λ_=>[],
 λy=>match y.2 with
  | true=>.tuple [.list 9 (bs y.1).out,.ptr 0 0,QtJ 0,QtJ 0]
  | false=>.tuple [.cW,.fC,QtJ (bs y.1).au,QtJ (bs y.1).at_],
 λy=>match y.2 with
  | true=>tbO 1 (bs y.1).tab
  | false=>[],0,2⟩
structure B8 where
 t:List Row
 o:List (List Nd)
 i:Nat
def xQ (y:cF) (x:B8):Prop:=x.i<=y.r.length/\B5 x.t/\x.t.length<=x.i/\x.o.length=x.i/\lX (y.r.drop x.i) x.i x.t x.o=bs y
def Qig (y:Ew.Y):cU D:=⟨[],[],[(122,⟨B8,[15,16],λx=>[(6,.ptr 0 0),(7,.grow 9 x.o 2),(17,QtJ x.i)],[],λx=>tbO 1 x.t++[(2,.tok 9 138)],3,xQ y.1,λx=>y.1.r.length-x.i⟩)],[],1,[]⟩
structure LdR where
 ae:List aV
 st:List Int
 cc:List aV
 cs:List Int
 au:Int
 at_:Int
def KD (e a:Int):LdR:=⟨[],[],[],[],e,a⟩
def jr (y:cF):LdR:=
 if 8<y.r.length then KD 13 8
 else if (bs y).au≠0 then KD (bs y).au (bs y).at_
 else if y.c≠[]/\(ck y.c).2.1≠0 then KD (ck y.c).2.1 y.r.length
 else if (b6 (bs y).out).2.1≠0 then KD (b6 (bs y).out).2.1 (b6 (bs y).out).2.2
 else if y.c≠[] then(if (b6 [cL (ck y.c).1]).2.1≠0 then KD (b6 [cL (ck y.c).1]).2.1 y.r.length
  else⟨(b6 (bs y).out).1.1,(b6 (bs y).out).1.2,(b6 [cL (ck y.c).1]).1.1,(b6 [cL (ck y.c).1]).1.2,0,0⟩)
 else⟨(b6 (bs y).out).1.1,(b6 (bs y).out).1.2,[],[],0,0⟩
def bY (y:cF):LdR:=lk (jr y)
def oz (y:cF):Bool:=decide ((bY y).au=0)
def QdM (n:Nat) (y:cF) (l:LdR) (t:List Row):List (Nat×AO D.E):=(n,.cells [.list 3 y.r,.str y.c,.list 8 l.ae,.list 5 l.st,.list 8 l.cc,.list 5 l.cs,.ptr (n+1) 0] 137 false)::[(n+1,.cells [.own (n+2) 2 (ah t)] 271 false),(n+2,.arr 16 t 275 false)]
def qo (y:cF×Bool):Prop:=y.1.r.length<=1000/\y.2=oz y.1
def xR:bk D:=⟨28,cF×Bool,B7 oz,qo,λy=>[HD y.1],λ_=>[],
 λy=>match y.2 with
  | true=>.tuple [.ptr 0 0,QtJ 0,QtJ 0]
  | false=>.tuple [.fC,QtJ (bY y.1).au,QtJ (bY y.1).at_],
 λy=>match y.2 with
  | true=>QdM 0 y.1 (bY y.1) (bs y.1).tab
  | false=>[],0,3⟩
def B9 (y:cF):List Nd:=lk (if y.c≠[] then(ck y.c).1 else[])
def Qik (y:xR.Y):cU D:=⟨[],[],[],[(127,⟨Unit,[5,8],λ_=>[(1,.ptr 0 0),(9,.ptr 1 0),(10,.list 7 (B9 y.1))],[],λ_=>[(0,.cells [.list 3 y.1.r,.str y.1.c] 24 false)]++QdM 1 y.1 (KD 0 0) (bs y.1).tab,4,λ_=>y.1.c≠[]->(ck y.1.c).2.1=0,λ_=>0⟩)],1,[]⟩
def Ni:bk D:={ Mf with f:=103 }
def Qqk (y:Ni.Y):cU D:=QfE y
structure jU where
 s:cF
 p:ej
 q:ej
 t:List Row
def Ey (y:jU):List (Nat×AO D.E):=QdM 0 y.s ⟨y.p.ae,y.p.aj,y.q.ae,y.q.aj,0,0⟩ y.t
def QdN (v:AV D.E) (s:St D.E):C jU:=match v with
 | .ptr b _=>aA (cN (s.h.get b)) λo=>match o with
  | .cells cs _ _=>match cs with
   | [r,c,p,q,a,b,t]=>aA (aW D s 3 r) λr=>aA (gR c) λc=>aA (aW D s 8 p) λp=>aA (aW D s 5 q) λq=>aA (aW D s 8 a) λa=>aA (aW D s 5 b) λb=>aA (QdJ t s) λt=>.ret ⟨⟨r,c⟩,⟨p,q⟩,⟨a,b⟩,t⟩
   | _=>.fail
  | _=>.fail
 | _=>.fail
def Zk (a:List (AV D.E)) (s:St D.E):C jU:=match a with
 | [p]=>QdN p s
 | _=>.fail
def Ez (y:jU):Prop:=og y.p
def Nj (y:jU):Prop:=og y.q
def Nk:bk D:=⟨65,jU,Zk,Ez,λ_=>[.ptr 0 0],Ey,λy=>yp y.p,Ey,3,3⟩
def Nl:bk D:=⟨63,jU,Zk,Nj,λ_=>[.ptr 0 0],Ey,λy=>.tuple [yp y.q,.bool (!seq y.s.c [])],Ey,3,3⟩
def TP (a:List (AV D.E)) (s:St D.E):C ej:=match a with
 | [p]=>DC p s
 | _=>.fail
def QdO (p:ej):kz:=⟨p,0,lS,⟨qM p.ae.length,fe⟩⟩
def TQ:bk D:=⟨164,ej,TP,qP,λy=>[yp y],λ_=>[],λ_=>.tuple [.ptr 0 0,.num .i64 0],λy=>vmO 0 (QdO y),0,5⟩
def TR (p:ej):kz:=W_ (QdO p) p.aj.length
def Zl:bk D:=⟨162,ej,TP,qP,λy=>[yp y],λ_=>[],λ_=>.tuple [.ptr 0 0,.num .i64 0],λy=>vmO 0 (TR y),0,5⟩
def Qa8 (y:kz):List (AV D.E):=[.int .i64 y.aF,.list 2 y.L]
def Zm:bk D:=⟨170,kz,QfI,λy=>qR y.L,λ_=>[.ptr 0 0],vmO 0,λy=>.agg (Qa8 y),vmO 0,5,5⟩
def bJ (p:ej):qk:=lk ⟨dc0,TR p⟩
def TS:bk D:=⟨100,ej,TP,qP,λy=>[yp y],λ_=>[],λ_=>.tuple [.ptr 0 0,.num .i64 0],λy=>Wb 0 5 6 (bJ y),0,7⟩
def pq (y:qk):List (AV D.E):=.list 0 (dj y.d)::Qa8 y.v
def Zn:bk D:=⟨109,qk,λa s=>match a with
 | [p]=>Sg p s
 | _=>.fail,λy=>J6 y.d/\qR y.v.L,λ_=>[.ptr 0 0],Wb 0 5 6,λy=>.agg (pq y),Wb 0 5 6,7,7⟩
abbrev RA4 (v:cF) (p:Prop):Prop:=aa [v.r] (aa [v.c] p)
def Qa9 (y:jU):Prop:=Iv (og y.p)/\RA2 y.p (RA2 y.p (RA4 y.s (RA2 y.p (RA2 y.q (RAQ (ah y.t) y.t (True))))))
def Qba (y:jU):Prop:=Iv (og y.q)/\RA2 y.q (RA2 y.q (RAR y.s.c y.s.c y.s.c (RA2 y.q (aa [!(seq y.s.c [])] (RA4 y.s (RA2 y.p (RA2 y.q (RAQ (ah y.t) y.t (True)))))))))
def Qbb (y:ej):Prop:=let a:=ah y.ae;let q1:=qM (y.ae.length:Int);Iv (qP y)/\RA2 y (Iv (0<=a/\a<=4096)/\aa [a] (Iv (og y)/\aa [y.ae] (aa [y.aj] (aa [y.ae] (aa [y.aj] (aa ([0]:List Int) (0=ah lS/\ah (qM a)=ah q1/\aa [ah fe] (aa [fe] (qM a=q1/\[]=lS/\True)))))))))
def Qbc (y:ej):Prop:=let a:=qM (y.ae.length:Int);let u:=List.take y.aj.length y.aj;let q1:=ah (lS++List.map jV u);Iv (qP y)/\RA2 y (Iv ((y.aj.length+lS.length)<=1000000)/\aa [y.ae] (aa [y.aj] (aa ([0,ah lS,ah a,ah fe]:List Int) (aa [fe] (aa [a] (aa [lS] (aa [y.ae] (aa [y.aj] (aa ([0,q1,ah a,ah fe]:List Int) (aa [fe] (aa [a] (aa [lS++List.map jV u] (True)))))))))))))
def Qbd (y:kz):Prop:=Iv (qR y.L)/\RAW (ah y.L) y.L y.aF y.aF (ah y.L) y.aF y.L (RA2 y.p (RAW y.aF (ah y.L) (ah y.s.pl) (ah y.s.us) y.s.pl y.s.us y.L (True)))
def Qbe (y:ej):Prop:=let e:=qM (y.ae.length:Int);let u:=lS++List.map jV (List.take y.aj.length y.aj);Iv (qP y)/\RA2 y (Iv True/\y.ae=(bJ y).v.p.ae/\y.aj=(bJ y).v.p.aj/\0=(bJ y).v.aF/\ah u=ah (bJ y).v.L/\ah e=ah (bJ y).v.s.pl/\ah fe=ah (bJ y).v.s.us/\fe=(bJ y).v.s.us/\e=(bJ y).v.s.pl/\u=(bJ y).v.L/\0=(bJ y).d.a/\0=(bJ y).d.b/\0=(bJ y).d.c/\0=(bJ y).d.d/\0=(bJ y).d.n/\True)
def Qbf (y:qk):Prop:=Iv (J6 y.d)/\RAU y.d.a y.d.b y.d.c y.d.d y.d.n (Iv (qR y.v.L)/\aa [y.v.p.ae] (aa [y.v.p.aj] (aa [y.v.aF,ah y.v.L,ah y.v.s.pl,ah y.v.s.us] (aa [y.v.s.us] (aa [y.v.s.pl] (aa [y.v.L] (aa [dj y.d] (aa [y.v.aF] (aa [y.v.L] (aa [y.d.a,y.d.b,y.d.c,y.d.d,y.d.n] (aa [y.v.p.ae] (aa [y.v.p.aj] (aa [y.v.aF,ah y.v.L,ah y.v.s.pl,ah y.v.s.us] (aa [y.v.s.pl] (aa [y.v.s.us] (aa [y.v.L] (True)))))))))))))))))
def Qbg:Ok Ni:=okZ [] f103 Qqk trivial QfJ
def Qbh:Ok Nk:=okZ (V:=Qa9) [Ni] f65 (λ_=>dr ()) Qbg λy a=>by
 unfold Qa9;simp only[eN,Zai,fB];exact a
def Qbi:Ok Nl:=okZ (V:=Qba) [Ni] f63 (λ_=>dr ()) Qbg λy a=>by
 unfold Qba;simp only[eN,Zai,fB];exact a
def qP.pg {p:ej} (h:qP p):og p:=⟨by have:=h.1;omega,by have:=h.2.1;omega,h.2.2.2.1⟩
def Qbj (b:Ok cK):Ok TQ:=okZ (V:=Qbb) [Gx,W9,Mf] f164 (λ_=>dr ()) ⟨QaD b,QfD,QfK⟩ λy a=>by
 unfold Qbb;simp only[bh,aw];have:=a.1;exact⟨a,⟨ω,ω⟩,qP.pg a,rfl,rfl⟩
def Qin (b:Ok cK):Ok Zl:=okZ (V:=Qbc) [TQ,BF] f162 (λ_=>dr ()) ⟨Qbj b,Qaw⟩ λy a=>by
 unfold Qbc;simp only[bh];refine⟨a,?_⟩;have h:y.aj.length<=8:=a.2.1;show y.aj.length+0<=_
 omega
def Qio:Ok Zm:=okZ (V:=Qbd) [Q9] f170 (λ_=>dr ()) Qgp λy a=>by
 unfold Qbd;simp only[bh];exact a
def Qip (a:Ok cK):Ok TS:=okZ (V:=Qbe) [Zl,unC] f100 (λ_=>dr ()) ⟨Qin a,Qc3⟩ λy b=>by
 unfold Qbe;simp only[bh,show bJ y=_ from aJ _];exact⟨b,rfl,rfl,rfl,rfl,rfl,rfl,rfl,rfl,rfl,rfl,rfl,rfl,rfl,rfl⟩
def Qiq:Ok Zn:=okZ (V:=Qbf) [uhC,Zm] f109 (λ_=>dr ()) ⟨Qm6,Qio⟩ λy a=>by
 unfold Qbf;simp only[bh];exact a
def RwD (d:zV) (p:Prop):Prop:=aa [d.a,d.b,d.c,d.d,d.n] p
def RwM (v:kz) (p:Prop):Prop:=aa [v.p.ae] (aa [v.p.aj] (aa [v.aF,ah v.L,ah v.s.pl,ah v.s.us] (aa [v.s.us] (aa [v.s.pl] (aa [v.L] p)))))
def RwU (v:kz) (p:Prop):Prop:=aa [v.p.ae] (aa [v.p.aj] (aa [v.aF,ah v.L,ah v.s.pl,ah v.s.us] (aa [v.s.pl] (aa [v.s.us] (aa [v.L] p)))))
def yP (s:qk) (p:Prop):Prop:=RwM s.v (RwD s.d p)
def Zw (s:qk) (p:Prop):Prop:=RwD s.d (RwU s.v p)
def iA (y:jU) (p:Prop):Prop:=aa [y.p.ae] (aa [y.p.aj] (aa [y.q.ae] (aa [y.q.aj] p)))
def ey (y:jU) (p:Prop):Prop:=aa [y.s.r] (aa [y.s.c] (iA y (aa [ah y.t] (aa [y.t] p))))
def Zx (y:jU) (p:Prop):Prop:=ey y (iA y p)
def fN:(∀d p,RwD d p=p)/\(∀v p,RwM v p=p)/\(∀v p,RwU v p=p)/\(∀s p,yP s p=p)/\(∀s p,Zw s p=p)/\(∀y p,iA y p=p)/\(∀y p,ey y p=p)/\∀y p,Zx y p=p:=by
 refine⟨λ_ _=>?_,λ_ _=>?_,λ_ _=>?_,λ_ _=>?_,λ_ _=>?_,λ_ _=>?_,λ_ _=>?_,λ_ _=>?_⟩<;>simp[RwD,RwM,RwU,yP,Zw,iA,ey,Zx]
structure ij where
 ru:jU
 pos:Int
 bd:Int
 aZ:Int
 size:Int
 bO:Bool
 aS:List b5
 ay:qk
 aM:qk
 aT:qk
def RwZ (y:ij) (p:Prop):Prop:=aa [y.pos,y.bd] (aa [y.bO] (aa [y.aZ,y.size] (aa [y.aS] p)))
def RwK (y:ij) (p:Prop):Prop:=aa [y.pos,y.bd] (aa [y.bO] p)
def nS (y:ij) (p:Prop):RwK y p=p:=by simp[RwK]
def QdQ (y:ij) (p:Prop):RwZ y p=p:=by simp[RwZ]
inductive kn where
 | n | p | c | o | a
variable {N:Int} {s:qk}
def sfJ (f:kn):Bool:=match f with
 | .n=>false | .p=>false | _=>true
def sfO (f:kn):Bool:=match f with
 | .n=>false | .c=>false | _=>true
def Qqw (f:kn) (b:Nat):AV D.E:=match f with
 | .o=>.ptr (b+14) 0 | .a=>.ptr b 0 | _=>.fC
def Qqx (f:kn) (b:Nat):AV D.E:=match f with
 | .n=>.fC | .p=>.fC | _=>.ptr (b+7) 0
def evA (f:kn) (x:Int):AV D.E:=match f with
 | .n=>.num .i64 0 | .c=>.num .i64 0 | _=>.int .i64 x
def enA (f:kn) (l:List b5):AV D.E:=match f with
 | .n=>.cW | .c=>.cW | _=>.list 2 l
def Qqy (n:Nat) (f:kn) (b:Nat) (y:ij):List (Nat×AO D.E):=(n,.cells [.ptr 0 0,.list 8 y.ru.p.ae,.list 5 y.ru.p.aj,.list 8 y.ru.q.ae,.list 5 y.ru.q.aj,.lit (sfJ f),.int .i64 y.pos,.int .i64 y.bd,.bool y.bO,.lit (sfO f),evA f y.aZ,evA f y.size,enA f y.aS,Qqw f b,.ptr b 0,Qqx f b] 118 false)::
 (Wb b (b+5) (b+6) y.ay++match f with
  | .n=>[] | .p=>[]
  | .o=>Wb (b+7) (b+12) (b+13) y.aM++Wb (b+14) (b+19) (b+20) y.aT
  | _=>Wb (b+7) (b+12) (b+13) y.aM)
def xS (f:kn) (b:Nat) (y:ij):List (Nat×AO D.E):=Ey y.ru++Qqy 3 f b y
def Fb:qk:=⟨dc0,⟨⟨[],[]⟩,0,lS,⟨[],fe⟩⟩⟩
def Qqz (x y:AV D.E):Bool:=match x with
 | .ptr b _=>match y with
  | .ptr c _=>Nat.beq b c
  | _=>false
 | _=>false
def sfK (f:kn) (j o s:Bool):Bool:=match f with
 | .n=>Bool.and (!j) (!o) | .p=>Bool.and (!j) o | .c=>Bool.and j (!o) | .o=>Bool.and j (Bool.and o (!s)) | .a=>Bool.and j (Bool.and o s)
def Qir (f:kn) (v:AV D.E) (s:St D.E):C ij:=match v with
 | .ptr b _=>aA (cN (s.h.get b)) λx=>match x with
  | .cells cs _ _=>match cs with
   | [r,_,_,_,_,i,p,l,g,j,e,z,n,u,a,c]=>match i with
    | .lit d=>match j with
     | .lit ob=>bE (sfK f d ob (Qqz u a)) (aA (QdN r s) λr=>aQ (da p) λ_ p=>aQ (da l) λ_ l=>aQ (AZ g) λg _=>aQ (da e) λ_ e=>aQ (da z) λ_ z=>aA (aW D s 2 n) λn=>aA (Sg a s) λa=>aA (bif sfJ f then Sg c s else .ret Fb) λc=>aA (match f with
      | .o=>Sg u s
      | _=>.ret Fb) λu=>.ret ⟨r,p,l,e,z,g,n,a,c,u⟩) .fail
     | _=>.fail
    | _=>.fail
   | _=>.fail
  | _=>.fail
 | _=>.fail
def TT (f:kn) (a:List (AV D.E)) (s:St D.E):C ij:=match a with
 | [p]=>Qir f p s
 | _=>.fail
def QqA (f:kn) (y:ij):Prop:=Sh y.ay/\(sfJ f->Sh y.aM/\0<(Qdn y.aM).length)/\(f=.o->Sh y.aT/\y.aS.length<=1000/\0<=y.size/\y.size<=500)
def QqB (f:kn) (y:ij):Prop:=QqA f y/\0<=y.bd/\y.bd<=y.pos/\y.pos<=100000000/\(y.bO=false->y.pos-y.bd<=200)
theorem TU {v:kz} {l:List Gt} (h:XD v N):∀x,x<=l.length->(GB v (l.take x)).p=v.p
 | 0,_=>by rfl
 | x+1,a=>by
  rw[zW (show x<l.length by omega)];exact((BK _ (BL (l:=l) h x ω).1 _).2.1).trans (TU h x ω)
theorem TV (h:Sh s):(Qdn s).length=s.v.L.length:=by
 have c:=h.1.2.2;have b:=Si c;have a:=BL b (l:=bdG (ue (dj s.d)).n.toNat) _ (Zah _);have f:=TU b (l:=bdG (ue (dj s.d)).n.toNat) _ (Zah _);rw[ZaM] at a f;have e:=(J3 a.1.1 (G9 s).L.length).2;have e2:(Qdn s).length=(G9 s).L.length:=e;have g:(G9 s).p.aj.length=(G9 s).L.length:=a.2.1;have i:(G9 s).p=s.v.p:=f;rw[e2,<-g,i];exact c.2.1
def Wd (s:qk) (N:Int):Prop:=0<=s.d.n/\s.d.n<=3/\(dj s.d=[]\/h_ (dj s.d))/\XD s.v N
def Qis (f:kn) (y:ij):Prop:=Wd y.ay (16*y.pos)/\(sfJ f->Wd y.aM (16*y.pos)/\0<y.aM.v.L.length)/\(f=.o->Wd y.aT (16*y.pos)/\y.aS.length<=1000/\0<=y.size/\y.size<=500)/\0<=y.bd/\y.bd<=y.pos/\(y.bO=false->y.pos-y.bd<=200)
theorem Ax:∀(k lo hi:Nat) (t:By),jL k lo hi t->t.length<k
 | 0,_,_,_,h=>nomatch h
 | _+1,_,_,[],_=>Nat.succ_pos _
 | k+1,lo,hi,b::t,h=>by
  rw[jL] at h;split at h
  ·cases h
  ·exact Nat.succ_lt_succ (Ax k 128 191 t h)
def TW {l:By} (h:h_ l):l.length<=3:=by
 unfold h_ at h;simp only[ZaW,ZaP] at h;have:=Ax _ _ _ _ h.2;have a:=(jl (l.getD 0 0).toNat).1;rw[Zbg] at this;change (mo l).1= -1\/(mo l).1=0\/(mo l).1=1\/(mo l).1=2\/(mo l).1=3 at a;omega
def Wd.le {M:Int} (h:Wd s N) (a:N<=M):Wd s M:=⟨h.1,h.2.1,h.2.2.1,h.2.2.2.1,h.2.2.2.2.1,h.2.2.2.2.2.1,Int.le_trans h.2.2.2.2.2.2 a⟩
def Wd.P (h:Wd s N) (a:N<=900000000000):Sh s:=⟨⟨h.1,h.2.1,h.2.2.2.1,h.2.2.2.2.1,h.2.2.2.2.2.1,by have:=h.2.2.2.2.2.2;omega⟩,h.2.2.1⟩
theorem Qis.Q {f:kn} {y:ij} (h:Qis f y) (c:y.pos<=100000000):QqB f y:=by
 have⟨a,a2,a3,a4,a5,b⟩:=h;refine⟨⟨a.P ω,λk=>?_,λk=>?_⟩,a4,a5,c,b⟩
 ·have d:=(a2 k).1.P ω;grind [TV]
 ·exact⟨(a3 k).1.P ω,(a3 k).2⟩
def bc (b:By) (k:Nat):Int:=((b.getD k 0).toNat:Int)
def iW (y:jU):Bool:=!seq y.s.c []
def Qit (y:jU):ij:=⟨y,0,0,0,0,false,[],bJ y.p,bJ y.q,Fb⟩
def gA (y:jU×Bool):Prop:=qP y.1.p/\og y.1.q/\(iW y.1->qP y.1.q)/\y.2=iW y.1
def Qbl (a:List (AV D.E)) (s:St D.E):C (jU×Bool):=aA (Zk a s) λy=>.split (iW y) (.ret (y,true)) (.ret (y,false))
def Qiu (y:jU×Bool):List (Nat×AO D.E):=match y.2 with
 | true=>xS .c 4 (Qit y.1)
 | false=>xS .n 4 (Qit y.1)
def HE:bk D:=⟨58,jU×Bool,Qbl,gA,λ_=>[.ptr 0 0],λy=>Ey y.1,λ_=>.ptr 3 0,Qiu,3,18⟩
def Ay:bk D:=⟨30,jU×Bool,Qbl,gA,λ_=>[.ptr 0 0],λy=>Ey y.1,λ_=>.tuple [.ptr 3 0,.num .i64 0],Qiu,3,18⟩
def jR (x:b5):b5:={ x with aL:=[] }
def HF:bk D:=bP 59 (List b5) (λa s=>match a with
 | [l]=>aA (aW D s 2 l) λl=>.ret (l:List b5)
 | _=>.fail) (λy=>y.length<=1000) (λy=>[.list 2 y]) λy=>.list 2 (List.map jR y)
def QqC (y:HF.Y):cU D:=⟨[],[],[(58,⟨Nat,[6,7],λk=>[(3,.grow 2 (List.map jR (List.take k (y:List b5))) 0),(8,QtJ k)],[],λ_=>[(0,.tok 2 106)],1,λk=>k<=List.length (y:List b5),λk=>List.length (y:List b5) -k⟩)],[],1,[]⟩
def Nn:bk D:=⟨72,qk,λa s=>match a with
 | [p]=>Sg p s
 | _=>.fail,λy=>J6 y.d/\qR y.v.L,λ_=>[.ptr 0 0],Wb 0 5 6,λy=>.agg (pq y),Wb 0 5 6,7,7⟩
def No:List (AV D.E):=[.cW,.num .i64 0,.cW]
def Np:bk D:=bP 72 Unit (λa _=>match a with
 | [p]=>match p with
  | .fC=>.ret ()
  | _=>.fail
 | _=>.fail) (λ_=>True) (λ_=>[.fC]) λ_=>.agg No
structure uP where
 pos:Int
 bd:Int
 bO:Bool
 eI:Bool
 aZ:Int
 size:Int
 aS:List b5
def HG (y:uP) (aT ay aM:List (AV D.E)):AV D.E:=.agg ([.int .i64 y.pos,.int .i64 y.bd,.bool y.bO,.bool y.eI,.int .i64 y.aZ,.int .i64 y.size,.list 2 y.aS]++aT++ay++aM)
def scQ (s:qk):Prop:=J6 s.d/\qR s.v.L
def tr (f:kn) (y:ij):Prop:=scQ y.ay/\scQ y.aM/\(sfO f->scQ y.aT/\y.aS.length<=1000)
def Az:bk D:=⟨27,ij,TT .c,tr .c,λ_=>[.ptr 3 0],xS .c 4,λy=>HG ⟨y.pos,y.bd,y.bO,false,0,0,[]⟩ No (pq y.ay) (pq y.aM),xS .c 4,25,25⟩
def KE:bk D:=⟨27,ij,TT .o,tr .o,λ_=>[.ptr 3 0],xS .o 4,λy=>HG ⟨y.pos,y.bd,y.bO,true,y.aZ,y.size,y.aS.map jR⟩ (pq y.aT) (pq y.ay) (pq y.aM),xS .o 4,25,25⟩
structure QuD where
 ru:jU
 st:uP
 aT:qk
 ay:qk
 aM:qk
def HH (y:jU):Prop:=let a:=!(seq y.s.c []);Iv (Ez y)/\ey y (Iv (Nj y)/\ey y (Iv (qP y.p)/\RA2 y.p (ak a (Iv (qP y.q)/\aa [y.q.ae] (aa [y.q.aj] (iA y (a=sfJ kn.c/\aa ([0,0]:List Int) (false=false/\yP (bJ y.q) (yP (bJ y.p) (ey y (True)))))))) (iA y (a=sfJ kn.c/\aa ([0,0]:List Int) (false=false/\False))))))
def HJ (y:jU):Prop:=let a:=!(seq y.s.c []);Iv (Ez y)/\ey y (Iv (Nj y)/\ey y (Iv (qP y.p)/\RA2 y.p (ak a (Iv (qP y.q)/\aa [y.q.ae] (aa [y.q.aj] (iA y (a=sfJ kn.n/\aa ([0,0]:List Int) (false=false/\False))))) (iA y (a=sfJ kn.n/\aa ([0,0]:List Int) (false=false/\yP (bJ y.p) (ey y (True))))))))
def HN (y:jU):Prop:=ak (iW y) (Iv (gA (y,true))/\Zx y (RAD (false=false/\yP (bJ y.q) (yP (bJ y.p) (ey y (True)))))) (Iv (gA (y,false))/\Zx y (False))
def HO (y:jU):Prop:=ak (iW y) (Iv (gA (y,true))/\Zx y (False)) (Iv (gA (y,false))/\Zx y (RAD (false=false/\yP (bJ y.p) (ey y (True)))))
def Qbm (y:List b5):Prop:=(∃z:Nat,RAQ y (ah y) ([]=List.map jR (List.take z y)/\0=(z:Int)/\(Iv (z<=y.length))))/\(∀x:Nat,let b:=y.length;let q1:=List.map jR (List.take x y);let c:=az (x:Int) (ah y);let a:=gt (b5.mk false 0 0 0 0 0 0 0 0 0 0 []) y (x:Int).toNat;let d:=bM q1 [b5.mk a.done a.c0 a.c1 a.c2 a.c3 a.c4 a.c5 a.c6 a.c7 a.c8 a.c9 []];(Iv (x<=b))->ak c (aI 0 (x:Int)/\c/\bF (ah d) 112/\∃z:Nat,RAQ y (ah y) (d=List.map jR (List.take z y)/\aD .i64 (x:Int) 1=(z:Int)/\(Iv (z<=b/\(b-z)<(b-x))))) (q1=List.map jR y/\True))
def Qbn (y:qk):Prop:=Iv (J6 y.d/\qR y.v.L)/\yP y (aa [dj y.d] (aa [y.v.aF] (aa [y.v.L] (Zw y (True)))))
def QiB (y:Unit):Prop:=
 True
abbrev RAG (p:Prop):Prop:=aa ([[]]:List (List b5)) p
def T1 (y:ij):Prop:=Iv (0<=1000)/\RAG (Iv True/\Iv (J6 y.ay.d/\qR y.ay.v.L)/\yP y.ay (Iv (J6 y.aM.d/\qR y.aM.v.L)/\yP y.aM (aa [y.pos,y.pos,y.pos,y.pos,y.pos,y.bd,y.bd,y.bd,y.bd,y.bd] (aa [y.bO,y.bO,y.bO,y.bO,y.bO] (RwK y (false=false/\aa ([0,0]:List Int) (List.map jR []=[]/\aa [dj y.ay.d] (aa [y.ay.v.aF] (aa [y.ay.v.L] (aa [dj y.aM.d] (aa [y.aM.v.aF] (aa [y.aM.v.L] (Zx y.ru (RwK y (Zw y.ay (Zw y.aM (True)))))))))))))))))
def T3 (y:ij):Prop:=let a:=List.map jR y.aS;Iv (y.aS.length<=1000)/\RAP y.aS (Iv (J6 y.aT.d/\qR y.aT.v.L)/\yP y.aT (Iv (J6 y.ay.d/\qR y.ay.v.L)/\yP y.ay (Iv (J6 y.aM.d/\qR y.aM.v.L)/\yP y.aM (aa [y.pos,y.pos,y.pos,y.pos,y.pos,y.bd,y.bd,y.bd,y.bd,y.bd] (aa [y.bO,y.bO,y.bO,y.bO,y.bO] (aa [y.aZ,y.aZ,y.aZ,y.aZ,y.aZ,y.size,y.size,y.size,y.size,y.size] (aa [y.aS] (RwK y (Tt 1 (aa [y.aZ,y.size] (aa [a] (aa [dj y.aT.d] (aa [y.aT.v.aF] (aa [y.aT.v.L] (aa [dj y.ay.d] (aa [y.ay.v.aF] (aa [y.ay.v.L] (aa [dj y.aM.d] (aa [y.aM.v.aF] (aa [y.aM.v.L] (Zx y.ru (RwZ y (Zw y.ay (Zw y.aM (Zw y.aT (True))))))))))))))))))))))))))
def QiC (y:jU) (e:gA (y,true)):HH y:=by
 obtain⟨h1,b,d,a⟩:=e;have a:true=!(seq y.s.c []):=a;unfold HH;simp only[bh,fN,<-a,ZaX];exact⟨h1.pg,b,h1,⟨d a.symm,rfl⟩,nofun⟩
def QiD (y:jU) (d:gA (y,false)):HJ y:=by
 obtain⟨h1,b,e,a⟩:=d;have a:false=!(seq y.s.c []):=a;unfold HJ;simp only[bh,fN,<-a,ZaX];exact⟨h1.pg,b,h1,nofun,rfl⟩
def Qbo (a:Ok cK):Ok HE:=QtT (k:=HE) (T:=HH) (F:=HJ) [Nk,Nl,TS] f58 (λ_=>dr ()) id id (λ_=>rfl) ⟨Qbh,Qbi,Qip a⟩ QiC QiD
theorem QiE (y:jU) (b:gA (y,true)):HN y:=by
 have a:true=iW y:=b.2.2.2;unfold HN;simp only[bh,fN,<-a,ZaX];grind
theorem QiF (y:jU) (b:gA (y,false)):HO y:=by
 have a:false=iW y:=b.2.2.2;unfold HO;simp only[bh,fN,<-a,ZaX];grind
def QdR (a:Ok cK):Ok Ay:=QtT (k:=Ay) (T:=HN) (F:=HO) [HE] f30 (λ_=>dr ()) id id (λ_=>rfl) (Qbo a) QiE QiF
theorem T5:Ok HF:=okZ (V:=Qbm) [] f59 QqC trivial λ(y:List b5) a=>by
 have a:y.length<=1000:=a;unfold Qbm;simp only[fK,fB,gx,eV,mI,aw,Zad,br,a8];refine⟨⟨0,rfl,rfl,Zaj _⟩,λx b=>⟨λk=>?_,λk=>?_⟩⟩
 ·grind [jR,List.take_append_getElem]
 ·grind
def T6:Ok Nn:=okZ (V:=Qbn) [Zn] f72 (λ_=>dr ()) Qiq λ(y:qk) a=>by
 unfold Qbn;simp only[eN,fN,Zai,fB];exact a
def T7:Ok Np:=okZ (V:=QiB) [] f72 (λ_=>dr ()) trivial λy _=>by assumption
def T8:Ok Az:=okZ (V:=T1) [HF,Nn,Np] f27 (λ_=>dr ()) ⟨T5,T6,T7⟩ λ(y:ij) a=>by
 unfold T1;simp only[eN,fN,nS,Zai,Zal,fB];exact⟨Zaj _,a.1,a.2.1,rfl⟩
def QdS:Ok KE:=okZ (V:=T3) [HF,Nn,Np] f27 (λ_=>dr ()) ⟨T5,T6,T7⟩ λ(y:ij) d=>by
 obtain⟨h1,b,a⟩:=d;obtain⟨a,c⟩:=a rfl;unfold T3;simp only[fK,fN,nS,QdQ,fB];exact⟨c,a,h1,b⟩
def HQ {p:ej} (h:qP p):scQ (bJ p):=by
 rw[show bJ p=_ from aJ _];refine⟨⟨ZaQ _,by show(0:Int)<=4;omega⟩,?_,λx a=>?_⟩
 ·show(lS++(p.aj.take p.aj.length).map jV).length<=1000
  have:=h.2.1;simp[lS];omega
 ·have hl:x∈(p.aj.take p.aj.length).map jV:=a;obtain⟨s,_,rfl⟩:=ZcL.1 hl;show 1<=1000000
  omega
def oq (t:bA):List Int:=[t.c0,t.c1,t.c2,t.c3,t.c4,t.c5,t.c6,t.c7,t.c8,t.c9]
def fp (t:bA) (m:Int):Bool:=(oq t).all λx=>decide (-1<=x)&&decide (x<=m)
def T9:bk D:=bP 207 (bA×Int) (λa _=>match a with
 | [c,m]=>aA (asAgg c) λcs=>match cs with
  | [a0,b,a2,a3,a4,a5,d,e,f,a9]=>aQ (da a0) λ_ a0=>aQ (da b) λ_ b=>aQ (da a2) λ_ a2=>aQ (da a3) λ_ a3=>aQ (da a4) λ_ a4=>aQ (da a5) λ_ a5=>aQ (da d) λ_ d=>aQ (da e) λ_ e=>aQ (da f) λ_ f=>aQ (da a9) λ_ a9=>aQ (da m) λ_ m=>.ret (⟨0,a0,b,a2,a3,a4,a5,d,e,f,a9⟩,m)
  | _=>.fail
 | _=>.fail) (λ_=>True) (λy=>[.agg [QtJ y.1.c0,QtJ y.1.c1,QtJ y.1.c2,QtJ y.1.c3,QtJ y.1.c4,QtJ y.1.c5,QtJ y.1.c6,QtJ y.1.c7,QtJ y.1.c8,QtJ y.1.c9],QtJ y.2]) λy=>.bool (fp y.1 y.2)
def KG (ae:List aV) (a:List Bool):Nat->(Int->Bool)->Int->Bool
 | 0,F=>F
 | n+1,F=>if a.getD n false/\(ae.getD n ⟨0,0,0,[]⟩).op=1 then λk=>if k=(n:Int)+1 then true else KG ae a n F k else KG ae a n F
def We (m:Int):List bA->(Int->Bool)->Bool
 | [],_=>true
 | t::l,F=>F t.pc&&fp t m&&We m l λk=>if k=t.pc then false else F k
structure B' where
 p:ej
 r:Int
 l:b5
 m:Int
def ZB (y:B'):Int:=y.p.aj.getD y.r.toNat 0
def uQ (y:B'):Bool:=We y.m y.l.aL (KG y.p.ae (lF y.p.ae (ZB y)) y.p.ae.length λk=>if k=ZB y then true else false)
def wtP (y:B'):Prop:=Mo (y.p.ae,ZB y)/\0<=y.r/\y.r<y.p.aj.length/\y.l.aL.length<=1000000
def QiG:bk D:=bP 208 B' (λa s=>match a with
 | [p,r,l,m]=>aA (DC p s) λp=>aQ (da r) λ_ r=>aA (asAgg l) λcs=>aA (uw D 2 cs) λl=>aQ (da m) λ_ m=>.ret ⟨p,r,(l:b5),m⟩
 | _=>.fail) wtP (λy=>[yp y.p,QtJ y.r,.agg (D.ba 2 y.l),QtJ y.m]) λy=>.bool (uQ y)
def KH (y:bA×Int):Prop:=ak (az y.1.c0 (-1)) (false=fp y.1 y.2/\True) (ak (az y.2 y.1.c0) (false=fp y.1 y.2/\True) (ak (az y.1.c1 (-1)) (false=fp y.1 y.2/\True) (ak (az y.2 y.1.c1) (false=fp y.1 y.2/\True) (ak (az y.1.c2 (-1)) (false=fp y.1 y.2/\True) (ak (az y.2 y.1.c2) (false=fp y.1 y.2/\True) (ak (az y.1.c3 (-1)) (false=fp y.1 y.2/\True) (ak (az y.2 y.1.c3) (false=fp y.1 y.2/\True) (ak (az y.1.c4 (-1)) (false=fp y.1 y.2/\True) (ak (az y.2 y.1.c4) (false=fp y.1 y.2/\True) (ak (az y.1.c5 (-1)) (false=fp y.1 y.2/\True) (ak (az y.2 y.1.c5) (false=fp y.1 y.2/\True) (ak (az y.1.c6 (-1)) (false=fp y.1 y.2/\True) (ak (az y.2 y.1.c6) (false=fp y.1 y.2/\True) (ak (az y.1.c7 (-1)) (false=fp y.1 y.2/\True) (ak (az y.2 y.1.c7) (false=fp y.1 y.2/\True) (ak (az y.1.c8 (-1)) (false=fp y.1 y.2/\True) (ak (az y.2 y.1.c8) (false=fp y.1 y.2/\True) (ak (az y.1.c9 (-1)) (false=fp y.1 y.2/\True) (ak (az y.2 y.1.c9) (false=fp y.1 y.2/\True) (true=fp y.1 y.2/\True))))))))))))))))))))
def T' (t:bA) (m:Int):Prop:=(-1<=t.c0/\t.c0<=m)/\(-1<=t.c1/\t.c1<=m)/\(-1<=t.c2/\t.c2<=m)/\(-1<=t.c3/\t.c3<=m)/\(-1<=t.c4/\t.c4<=m)/\(-1<=t.c5/\t.c5<=m)/\(-1<=t.c6/\t.c6<=m)/\(-1<=t.c7/\t.c7<=m)/\(-1<=t.c8/\t.c8<=m)/\(-1<=t.c9/\t.c9<=m)
def EA (t:bA) (m:Int):fp t m↔T' t m:=by simp[fp,T',oq]
def QiH (y:bA×Int):KH y:=by
 unfold KH;simp only[l7,Zai,eV,mI];have a:¬T' y.1 y.2->false=fp y.1 y.2:=λh=>(Bool.eq_false_iff.2 λe=>h ((EA _ _).1 e)).symm
 have ht:T' y.1 y.2->true=fp y.1 y.2:=λh=>((EA _ _).2 h).symm
 unfold T' at a ht
 repeat' first | apply And.intro | intro _
 all_goals first | exact a ω | exact ht ω
def Qbp:Ok T9:=okZ (V:=KH) [] f207 (λ_=>⟨[],[],[],[],11,[]⟩) trivial λy _=>QiH y
end
end sx
namespace sl
open Go.RowKit
variable {α:Type} {ba:α->List Value} {k:Nat}
theorem B_ {w:World} {k:Nat} {o:Obj} (h:w.heap[k]?=some o):k<w.heap.size:=by
 grind
def flat (ba:α->List Value) (l:List α):List Value:=l.flatMap ba
theorem nh (hk:∀x,(ba x).length=k) (l:List α):(flat ba l).length=l.length*k:=by
 induction l with
 | nil=>simp[flat]
 | cons x t a=>
  grind [flat]
theorem jS (l m:List α):flat ba (l++m)=flat ba l++flat ba m:=by simp[flat]
theorem xT (hk:∀x,(ba x).length=k) (l:List α) (i t:Nat) (x:α) (a:l[i]?=some x) (ht:t<k):(flat ba l)[i*k+t]?=(ba x)[t]?:=by
 induction l generalizing i with
 | nil=>simp at a
 | cons y m b=>
  have e:flat ba (y::m)=ba y++flat ba m:=rfl;rcases i with _ | i
  ·grind
  ·grind
structure Rd (ba:α->List Value) (w:World) (a:Option Addr) (l:List α) (cap:Nat):Prop where
 none_:a=none->l=[]/\cap=0
 le:l.length<=cap
 max:cap<=maxLen
 at_:∀ad,a=some ad->0<cap->ad.spot=none/\ad.block<w.heap.size/\∀j u,(flat ba l)[j]?=some u->w.cell? ⟨ad.block,ad.off+j,none⟩=some u
variable {l:List α} {B:Nat} {w:World} {a:Option Addr}
theorem Rd.nil (ba:α->List Value) (w:World):Rd ba w none [] 0:=⟨λ_=>⟨rfl,rfl⟩,Zah _,ω,λ_ h _=>by cases h⟩
theorem Rd.cells {cap:Nat} (h:Rd ba w a l cap) (hk:∀x,(ba x).length=k) {i:Nat} {x:α} (j:l[i]?=some x):
  ∃b off,a=some ⟨b,off,none⟩/\b<w.heap.size/\∀t u,t<k->(ba x)[t]?=some u->w.cell? ⟨b,off+(i*k+t),none⟩=some u:=by
 obtain⟨h1,f,g,c⟩:=h;rcases a with _ | ⟨b,off,sp⟩
 ·grind
 ·have hi:i<l.length:=by
   grind
  obtain⟨hs,d,e⟩:=c _ rfl ω;obtain rfl:sp=none:=hs;exact⟨b,off,rfl,d,λt u ht hu=>e _ _ (by grind [xT])⟩
def Rd.below {f:World} (h:Rd ba w a l B) {cap:Nat} (c:Below cap w f) (k:∀b,a=some b->0<B->b.block<cap):Rd ba f a l B:=
 ⟨h.none_,h.le,h.max,λb e d=>by
  obtain⟨h1,g,i⟩:=h.at_ b e d;exact⟨h1,ZbB g c.size,λj u hu=>(c.cell (p:=⟨b.block,b.off+j,none⟩) (k b e d)).trans (i j u hu)⟩⟩
def Rd.kept {b:World} (h:Rd ba w a l B) (d:Below w.heap.size w b):Rd ba b a l B:=
 h.below d λc e f=>(h.at_ c e f).2.1
def kb (ba:α->List Value) (k:Nat) (E:TypeId) (B:Nat) (w:World) (v:Value) (l:List α):Prop:=w.ownsRow B E k v l.length (flat ba l)
theorem kb.rd {E:TypeId} {v:Value} (h:kb ba k E B w v l):∃a cap,v=.slice a l.length cap/\Rd ba w a l cap/\∀b,a=some b->B<=b.block:=by
 rcases h.2 with⟨rfl,c⟩ | ⟨g,cap,aT,rfl,f,i,c,d,hs,ht⟩
 ·grind [Rd.nil]
 ·refine⟨some ⟨g,0,none⟩,cap,rfl,⟨λh=>(nomatch h),c,d,λb e _=>?_⟩,λb e=>(by grind)⟩;grind [World.cell?]
theorem getD_eq (h:B<l.length) (d:α):l[B]?=some (l.getD B d):=by
 grind
structure l8 (P:Program) (T E:TypeId) (k bytes:Nat):Prop where
 uv:P.underlying T=some (.slice E)
 ex:∃i z,P.info? E=some i/\i.zero=some z/\i.size=k/\i.bytes=bytes/\z.cells.size=k
 pos:0<k
variable {B a m X:Nat} {E c:TypeId} {w d:World} {v:Value} {l:List α} {Z:Program} {Y:Array Value} {W:Type} {V:Array Oper} {U:List Oper} {O:Exit->Act->World->Prop} {s x:Operand}
variable {N:List W}
def l8.mk' {z:Value} (h1:Z.underlying E=some (.slice c)) (bytes:(Z.info? c).map (λi=>(i.zero,i.size,i.bytes))=some (some z,B,a)) (b:z.cells.size=B) (T:0<B):l8 Z E c B a:=by
 obtain⟨i,hi,hz,hs,d⟩:=info_parts bytes;exact⟨h1,⟨i,z,hi,hz,hs,d,b⟩,T⟩
theorem kb.nil (ba:α->List Value) (k:Nat) (E:TypeId) (B:Nat) (w:World):kb ba k E B w (.slice none 0 0) []:=World.ownsRow_nil _ _ _ _
theorem kb.alloc (h:kb ba k E B w v l) (o:Obj):kb ba k E B (w.alloc o) v l:=World.ownsRow.alloc h o
def kb.drewN (h:kb ba k E B w v l) (n:Nat):kb ba k E B (w.drewN n) v l:=h
theorem kb.below (h:kb ba k E B w v l) (i:Below a w d) (f:w.heap.size<=a):kb ba k E B d v l:=by
 refine⟨h.1,?_⟩;rcases h.2 with b | ⟨g,cap,aT,h1,b,c,e⟩
 ·grind
 ·exact .inr ⟨g,cap,aT,h1,b,(i.block g (ZbB (B_ c) f)).trans c,e⟩
def kb.lt (h:kb ba k E B w v l):∀k,v.ownBlock=some k->B<=k/\k<w.heap.size:=World.ownsRow.lt h
theorem kb.mono (h:kb ba k E B w v l) (d:a<=B):kb ba k E a w v l:=by
 refine⟨h.1,?_⟩;rcases h.2 with b | ⟨g,cap,aT,h1,b,c⟩
 ·grind
 ·exact .inr ⟨g,cap,aT,h1,Zav d b,c⟩
def Below.grow {b:World} (w0:Below a w d) (h:kb ba k E B d v l) (e:d.grownBy b v.ownBlock) (c:a<=B) (hs:a<=d.heap.size):Below a w b:=
 w0.grown e hs λk hk=>Zav c (h.lt k hk).1
theorem Rd.built {cs:Array Value} (l:List α) (n:Nat) (d:l.length=n) (a:cs.toList=flat ba l) (c:n<=4096):Rd ba (w.alloc (.cells cs E)) (some ⟨w.heap.size,0,none⟩) l n:=
 ⟨λh=>(nomatch h),ω,by grind [maxLen],λb e _=>by
  cases e;refine⟨rfl,by simp,λj u hu=>?_⟩;rw[<-a] at hu;simp;simpa using hu⟩
theorem xU {o:Oper} {bytes:Act} {p:Option Addr} {f:List α}
  (G:l8 Z E c k B) (g:o.guard=none) (C:o.op=.call { callee:=.builtin .append,args:=#[s,x],argTypes:=#[E,E] })
  (hs:bytes.eval s=v) (D:bytes.eval x=.slice p m X) (e:kb ba k c a w v l) (d:Rd ba w p f X) (A:m=f.length) (hk:∀x,(ba x).length=k) (h1:∀x,∀u∈ba x,u.oneCell')
  (n:l.length+f.length<=1000000000) (N9:B<=65536) (H:a<=w.heap.size)
  (h:∀F t,kb ba k c a t F (l++f)->w.grownBy t v.ownBlock->wpList Z V O U (bytes.put o.dst F) t):wpList Z V O (o::U) bytes w:=by
 obtain⟨hu,⟨i,z,hi,hz,dd,q,hzc⟩,J⟩:=G;rcases p with _ | ⟨b,off,sp⟩
 ·obtain⟨rfl,rfl⟩:=d.none_ rfl;subst A;refine wpList_append_own_none g s x E C a c i k hu hi v l.length _ hs e D ?_;grind [World.grownBy.refl]
 ·have r:∀j u,(flat ba f)[j]?=some u->w.cell? ((⟨b,off,sp⟩:Addr).add j)=some u:=λj u M=>by
   have hle:=d.le;have I:0<f.length:=by
    grind [flat]
   obtain⟨K,_,L⟩:=d.at_ _ rfl ω;grind [Addr.add_lit]
  have hmul:(l.length+f.length)*B<=1000000000*65536:=Zci n N9;refine wpList_append_own w g s x E C a c i z k B hu hi hz dd q hzc J v l.length _ hs e ⟨b,off,sp⟩ m X (flat ba f) D (by rw[nh hk,A]) r (λu hu=>?_) (by grind [maxLen]) (by grind) H ?_
  ·obtain⟨y,_,N⟩:=ZbG.1 hu;grind
  ·grind [kb,jS]
theorem pr {o:Oper} {bytes:Act} {e:TypeId}
  (i:l8 Z E c k B) (T:o.guard=none) (n:o.op=.call { callee:=.builtin .append,args:=#[s,x],argTypes:=#[E,E] })
  (hs:bytes.eval s=v) (p:bytes.eval x=.slice (some ⟨m,0,none⟩) 1 1) (j:m=w.heap.size) (b:kb ba k c a w v l) (y:α) (r:Y.toList=ba y) (hk:∀x,(ba x).length=k) (h1:∀x,∀u∈ba x,u.oneCell')
  (f:l.length<1000000000) (N9:B<=65536) (q:a<=w.heap.size)
  (h:∀g d,kb ba k c a d g (l++[y])->(w.alloc (.cells Y e)).grownBy d v.ownBlock->wpList Z V O U (bytes.put o.dst g) d):wpList Z V O (o::U) bytes (w.alloc (.cells Y e)):=by
 subst j;exact xU i T n hs p (b.alloc _) (Rd.built [y] 1 rfl (by grind [flat]) ω) rfl hk h1 (by simp;omega) N9 (by simp;omega) h
def nT {b:World} (e:Below a w d) (h:kb ba k E B d v l) (f:(d.alloc (.cells Y c)).grownBy b v.ownBlock) (w0:a<=B) (hs:a<=d.heap.size):Below a w b:=
 Below.grow (e.alloc hs _) (h.alloc _) f w0 (by simp;omega)
theorem wS {x:W} (h:N[B]?=some x):B<N.length:=by
 grind
theorem T_ (hk:∀x,(ba x).length=k) (l:List α) (i t:Nat) (x y:α) (u:Value) (a:l[i]?=some x) (ht:t<k) (c:(ba x).set t u=ba y):(flat ba l).set (i*k+t) u=flat ba (l.set i y):=by
 induction l generalizing i with
 | nil=>simp at a
 | cons z m b=>
  have e:∀z,flat ba (z::m)=ba z++flat ba m:=λ_=>rfl
  rcases i with _ | i
  ·grind
  ·simp only[Zcm] at a;rw[Zdd,e,ZbY _ _ (by grind),hk,show(i+1)*k+t-k=i*k+t by grind,b i a];rfl
theorem kb.store (h:kb ba k E B w (.slice (some ⟨a,0,none⟩) m X) l) (g:m=l.length) (hk:∀x,(ba x).length=k) {i t:Nat} {x y:α} {u:Value} (c:l[i]?=some x) (ht:t<k) (b:(ba x).set t u=ba y):
  kb ba k E B (w.setCell ⟨a,i*k+t,none⟩ u) (.slice (some ⟨a,0,none⟩) m X) (l.set i y):=by
 subst g;have:=(World.ownsRow.stored h (i*k+t) u).1;grind [T_,kb]
theorem kb.form (h:kb ba k E B w v l) (b:l≠[]):∃g cap,v=.slice (some ⟨g,0,none⟩) l.length cap/\B<=g/\g<w.heap.size/\l.length<=cap/\cap<=maxLen:=by
 rcases h.2 with⟨rfl,a⟩ | ⟨g,cap,aT,rfl,c,d,a,e,hs,ht⟩
 ·grind
 ·grind
theorem kb.cellAt (h:kb ba k E B w (.slice (some ⟨a,0,none⟩) m X) l) (b:m=l.length) (hk:∀x,(ba x).length=k) {i t:Nat} {x:α} (c:l[i]?=some x) (ht:t<k) (hu:(ba x)[t]?=some v):
  w.cell? ⟨a,i*k+t,none⟩=some v/\w.frozen? ⟨a,i*k+t,none⟩=false:=by
 subst b;have hi:=wS c;have g:i*k+t<l.length*k:=by
  have:(i+1)*k<=l.length*k:=Zbc k hi;grind
 refine⟨?_,World.ownsRow.frozenAt h _⟩;rw[World.ownsRow.cellAt h (i*k+t) g,<-hu];grind [xT]
def pw (h:Below B w d) (n:Nat):Below B w (d.drewN n):=⟨h.os,h.tape,h.output,h.size,h.block⟩
theorem tt {β:Type} (f:W->List β) {p:W} (h:N[B]?=some p):(N.take (B+1)).flatMap f=(N.take B).flatMap f++f p:=by
 grind [List.take_add_one]
theorem fy {β:Type} (f:W->List β) (n:Nat) (h:∀x,(f x).length<=n) (l:List W):(l.flatMap f).length<=l.length*n:=by
 induction l with
 | nil=>simp
 | cons x t a=>simp only[Zbt,Zab,Zae];have:=h x;rw[ZaV];omega
variable {α:Type} {ba:α->List Value} {k:Nat}
variable {E Y g:TypeId} {B:Nat} {v:Value} {l:List α} {w:World}
def bW (w:World) (v a:Value):Prop:=a.ownBlock=v.ownBlock\/a.ownBlock=none\/∃k,a.ownBlock=some k/\w.heap.size<=k
theorem ZD {P:Program} (w:World) {ty:TypeId} {bytes:Nat} {b off m c:Nat} (news:List Value)
  (I:l8 P E Y k B) (d:kb ba k Y bytes w v l) (hl:news.length=m*k) (C:∀j u,news[j]?=some u->w.cell? ⟨b,off+j,none⟩=some u) (h1:∀u∈news,u.oneCell')
  (t:l.length+m<=maxLen) (f:(l.length+m)*B<=140737488355328) (L:bytes<=w.heap.size):
  ∃q r,(Builtin.append_ #[E,E] ty #[v,.slice (some ⟨b,off,none⟩) m c]).run P w=.ok q r/\r.ownsRow bytes Y k q (l.length+m) (flat ba l++news)/\w.grownBy r v.ownBlock/\bW w v q:=by
 obtain⟨hu,⟨i,z,hi,hz,dd,o,hzc⟩,H⟩:=I;have n:∀j u,news[j]?=some u->w.cell? ((⟨b,off,none⟩:Addr).add j)=some u:=λj u h=>by grind [Addr.add_lit]
 obtain⟨q,r,s,J,K,_⟩:=run_append_own (P:=P) w bytes E ty Y i z k B hu hi hz dd o hzc H v l.length _ d ⟨b,off,none⟩ m c news hl n h1 t f L;refine⟨q,r,s,J,K,?_⟩;rcases d.2 with⟨rfl,Q⟩ | ⟨g,cap,aT,rfl,M,O,R,N,x,D⟩
 ·have A:l=[]:=Zap Q;subst A;obtain⟨U,V,a,k2,_,_⟩:=run_append_own (P:=P) w w.heap.size E ty Y i z k B hu hi hz dd o hzc H (.slice none 0 0) 0 [] (World.ownsRow_nil _ _ _ _) ⟨b,off,none⟩ m c news hl n h1 (by assumption) (by assumption) (Zah _);rw[s] at a;cases a;rcases k2.2 with⟨rfl,_⟩ | ⟨g2,F,G,rfl,y,_⟩
  ·exact .inr (.inl rfl)
  ·exact .inr (.inr ⟨g2,rfl,y⟩)
 ·by_cases e:l.length+m<=cap
  ·have p:l.length*i.size+news.length<=aT.size:=by rw[hl,x,dd,<-ZbL];exact Zbc _ e
   have a:=run_append_room (P:=P) w E ty Y i hu hi g l.length cap aT O ⟨b,off,none⟩ m c news (by grind) n h1 e p;rw[s] at a;cases a;exact .inl rfl
  ·have holds:∀j u,(flat ba l)[j]?=some u->w.cell? ((⟨g,0,none⟩:Addr).add j)=some u:=World.ownsRow.cells d (g:=g) rfl;have S:l.length+m<=9223372036854775807:=by assumption
   have a:=run_append_grow (P:=P) w E ty Y i z hu hi hz ⟨g,0,none⟩ l.length cap (flat ba l) (by rw[dd];exact d.1) holds ⟨b,off,none⟩ m c news (by grind) n ω ω (growslice_fits ω (by grind));rw[s] at a;cases a;exact .inr (.inr ⟨_,rfl,Zah _⟩)
theorem Ca {P:Program} {ops:Array Oper} {rest:List Oper} {o:Oper} {a:Act} {Q:Exit->Act->World->Prop} {T E:TypeId} {bytes:Nat} {s x:Operand} {cs:Array Value} {n:Nat}
  (r:l8 P T E k B) (i:o.guard=none) (F:o.op=.call { callee:=.builtin .append,args:=#[s,x],argTypes:=#[T,T] })
  (hs:a.eval s=v) (H:a.eval x=.slice (some ⟨n,0,none⟩) 1 1) (D:n=w.heap.size) (d:kb ba k E bytes w v l) (y:α) (I:cs.toList=ba y) (hk:∀x,(ba x).length=k) (h1:∀x,∀u∈ba x,u.oneCell')
  (q:l.length<1000000000) (N9:B<=65536) (M:bytes<=w.heap.size)
  (h:∀e f,kb ba k E bytes f e (l++[y])->(w.alloc (.cells cs g)).grownBy f v.ownBlock->bW w v e->wpList P ops Q rest (a.put o.dst e) f):wpList P ops Q (o::rest) a (w.alloc (.cells cs g)):=by
 subst D;have hmul:(l.length+1)*B<=1000000000*65536:=Zci ω N9;have p:=Rd.built (w:=w) (E:=g) (cs:=cs) (ba:=ba) [y] 1 rfl (by simp[I,flat]) ω;obtain⟨_,_,C⟩:=p.at_ _ rfl ω;obtain⟨e,f,G,J,t,b⟩:=ZD (P:=P) (ty:=o.type) (m:=1) (c:=1) (w.alloc (.cells cs g)) (flat ba [y]) r (d.alloc _) (by rw[nh hk];rfl) C (λu hu=>by
  obtain⟨z,_,hz⟩:=ZbG.1 hu;exact h1 z u hz) (by grind [maxLen]) ω (by grind)
 refine wpList_plain i λK A=>?_
 unfold Oper.wp execOp;simp only[F,resolve,invoke,builtin,Zzd,Zzc,Zzb,List.map_toArray,Zbl,Zcj,hs,H,G];refine A _ _ (h e f ?_ t ?_)
 ·grind [kb,jS]
 ·rcases b with b | b | ⟨j,b,L⟩
  ·exact .inl b
  ·exact .inr (.inl b)
  ·exact .inr (.inr ⟨j,b,by grind⟩)
def ik (v u:Value):Prop:=∀k,v.ownBlock=some k->u.ownBlock≠some k
theorem kb.aR {a:World} {u:Value} (h:kb ba k E B w v l) (c:w.grownBy a u.ownBlock) (b:ik v u):kb ba k E B a v l:=by
 refine World.ownsRow.kept h c ?_;rcases d:v.ownBlock with _ | j
 ·grind
 ·refine .inr λe=>b j d e.symm
theorem ik.fresh {u c:Value} (d:ik v u) (h:kb ba k E B w v l) (a:bW w u c):ik v c:=by
 intro j b e;rcases a with a | a | ⟨k2,a,f⟩
 ·exact d j b (a▸e)
 ·grind
 ·have:=(h.lt j b).2;grind
end sl
namespace sx
open Go Go.RowKit cls syn sl
abbrev E8:={l:List Value // l.length=8/\∀u∈l,u.oneCell'=true}
def e8 (x:E8):List Value:=x.1
def HR (x:E8):(e8 x).length=8:=x.2.1
def QdT (x:E8):∀u∈e8 x,u.oneCell':=x.2.2
def ZE:l8 prog 219 221 8 96:=l8.mk' (z:=.agg #[.int .i64 0,.slice none 0 0,.int .i64 0,.int .i64 0,.bool false,.int .i64 0,.int .i64 0,.slice none 0 0]) Tryz.underlying219 (by kernel_rfl) rfl (by decide)
abbrev qp (w:World) (v:Value) (l:List E8):Prop:=kb e8 8 221 0 w v l
def gZ (v:Value):List Nat:=match v.ownBlock with
 | some b=>[b]
 | none=>[]
mutual
def TA (M:Pm D) (w:World):ai->E8->List Nat->Prop
 | .mk op r mn mx lz cap nk ks,x,F=>∃(vr kv:Value) (l:List E8) (G:List Nat),x.1=[.int .i64 op,vr,.int .i64 mn,.int .i64 mx,.bool lz,.int .i64 cap,.int .i64 nk,kv]/\VR M (.list 6 r) vr/\(jv .i64 op&&jv .i64 mn&&jv .i64 mx&&jv .i64 cap&&jv .i64 nk)=true/\
  qp w kv l/\F=gZ kv++G/\KA M w ks l G
def KA (M:Pm D) (w:World):List ai->List E8->List Nat->Prop
 | [],l,F=>l=[]/\F=[]
 | t::ts,l,F=>∃(x:E8) (l':List E8) (F1 F2:List Nat),l=x::l'/\F=F1++F2/\TA M w t x F1/\KA M w ts l' F2
end
theorem ni {w a:World} {v:Value} {l:List E8} (h:qp w v l) (hk:∀b∈gZ v,b<w.heap.size->a.heap[b]?=w.heap[b]?):qp a v l:=by
 refine⟨h.1,?_⟩;rcases h.2 with c | ⟨g,cap,aT,rfl,c,d,e⟩
 ·grind
 ·grind [gZ,Value.ownBlock]
mutual
theorem vH {M M':Pm D} {w w':World} (hM:Le M M'):∀(t:ai) (x:E8) (F:List Nat),TA M w t x F->(∀b∈F,b<w.heap.size->w'.heap[b]?=w.heap[b]?)->TA M' w' t x F
 | .mk op r mn mx lz cap nk ks,x,F,h,hk=>by
  rw[TA] at h ⊢
  obtain⟨vr,kv,l,G,h1,h2,h3,h4,rfl,h6⟩:=h
  exact⟨vr,kv,l,G,h1,h2.mono hM,h3,ni h4 λb hb=>hk b (Zay _ hb),rfl,qb hM ks l G h6 λb hb=>hk b (ZaC _ hb)⟩
theorem qb {M M':Pm D} {w w':World} (hM:Le M M'):∀(ts:List ai) (l:List E8) (F:List Nat),KA M w ts l F->(∀b∈F,b<w.heap.size->w'.heap[b]?=w.heap[b]?)->KA M' w' ts l F
 | [],l,F,h,_=>by rw[KA] at h ⊢;exact h
 | t::ts,l,F,h,hk=>by
  rw[KA] at h ⊢
  obtain⟨x,l',F1,F2,h1,rfl,h3,h4⟩:=h
  exact⟨x,l',F1,F2,h1,rfl,vH hM t x F1 h3 λb hb=>hk b (Zay _ hb),qb hM ts l' F2 h4 λb hb=>hk b (ZaC _ hb)⟩
end
variable {w:World} {M:Pm D} {v:Value} {b:Nat} {Z:TypeId} {a:List Nat} {Y:Array Value} {X:Program}
theorem HS:∀{a:List ai} {l:List E8} {F:List Nat},KA M w a l F->l.length=a.length
 | [],l,F,h=>by rw[KA] at h;rw[h.1];rfl
 | t::a,l,F,h=>by
  rw[KA] at h;obtain⟨x,e,c,d,rfl,_,_,b⟩:=h;simp[HS b]
theorem Ua {t:ai} {x:E8} (c:TA M w t x a):∀{b:List ai} {l:List E8} {F:List Nat},KA M w b l F->KA M w (b++[t]) (l++[x]) (F++a)
 | [],l,F,h=>by
  rw[KA] at h;obtain⟨rfl,rfl⟩:=h;exact⟨x,[],a,[],rfl,by simp,c,by rw[KA];exact⟨rfl,rfl⟩⟩
 | u::b,l,F,h=>by
  rw[KA] at h;obtain⟨y,i,d,e,rfl,rfl,f,g⟩:=h;rw[Za1,KA];exact⟨y,i++[x],d,e++a,rfl,by rw[ZaD],f,Ua c g⟩
theorem iS {fr:Nat×Nat} (a:w.heap[b]?=some (.cells Y Z fr)) (j:Nat):w.cell? ⟨b,j,none⟩=Y[j]?:=by simp[World.cell?,a]
theorem KI (a:w.heap[b]?=some (.cells Y Z (0,0))) (j:Nat):w.frozen? ⟨b,j,none⟩=false:=by simp[World.frozen?,a]
def sr (h:b=w.heap.size) (o:Obj):(w.alloc o).heap[b]?=some o:=by subst h;exact heap_alloc_new w o
def ei {k:IntKind} {n:Int} (h:VR M (.int k n) v):v=.int k n/\jv k n:=by cases h with | int h=>exact⟨rfl,h⟩
def nU {b:Bool} (h:VR M (.bool b) v):v=.bool b:=by cases h;rfl
def AA {c:List (D.E b)} (h:VR M (.list b c) v):∃a n k,v=.slice a n k:=by cases h<;>exact⟨_,_,_,rfl⟩
def xV {t:ai} {x:E8} (h:TA M w t x a):∃F n c b g d,x.1=[.int .i64 t.op,.slice F n c,.int .i64 t.mn,.int .i64 t.mx,.bool t.lz,.int .i64 t.cap,.int .i64 t.nk,.slice b g d]:=by
 cases t;rw[TA] at h;obtain⟨o,m,l,G,h1,e,i,f,j,k⟩:=h;obtain⟨_,_,_,rfl⟩:=AA e;obtain⟨_,_,rfl,_⟩:=f.rd;exact⟨_,_,_,_,_,_,h1⟩
def Ub {fn:Func} {p u:Tmp} (h:fn.results=#[.cell p Z,.tmp u]) (tmps:Array Value) {a:Addr} (b:tmps.getD p Go.undef=.pointer (some a)) (c:(loadVar Z a).run X w=.ok v w):(results fn tmps).run X w=.ok (.tuple #[v,tmps.getD u Go.undef]) w:=by
 rw[results_cell_tmp h,b];simp[asAddr,c]
def qd {fn:Func} {p:Tmp} (h:fn.results=#[.cell p Z]) (tmps:Array Value) {a:Addr} (c:tmps.getD p Go.undef=.pointer (some a)) (d:(loadVar Z a).run X w=.ok v w):(results fn tmps).run X w=.ok v w:=by
 have b:tmps[p]?.getD Go.undef=.pointer (some a):=by simpa using c
 simp[results,h,b,asAddr,d]
abbrev EB (w:World) (b:Nat) (a c d v3 e v5 f g:Value):World:=(((((((w.setCell ⟨b,0,none⟩ a).setCell ⟨b,1,none⟩ c).setCell ⟨b,2,none⟩ d).setCell ⟨b,3,none⟩ v3).setCell ⟨b,4,none⟩ e).setCell ⟨b,5,none⟩ v5).setCell ⟨b,6,none⟩ f).setCell ⟨b,7,none⟩ g
variable {w:World} {b i:Nat} {v:Value} {N:Array Value} {M:TypeId} {a:Nat×Nat}
variable {k:Nat}
theorem heap_set (h:w.heap[b]?=some (.cells N M a)):(w.setCell ⟨b,i,none⟩ v).heap[b]?=some (.cells (N.setIfInBounds i v) M a):=by
 grind [World.setCell]
def kd (h:k≠b):(w.setCell ⟨b,i,none⟩ v).heap[k]?=w.heap[k]?:=Below.heap_setCell _ _ _ _ h
theorem AB {v0 v1 v2 v3 v4 v5 v6 v7:Value} (h:w.heap[b]?=some (.cells N M a)) (hs:N.size=8):(EB w b v0 v1 v2 v3 v4 v5 v6 v7).heap[b]?=some (.cells #[v0,v1,v2,v3,v4,v5,v6,v7] M a):=by
 unfold EB;rw[heap_set (heap_set (heap_set (heap_set (heap_set (heap_set (heap_set (heap_set h)))))))];obtain⟨l⟩:=N;obtain⟨a0,l,rfl⟩:=ZaB (show l.length=7+1 from hs);obtain⟨c,l,rfl⟩:=ZaB (show l.length=6+1 by simpa using hs);obtain⟨a2,l,rfl⟩:=ZaB (show l.length=5+1 by simpa using hs);obtain⟨a3,l,rfl⟩:=ZaB (show l.length=4+1 by simpa using hs);obtain⟨a4,l,rfl⟩:=ZaB (show l.length=3+1 by simpa using hs);obtain⟨a5,l,rfl⟩:=ZaB (show l.length=2+1 by simpa using hs);obtain⟨d,l,rfl⟩:=ZaB (show l.length=1+1 by simpa using hs);obtain⟨e,l,rfl⟩:=ZaB (show l.length=0+1 by simpa using hs);simp_all
def xW {v0 v1 v2 v3 v4 v5 v6 v7:Value} (h:k≠b):(EB w b v0 v1 v2 v3 v4 v5 v6 v7).heap[k]?=w.heap[k]?:=by
 unfold EB;rw[kd h,kd h,kd h,kd h,kd h,kd h,kd h,kd h]
theorem lj {v0 v1 v2 v3 v4 v5 v6 v7:Value}:Below b w (EB w b v0 v1 v2 v3 v4 v5 v6 v7):=by
 unfold EB;have k:∀(W:World) (i:Nat) (v:Value),Below b w W->Below b w (W.setCell ⟨b,i,none⟩ v):=λW i v h=>h.setCell (Zah _) v
 grind [Below.refl]
def nodeAt {M:Pm D} {y:List Nd} (h:Rd M w b i (aY (D:=D) 7 y)) {x:Nd} (e:y[k]?=some x):
  ∃a,VR M (.list 6 x.r) a/\(jv .i64 x.op&&jv .i64 x.mn&&jv .i64 x.mx&&jv .i64 x.cap&&jv .i64 x.af)/\
   w.cell? ⟨b,i+k*7,none⟩=some (.int .i64 x.op)/\w.cell? ⟨b,i+k*7+1,none⟩=some a/\w.cell? ⟨b,i+k*7+2,none⟩=some (.int .i64 x.mn)/\w.cell? ⟨b,i+k*7+3,none⟩=some (.int .i64 x.mx)/\
   w.cell? ⟨b,i+k*7+4,none⟩=some (.bool x.lz)/\w.cell? ⟨b,i+k*7+5,none⟩=some (.int .i64 x.cap)/\w.cell? ⟨b,i+k*7+6,none⟩=some (.int .i64 x.af):=by
 obtain⟨hi,rfl⟩:=Zam.1 e;have o:=kx gb h hi;obtain⟨z,a0,f⟩:=o 0 _ rfl;obtain⟨v,c,b1⟩:=o 1 _ rfl;obtain⟨A,a2,g⟩:=o 2 _ rfl;obtain⟨v3,a3,j⟩:=o 3 _ rfl;obtain⟨B,a4,l⟩:=o 4 _ rfl;obtain⟨v5,a5,m⟩:=o 5 _ rfl;obtain⟨C,d,n⟩:=o 6 _ rfl;obtain⟨rfl,p⟩:=ei f;obtain⟨rfl,q⟩:=ei g;obtain⟨rfl,s⟩:=ei j;obtain rfl:=nU l;obtain⟨rfl,t⟩:=ei m;obtain⟨rfl,u⟩:=ei n;exact⟨v,b1,by simp only[ZaW];exact⟨⟨⟨⟨p,q⟩,s⟩,t⟩,u⟩,a0,c,a2,a3,a4,a5,d⟩
def vI {l:List E8} (h:qp w v l):∀c∈gZ v,c<w.heap.size:=λc a=>by
 unfold gZ at a;split at a
 ·rename_i e
  rw[ZaI.1 a];exact(h.lt _ e).2
 ·cases a
mutual
theorem Qbq {M:Pm D} {w:World}:∀(t:ai) (x:E8) (F:List Nat),TA M w t x F->∀c∈F,c<w.heap.size
 | .mk op r mn mx lz cap nk ks,x,F,h=>by
  rw[TA] at h
  obtain⟨vr,kv,l,G,h1,h2,h3,h4,rfl,h6⟩:=h
  exact λc hc=>(Zax.1 hc).elim (vI h4 c) (Uc ks l G h6 c)
theorem Uc {M:Pm D} {w:World}:∀(ts:List ai) (l:List E8) (F:List Nat),KA M w ts l F->∀c∈F,c<w.heap.size
 | [],l,F,h=>by rw[KA] at h;rw[h.2];exact λc hc=>nomatch hc
 | t::ts,l,F,h=>by
  rw[KA] at h
  obtain⟨x,l',F1,F2,h1,rfl,h3,h4⟩:=h
  exact λc hc=>(Zax.1 hc).elim (Qbq t x F1 h3 c) (Uc ts l' F2 h4 c)
end
def lY (M:Pm D):Le M M:=⟨λ_ _ h=>h,λ_ _ _ h=>h⟩
def ss {v:Value} {c:Nat} (h:v.ownBlock=some c):c∈gZ v:=by unfold gZ;rw[h];exact ZaI.2 rfl
theorem Ud {M:Pm D} {wr k b:World} {n1:Nat} {g:Value} {l:List E8} {G:List Nat} {E:List ai} {C:ai} {r:E8} {n:List Nat} {B N:Obj} {a m o:Nat} {u:Value}
  (Q:qp wr g l) (v:KA M wr E l G) (x:(gZ g++G).Nodup) (t:∀c∈gZ g++G,n1+1<=c/\c<wr.heap.size) (dd:n1+1<=wr.heap.size) (z:Below wr.heap.size wr k) (q:TA M k C r n) (K:n.Nodup) (s:∀c∈n,wr.heap.size<=c)
  (f:qp b (.slice (some ⟨a,0,none⟩) m o) (l++[r])) (A:((k.alloc B).alloc N).grownBy b g.ownBlock) (i:sl.bW (k.alloc B) g (.slice (some ⟨a,0,none⟩) m o)):
  qp (b.setCell ⟨n1,7,none⟩ u) (.slice (some ⟨a,0,none⟩) m o) (l++[r])/\KA M (b.setCell ⟨n1,7,none⟩ u) (E++[C]) (l++[r]) (G++n)/\(gZ (.slice (some ⟨a,0,none⟩) m o)++(G++n)).Nodup/\
   ∀c∈gZ (.slice (some ⟨a,0,none⟩) m o)++(G++n),n1+1<=c/\c<(b.setCell ⟨n1,7,none⟩ u).heap.size:=by
 have hs:=z.size;have y:=A.size;simp only[World.alloc,ZcH] at y;have L:(b.setCell ⟨n1,7,none⟩ u).heap.size=b.heap.size:=by simp[World.setCell]
 have h:gZ (.slice (some ⟨a,0,none⟩) m o)=[a]:=rfl;have I:n1+1<=a/\(a∈gZ g\/k.heap.size+1<=a):=by
  rcases i with i | i | ⟨j,i,P⟩
  ·have:a∈gZ g:=ss i.symm;simp_all
  ·cases i
  ·cases i;grind [World.alloc]
 have J:a<b.heap.size:=vI f a (by rw[h];simp);have O:=Qbq _ _ _ q;have d:∀c,n1+1<=c->c<k.heap.size->c ∉ gZ g->(b.setCell ⟨n1,7,none⟩ u).heap[c]?=k.heap[c]?:=λc h1 F H=>by
  rw[Below.heap_setCell _ _ _ _ (by show c≠n1;omega),A.block c (by simp only[World.alloc,ZcH];omega) (λe=>H (ss e.symm)),Below.heap_alloc _ _ _ (by simp only[World.alloc,ZcH];omega),Below.heap_alloc _ _ _ F]
 have w:=ZbR.1 x;refine⟨ni f λc p _=>Below.heap_setCell _ _ _ _ (by rw[h,ZaI] at p;show c≠n1;omega),Ua (vH (lY M) _ _ _ q λc p hl=>d c (by have:=s c p;omega) hl λhk=>?_) (qb (lY M) _ _ _ v λc p hl=>(d c (t c (ZaC _ p)).1 ω λhk=>w.2.2 c hk c p rfl).trans (z.block c hl)),?_,?_⟩
 ·grind
 ·rw[h,List.singleton_append,List.nodup_cons,ZbR];grind
 ·grind
set_option maxHeartbeats 4000000 in
theorem ZF {M:Pm D} {y:List Nd} {b o cap:Nat} (hl:y.length<=1000000) (E:y.length<=cap):∀(n:Nat) (t:ai) (at_:Nat) (rest:List Nd) (w:World),(aE t).length<=n->kA t->y.drop at_=aE t++rest->Rd M w b o (aY (D:=D) 7 y)->b<w.heap.size->
  Calls prog 129 #[.slice (some ⟨b,o,none⟩) y.length cap,.int .i64 at_] w λe w'=>∃(x:E8) (F:List Nat),e=.returned (.tuple #[.agg x.1.toArray,.int .i64 ((at_+(aE t).length:Nat):Int)])/\TA M w' t x F/\F.Nodup/\(∀c∈F,w.heap.size<=c)/\Below w.heap.size w w':=by
 intro n
 induction n with
 | zero=>
  intro t at_ rest w h
  cases t
  grind [aE]
 | succ n ih=>
  intro t at_ rest w hn hw hd hR hb
  obtain⟨op,r,mn,mx,lz,cap,nk,a⟩:=t
  rw[aE] at hn hd
  rw[kA] at hw
  obtain⟨_,rfl,X⟩:=hw
  have ha:at_<y.length:=by
   grind [List.drop_eq_nil_of_le]
  have hx:y[at_]?=some ⟨op,r,mn,mx,lz,cap,a.length⟩:=by
   have:=ZaR (λl=>l[0]?) hd
   grind
  obtain⟨vr,hvr,hin,c0,c1,c2,c3,c4,c5,c6⟩:=nodeAt hR hx
  obtain⟨H,rn,rc,rfl⟩:=AA hvr
  have HX:=Lib.hid (p:=Rd M w b o (aY (D:=D) 7 y)) hR
  clear hR hx
  go_enter Tryz.func129,Tryz.ntmps129
  go_wp2_with fail
  have hzs:w.heap.size<w.heap.size+2:=ω
  go_loopg [1,7] a.length (λg p i wr=>∃(k:Nat) (R:Value) (l:List E8) (G:List Nat),k<=a.length/\g=a.length-k/\p=.int .i64 ((at_+1+(aB (a.take k)).length:Nat):Int)/\i=.int .i64 k/\
   wr.heap[w.heap.size]?=some (.cells #[.int .i64 0,.slice none 0 0,.int .i64 0,.int .i64 0,.bool false,.int .i64 0,.int .i64 0,.slice none 0 0] 221 (0,0))/\
   wr.heap[w.heap.size+1]?=some (.cells #[.int .i64 op,.slice H rn rc,.int .i64 mn,.int .i64 mx,.bool lz,.int .i64 cap,.int .i64 a.length,R] 221 (0,0))/\
   qp wr R l/\KA M wr (a.take k) l G/\(gZ R++G).Nodup/\(∀c∈gZ R++G,w.heap.size+2<=c/\c<wr.heap.size)/\w.heap.size+2<=wr.heap.size/\Below w.heap.size w wr)
  case atStart=>
   refine⟨0,_,[],[],ω,rfl,by rw[ZcA,aB];go_num,rfl,?_,?_,kb.nil _ _ _ _ _,by rw[ZcA,KA];exact⟨rfl,rfl⟩,by simp[gZ,Value.ownBlock],by simp[gZ,Value.ownBlock],by simp,?_⟩
   ·grind [Below.heap_alloc,heap_alloc_new]
   ·exact sr (by simp) _
   ·exact((Below.refl _ _).alloc (Zah _) _).alloc (by simp) _
  case round=>
   obtain⟨k,R,l,G,hk,rfl,rfl,rfl,hz,q,ho,N,O,L,dd,hbl⟩:=hrel
   have A:=HS N
   replace A:l.length=k:=by rw[A,Zar];omega
   have d6:wr.cell? ⟨w.heap.size+1,6,none⟩=some (.int .i64 a.length):=by simp[World.cell?,q]
   have d7:wr.cell? ⟨w.heap.size+1,7,none⟩=some R:=by simp[World.cell?,q]
   obtain⟨d,f,rfl,hrd,_⟩:=ho.rd
   rw[A] at ho O L d7 q
   have HL:=Lib.hid A
   have H1:=Lib.hid hz
   have H2:=Lib.hid q
   have H3:=Lib.hid ho
   have H4:=Lib.hid N
   have H5:=Lib.hid O
   have J:=Lib.hid L
   have H7:=Lib.hid hbl
   have H8:=Lib.hid X
   have H9:=Lib.hid hd
   clear hz q ho N O L hrd hd X A
   have hL:a.length<=y.length:=by
    have h1:=ZaR List.length H9.out
    grind [tk]
   by_cases hlt:k<a.length
   ·obtain⟨I,C⟩:∃I,a[k]?=some I:=⟨_,Zaf hlt⟩
    have ht:aB a=aB (a.take k)++(aE I++aB (a.drop (k+1))):=by
     grind [eB,cD,List.drop_eq_getElem_cons,List.take_append_drop]
    have htk:aB (a.take (k+1))=aB (a.take k)++aE I:=by rw[Zcr,C];exact xK _ _
    have hwt:kA I:=(pY a).1 H8.out I (ZaJ C)
    have U:y.drop (at_+1+(aB (a.take k)).length)=aE I++(aB (a.drop (k+1))++rest):=by
     have h1:=ZaR (List.drop (1+(aB (a.take k)).length)) H9.out
     grind [List.drop_drop]
    have z:=ih I (at_+1+(aB (a.take k)).length) _ wr (by rw[ht] at hn;simp only[Zae,Zab] at hn;omega) hwt U (λi v e=>let ⟨v',a1,a2⟩:=HX.out i v e;⟨v',(H7.out.cell (p:=⟨b,o+i,none⟩) hb).trans a1,a2⟩) ω
    have HT:=Lib.hid ht
    have HK:=Lib.hid htk
    have HX':=Lib.hid C
    clear ht htk C U hwt
    generalize hm:(aB (a.take k)).length=m at z
    have HM:=Lib.hid hm
    clear hm
    go_wp2_with fail
    refine z.mono ?_
    rintro e w1 ⟨x1,F1,rfl,Q,Y,V,lD⟩
    obtain⟨qa,qn,qc,pa,pn,pc,ex⟩:=xV Q
    rw[ex]
    have G1:=Lib.hid Q
    have G2:=Lib.hid Y
    have G3:=Lib.hid V
    have G4:=Lib.hid lD
    have G5:=Lib.hid ex
    have hs1:=lD.size
    have Z:qp w1 (.slice d k f) l:=H3.out.below lD (Zah _)
    have s:=(lD.block (w.heap.size+1) ω).trans H2.out
    have d7:w1.cell? ⟨w.heap.size+1,7,none⟩=some (.slice d k f):=by rw[iS s];rfl
    have O1:=Lib.hid Z
    have B1:=Lib.hid s
    have hs2:w.heap.size+1<w1.heap.size:=ω
    have hs3:w.heap.size+1<w1.heap.size+1:=ω
    have hlm:l.length<1000000000:=by rw[HL.out];omega
    clear Q Y V lD ex Z s
    go_wp2_with (at_builtin;go_must (refine Ca (ba:=e8) (v:=.slice d k f) ZE rfl rfl rfl rfl (by simp) (O1.out.alloc _) x1 G5.out.symm HR QdT hlm (by decide) (Zaj _) ?_);intro v2 w2 o2 g2 f2;go_must (obtain⟨g',cp,rfl,_⟩:=o2.form (by simp);have B:=(g2.block (w.heap.size+1) (by simp;omega) (λe=>by have:=(J.out _ (Zay _ (by unfold gZ;rw[<-e];exact ZaI.2 rfl))).1;omega)).trans ((Below.heap_alloc _ _ _ (by simp;omega)).trans ((Below.heap_alloc _ _ _ hs2).trans B1.out));have d8:w2.cell? ⟨w.heap.size+1,7,none⟩=some (.slice d k f):=iS B 7;have f8:w2.frozen? ⟨w.heap.size+1,7,none⟩=false:=KI B 7;have B2:=Lib.hid B;have O2:=Lib.hid o2;have G6:=Lib.hid g2;have G7:=Lib.hid f2;clear B o2 g2 f2))
    go_roundg (a.length-(k+1))
    case measure=>omega
    case rel=>
     have hE:(l++[x1]).length=l.length+1:=by simp
     have hr:=Ud (u:=.slice (some ⟨g',0,none⟩) (l.length+1) cp) H3.out H4.out H5.out (n1:=w.heap.size+1) (λc E=>J.out c E) dd G4.out G1.out G2.out G3.out O2.out G6.out G7.out
     rw[hE] at hr
     refine⟨k+1,_,_,_,ω,rfl,?_,by go_num,?_,?_,hr.1,?_,hr.2.2.1,hr.2.2.2,?_,?_⟩
     ·rw[HK.out,Zab,HM.out];go_num
     ·rw[Below.heap_setCell _ _ _ _ (by show w.heap.size≠w.heap.size+1;omega),G6.out.block _ (by simp;omega) (λe=>by have:=(J.out _ (Zay _ (ss e.symm))).1;omega),Below.heap_alloc _ _ _ (by simp;omega),Below.heap_alloc _ _ _ ω,G4.out.block _ ω];exact H1.out
     ·simp only[World.setCell,ZbF,Zac,B2.out,Zcp];rfl
     ·rw[Zcr,HX'.out];exact hr.2.1
     ·have:=G6.out.size;simp only[World.alloc,ZcH] at this;simp only[World.setCell,Array.size_modify];omega
     ·exact((H7.out.trans (G4.out.mono ω)).trans (((Below.refl w.heap.size w1).alloc ω _).alloc (by simp;omega) _)).grown G6.out (by simp;omega) (λc e=>by have:=(J.out _ (Zay _ (ss e))).1;omega) |>.setCell (by show w.heap.size<=w.heap.size+1;omega) _
   ·obtain rfl:k=a.length:=ω
    have hcz:∀j,wr.cell? ⟨w.heap.size,j,none⟩=(#[.int .i64 0,.slice none 0 0,.int .i64 0,.int .i64 0,.bool false,.int .i64 0,.int .i64 0,.slice none 0 0]:Array Value)[j]?:=λj=>iS H1.out j
    have hfz:∀j,wr.frozen? ⟨w.heap.size,j,none⟩=false:=KI H1.out
    have hcb:∀j,wr.cell? ⟨w.heap.size+1,j,none⟩=(#[.int .i64 op,.slice H rn rc,.int .i64 mn,.int .i64 mx,.bool lz,.int .i64 cap,.int .i64 a.length,.slice d a.length f]:Array Value)[j]?:=λj=>iS H2.out j
    clear d6 d7
    go_wp2_with fail
    obtain⟨W,hW⟩:∃W,W=EB wr w.heap.size (.int .i64 op) (.slice H rn rc) (.int .i64 mn) (.int .i64 mx) (.bool lz) (.int .i64 cap) (.int .i64 a.length) (.slice d a.length f):=⟨_,rfl⟩
    have T:=AB H1.out rfl (v0:=.int .i64 op) (v1:=.slice H rn rc) (v2:=.int .i64 mn) (v3:=.int .i64 mx) (v4:=.bool lz) (v5:=.int .i64 cap) (v6:=.int .i64 a.length) (v7:=.slice d a.length f)
    have K:=λk h=>xW (w:=wr) (b:=w.heap.size) (k:=k) (v0:=.int .i64 op) (v1:=.slice H rn rc) (v2:=.int .i64 mn) (v3:=.int .i64 mx) (v4:=.bool lz) (v5:=.int .i64 cap) (v6:=.int .i64 a.length) (v7:=.slice d a.length f) h
    have S:=lj (w:=wr) (b:=w.heap.size) (v0:=.int .i64 op) (v1:=.slice H rn rc) (v2:=.int .i64 mn) (v3:=.int .i64 mx) (v4:=.bool lz) (v5:=.int .i64 cap) (v6:=.int .i64 a.length) (v7:=.slice d a.length f)
    rw[<-hW] at T K S
    change bodyPost _ _ _ _ _ (EB wr w.heap.size (.int .i64 op) (.slice H rn rc) (.int .i64 mn) (.int .i64 mx) (.bool lz) (.int .i64 cap) (.int .i64 a.length) (.slice d a.length f))
    rw[<-hW]
    have hT:=H4.out
    have hP:=H9.out
    rw[ZaM] at hT ⊢
    have hv:=run_loadVar_row (P:=prog) W w.heap.size _ 221 _ _ _ T Tryz.underlying221 rfl (by kernel_rfl)
    refine bodyPost_ret (Ub rfl _ rfl hv) rfl ?_
    refine⟨⟨[.int .i64 op,.slice H rn rc,.int .i64 mn,.int .i64 mx,.bool lz,.int .i64 cap,.int .i64 a.length,.slice d a.length f],rfl,by simp[Value.oneCell']⟩,gZ (.slice d a.length f)++G,?_,?_,H5.out,λc E=>by have:=(J.out c E).1;omega,?_⟩
    ·have hn':at_+1+(aB a).length=at_+(aE (.mk op r mn mx lz cap (a.length:Int) a)).length:=by rw[aE,Zae];omega
     rw[<-hn']
     rfl
    ·rw[TA]
     exact⟨_,_,l,G,rfl,hvr,hin,ni H3.out λc E _=>K c (by have:=(J.out c (Zay _ E)).1;omega),rfl,qb (lY M) _ _ _ hT λc E _=>K c (by have:=(J.out c (ZaC _ E)).1;omega)⟩
    ·exact H7.out.trans (S.mono (Zah _))
end sx
set_option maxRecDepth 100000
set_option maxHeartbeats 4000000
namespace sx
noncomputable section
open Go Go.RowKit cls syn
def HU (y:cF):Prop:=let b:=ah y.r;Iv True/\(∃z:B8,RAQ y.r b ([]=z.o/\0=((z.i:Nat):Int)/\0=ah z.t/\[]=z.t/\(Iv (xQ y z))))/\(∀x:B8,let q1:=((x.i:Nat):Int);let a:=gt (rW.mk [] []) y.r q1.toNat;let f:=!(!(jQ x.t a.name));let c:=(ck a.text).1;let d:=rb x.t a.name q1;let g:=!(aC (ck a.text).2.1 0);let e:=bM x.o [lk (cL c)];(Iv (xQ y x))->ak (az q1 b) (aI 0 q1/\az q1 b/\Iv True/\RAP a.name (ak (!(iZ a.name)) ([]=(bs y).out/\False) (Iv (TbP (Wc.mk x.t a.name q1))/\aa [a.name] (aa [q1,ah x.t] (aa [x.t] (ak f ([]=(bs y).out/\False) (Iv True/\aa [a.text] (ak g ([]=(bs y).out/\False) (Iv (oo c)/\aa [c] (bF (ah e) 24/\∃z:B8,aa [y.r] (aa [b] (e=z.o/\aD .i64 q1 1=((z.i:Nat):Int)/\ah d=ah z.t/\d=z.t/\(Iv (xQ y z/\(y.r.length-z.i)<(y.r.length-x.i))))))))))))))) (x.o=(bs y).out/\RAD (ah x.t=ah (bs y).tab/\x.t=(bs y).tab/\True)))
def HV (y:cF):Prop:=let b:=ah y.r;Iv True/\(∃z:B8,RAQ y.r b ([]=z.o/\0=((z.i:Nat):Int)/\0=ah z.t/\[]=z.t/\(Iv (xQ y z))))/\(∀x:B8,let q1:=((x.i:Nat):Int);let a:=gt (rW.mk [] []) y.r q1.toNat;let g:=!(!(jQ x.t a.name));let c:=(ck a.text).1;let d:=rb x.t a.name q1;let e:=(ck a.text).2.1;let f:=bM x.o [lk (cL c)];(Iv (xQ y x))->ak (az q1 b) (aI 0 q1/\az q1 b/\Iv True/\RAP a.name (ak (!(iZ a.name)) (14=(bs y).au/\q1=(bs y).at_/\True) (Iv (TbP (Wc.mk x.t a.name q1))/\aa [a.name] (aa [q1,ah x.t] (aa [x.t] (ak g (8=(bs y).au/\q1=(bs y).at_/\True) (Iv True/\aa [a.text] (ak (!(aC e 0)) (e=(bs y).au/\q1=(bs y).at_/\True) (Iv (oo c)/\aa [c] (bF (ah f) 24/\∃z:B8,aa [y.r] (aa [b] (f=z.o/\aD .i64 q1 1=((z.i:Nat):Int)/\ah d=ah z.t/\d=z.t/\(Iv (xQ y z/\(y.r.length-z.i)<(y.r.length-x.i))))))))))))))) (False))
abbrev RAH (p:Prop):Prop:=aa ([[]]:List (List aV)) p
abbrev RAI (p:Prop):Prop:=aa ([[]]:List (List Int)) p
def HW (y:cF):Prop:=let a:=B9 y;let q1:=b6 (bs y).out;let k:=ah (bs y).tab;let o:=!(aC (bs y).au 0);let b:=([lk (cL a)]:List (List Nd));let l:=!(aC (ck y.c).2.1 0);let m:=!(aC (b6 b).2.1 0);let i:=λp:Prop=>RAD (RA4 y p);let j:=λp:Prop=>RA4 y p;let n:=λp:Prop=>RAP (bs y).out (RAE p);let d:Prop:=(RAQ k (bs y).tab (True));let e:Prop:=([]=(bY y).cc/\[]=(bY y).cs/\d);let f:Prop:=(RA4 y (RAH (RAI (RAH (RAI (False))))));let g:Prop:=((b6 b).1.1=(bY y).cc/\(b6 b).1.2=(bY y).cs/\d);let u:=Iv ((Ne (y,true).1.c [])->(ck y.c).2.1=0);let h:Prop:=(RA4 y (RAH (RAI (RAH (RAI (RAQ k (bs y).tab (RA4 y (u))))))));ak (az 8 (ah y.r)) (False) (ak (yO y) (Iv (TO (y,true))/\j (ak (!(aC 0 0)) (False) (Iv (y.r.length<=1000)/\j ((ak (!(seq y.c [])) (Iv True/\RAP y.c (ak l (aa [y.r] (False)) (∃z:Unit,n ((ck y.c).1=a/\h)))) (∃z:Unit,n ([]=a/\h)))/\(∀x:Unit,u->Iv (po (bs y).out)/\RAP (bs y).out (ak (!(aC q1.2.1 0)) (False) (ak (!(seq y.c [])) (Iv (oo a)/\aa [a] (Iv (po b)/\aa [b] (ak m (aa [y.r] (False)) (i (q1.1.1=(bY y).ae/\q1.1.2=(bY y).st/\g))))) (i (q1.1.1=(bY y).ae/\q1.1.2=(bY y).st/\e))))))))) (Iv (TO (y,false))/\j (ak o (False) (Iv (y.r.length<=1000)/\j ((ak (!(seq y.c [])) (Iv True/\RAP y.c (ak l (aa [y.r] (False)) (∃z:Unit,aa [(bs y).at_] ((ck y.c).1=a/\f)))) (∃z:Unit,RAP (bs y).at_ ([]=a/\f)))/\(∀x:Unit,u->Iv (po [])/\RAP ([]:List (List Nd)) (ak (!(aC (b6 []).2.1 0)) (False) (ak (!(seq y.c [])) (Iv (oo a)/\aa [a] (Iv (po b)/\aa [b] (ak m (aa [y.r] (False)) (i ((b6 []).1.1=(bY y).ae/\(b6 []).1.2=(bY y).st/\g))))) (i ((b6 []).1.1=(bY y).ae/\(b6 []).1.2=(bY y).st/\e))))))))))
def HY (y:cF):Prop:=let a:=B9 y;let q1:=ah (bs y).tab;let l:=!(aC (bs y).au 0);let b:=(ck y.c).2.1;let g:=([lk (cL a)]:List (List Nd));let i:=(b6 (bs y).out).2;let m:=!(aC (b6 g).2.1 0);let h:=λp:Prop=>RA4 y p;let k:=λp:Prop=>RAP (bs y).out (RAE p);let j:Prop:=(ah y.r=(bY y).at_/\True);let d:Prop:=(RA4 y (RAH (RAI (RAH (RAI (False))))));let u:=Iv ((Ne (y,false).1.c [])->b=0);let e:Prop:=(RA4 y (RAH (RAI (RAH (RAI (RAQ q1 (bs y).tab (RA4 y (u))))))));let f:Prop:=(ak (!(seq y.c [])) (Iv (oo a)/\RAP a (Iv (po g)/\aa [g] (ak m (aa [y.r] ((b6 g).2.1=(bY y).au/\j)) (False)))) (False));let A:=aa [y.r] (b=(bY y).au/\j);ak (az 8 (ah y.r)) (13=(bY y).au/\8=(bY y).at_/\True) (ak (yO y) (Iv (TO (y,true))/\h (ak (!(aC 0 0)) (0=(bY y).au/\0=(bY y).at_/\True) (Iv (y.r.length<=1000)/\h ((ak (!(seq y.c [])) (Iv True/\RAP y.c (ak (!(aC b 0)) A (∃z:Unit,k ((ck y.c).1=a/\e)))) (∃z:Unit,k ([]=a/\e)))/\(∀x:Unit,u->Iv (po (bs y).out)/\RAP (bs y).out (ak (!(aC i.1 0)) (i.1=(bY y).au/\i.2=(bY y).at_/\True) (f))))))) (Iv (TO (y,false))/\h (ak l ((bs y).au=(bY y).au/\(bs y).at_=(bY y).at_/\True) (Iv (y.r.length<=1000)/\h ((ak (!(seq y.c [])) (Iv True/\RAP y.c (ak (!(aC b 0)) A (∃z:Unit,aa [(bs y).at_] ((ck y.c).1=a/\d)))) (∃z:Unit,RAP (bs y).at_ ([]=a/\d)))/\(∀x:Unit,u->Iv (po [])/\RAP ([]:List (List Nd)) (ak (!(aC (b6 []).2.1 0)) ((b6 []).2.1=(bY y).au/\(b6 []).2.2=(bY y).at_/\True) (f))))))))
end
end sx
namespace sx
open Go Go.RowKit cls syn
set_option maxRecDepth 100000
set_option maxHeartbeats 4000000
section
variable {G:List Gt} {ay:Ps->Ps×List Nd}
variable {l:List Nd} {c:List (List Nd)}
theorem eP:cA []:=λx a=>nomatch a
theorem KJ {x:Nd} (h:iN x) (hl:cA l):cA (x::l):=λy a=>by
 rcases List.mem_cons.mp a with h1 | h1
 ·grind
 ·exact hl y h1
def xX {op:Int} (hl:cA l) (mn mx:Int) (lz:Bool) (cap af:Int):cA (⟨op,[],mn,mx,lz,cap,af⟩::l):=KJ (Zaj _) hl
def su (l:List Rg) (h:l.length<=1000000):cA [wT l]:=KJ h eP
theorem ZG (s:Ps):(d_ G s).2.1.length<=1000000:=by
 grind [d_,zA]
def QdU (s:Ps):cA (rQ G s).2:=by
 unfold rQ;simp only;split
 ·exact eP
 ·split
  ·exact eP
  ·split
   ·exact eP
   ·refine su _ ?_;split<;>exact kX _
def Ui (A:∀s,cA (ay s).2) (s:Ps):cA (hZ G ay s).2:=by
  unfold hZ;generalize a_ G s.next 63=free;cases free<;>simp only[Zbv,Za0,ZaE]
  all_goals
    split
    · exact eP
    · split
      · exact eP
      · first
          | (split
             · exact eP
             · split
               · exact eP
               · first | exact A _ | exact xX (A _) _ _ _ _ _)
          | (split
             · exact eP
             · first | exact A _ | exact xX (A _) _ _ _ _ _)
theorem ZH (A:∀s,cA (ay s).2) (s:Ps):cA (jd G ay s).2:=by
 unfold jd;simp only;split
 ·exact eP
 ·split
  ·exact Ui A s
  ·split
   ·exact QdU s
   ·split
    ·exact su _ (ZG s)
    ·split
     ·exact su _ (kX _)
     ·split
      ·exact xX eP _ _ _ _ _
      ·split
       ·exact xX eP _ _ _ _ _
       ·split
        ·exact eP
        ·exact su _ (kX _)
theorem ZI (s:Ps) (mn mx:Int) (h:cA l):cA (nH G s mn mx l).2:=by
 unfold nH;split
 ·exact eP
 ·exact xX h _ _ _ _ _
theorem QdV (A:∀s,cA (ay s).2) (s:Ps):cA (fu G ay s).2:=by
 grind [ZH,fu,eP,ZI]
theorem KK (op:Int) (h:∀l∈c,cA l):cA (bX op c):=by
 match c,h with
 | [],_=>exact xX eP _ _ _ _ _
 | [x],h=>exact h x (by simp)
 | a::b::c,h=>
  refine xX (λx d=>?_) _ _ _ _ _;have⟨l,hl,d⟩:=List.mem_flatten.mp d;exact h l hl x d
theorem Cb (h:∀x∈c,cA x) (b:cA l):∀x∈c++[l],cA x:=λx hl=>by
 grind
theorem EC (A:∀s,cA (ay s).2):∀(n:Nat) (s:Ps) (a:List (List Nd)),(∀l∈a,cA l)->∀l∈(eE G ay n s a).2,cA l
 | 0,s,a,h=>h
 | n+1,s,a,h=>by
  rw[eE];split
  ·exact EC A n _ _ (Cb h (QdV A s))
  ·exact h
def Uj (A:∀s,cA (ay s).2) (s:Ps):cA (mB G ay s).2:=KK 3 (EC A _ _ _ λl hl=>nomatch hl)
theorem ED (A:∀s,cA (ay s).2):∀(n:Nat) (s:Ps) (a:List (List Nd)),(∀l∈a,cA l)->∀l∈(gu G ay n s a).2,cA l
 | 0,s,a,h=>h
 | n+1,s,a,h=>by
  rw[gu];split
  ·exact ED A n _ _ (Cb h (Uj A s.next))
  ·exact h
theorem HZ:∀(n:Nat) (s:Ps),cA (qI G n s).2
 | 0,s=>eP
 | n+1,s=>KK 4 (ED (HZ n) _ _ _ λl hl=>by rw[List.mem_singleton.mp hl];exact Uj (HZ n) s)
end
variable {l:List Row} {k:By}
theorem l9 (y:By):cA (ck y).1:=by
 grind [ck,eP,wU,HZ]
theorem KL (v:Int) (h:jQ l k=false):rb l k v=l.take (lH l k)++⟨k,v⟩::l.drop (lH l k):=by
 grind [rb]
theorem QdW {j:Nat} (h:j<lH l k) (a:j<l.length):(l[j]).k<k:=by
 have:=ZdK h;grind
theorem Uk (d:B5 l) (f:jQ l k=false) {j:Nat} (h:lH l k<=j) (c:j<l.length):k<(l[j]).k:=by
 have b:∀i (hi:i<l.length),(l[i]).k≠k:=λi hi e=>by
  grind [jQ]
 have a:lH l k<l.length:=Nat.lt_of_le_of_lt h c;have h0:¬(l[lH l k]).k<k:=by
  have:=ZcC (w:=a);simp only[Zan,Zbi] at this;exact this
 have h1:k<(l[lH l k]).k:=Std.lt_of_le_of_ne ω λe=>b _ a e.symm
 rcases Zbm (lH l k) j with e | e
 ·exact Zdk h1 (List.pairwise_iff_getElem.mp d _ _ a c e)
 ·grind
theorem Ul {v:Int} (c:B5 l) (g:jQ l k=false):B5 (rb l k v)/\(rb l k v).length=l.length+1:=by
 rw[KL v g];constructor
 ·unfold B5;rw[ZbC];refine⟨ZdS (List.take_sublist _ _) c,List.pairwise_cons.mpr ⟨λb f=>?_,ZdS (List.drop_sublist _ _) c⟩,λa d b f=>?_⟩
  ·grind [List.getElem_of_mem,Uk]
  ·have⟨i,hi,e⟩:=Za3 d;have h1:a.k<k:=by grind [QdW]
   grind [List.getElem_of_mem,List.lt_trans,Uk]
 ·grind
theorem xY {y:cF} {x:B8} (h:xQ y x) (b:x.i<y.r.length):
  (iZ (y.r.getD x.i ⟨[],[]⟩).name=false->(bs y).au=14/\(bs y).at_=x.i)/\
  (iZ (y.r.getD x.i ⟨[],[]⟩).name->jQ x.t (y.r.getD x.i ⟨[],[]⟩).name->(bs y).au=8/\(bs y).at_=x.i)/\
  (iZ (y.r.getD x.i ⟨[],[]⟩).name->jQ x.t (y.r.getD x.i ⟨[],[]⟩).name=false->((ck (y.r.getD x.i ⟨[],[]⟩).text).2.1≠0->(bs y).au=(ck (y.r.getD x.i ⟨[],[]⟩).text).2.1/\(bs y).at_=x.i)/\
   ((ck (y.r.getD x.i ⟨[],[]⟩).text).2.1=0->xQ y ⟨rb x.t (y.r.getD x.i ⟨[],[]⟩).name x.i,x.o++[cL (ck (y.r.getD x.i ⟨[],[]⟩).text).1],x.i+1⟩)):=by
 have⟨h1,d,j,f,a⟩:=h;rw[Zaq b,lX] at a;rw[eG b];refine⟨λe=>?_,λc e=>?_,λc e2=>⟨λe=>?_,λe=>?_⟩⟩
 ·grind
 ·grind
 ·grind
 ·rw[Zaa (by grind),Zaa (by grind),Zaa ω] at a;have⟨g,k⟩:=Ul (v:=(x.i:Int)) d e2;exact⟨b,g,by grind,by simp[f],a⟩
theorem QiI (y:cF) (b:Bool) (l:Ew.pre (y,b)):(b->HU y)/\(b=false->HV y):=by
 obtain⟨hl,s⟩:y.r.length<=8/\b=yO y:=l;have m:(yO y↔(bs y).au=0):=by grind [yO]
 have hz:xQ y ⟨[],[],0⟩:=⟨Zaj _,List.Pairwise.nil,Zah _,rfl,by grind [bs,aJ]⟩;have k:∀n,gt (rW.mk [] []) y.r n=y.r.getD n ⟨[],[]⟩:=λ_=>rfl
 constructor
 ·intro p;unfold HU;simp only[bN,bh,aw,k,br,Zad,a8,Zan,Zao,aJ];refine⟨⟨⟨[],[],0⟩,rfl,rfl,rfl,rfl,hz⟩,λx c=>⟨λe=>?_,λe=>?_⟩⟩
  ·have f:x.i<y.r.length:=ω;have⟨g,j,s3⟩:=xY c f;have⟨i1,i2,i3,i4,i5⟩:=c;refine⟨ω,e,λq=>?_,λq=>⟨⟨i2,by grind⟩,λa=>?_,λa=>⟨λd=>?_,λd=>⟨l9 _,?_,_,rfl,bL ω,rfl,rfl,(s3 q a).2 d,by grind⟩⟩⟩⟩
   ·grind
   ·grind
   ·grind
   ·grind
  ·have⟨i1,i2,i3,i4,i5⟩:=c;grind [lX]
 ·intro o;have h0:(bs y).au≠0:=λh=>by grind
  unfold HV;simp only[bN,bh,aw,k,br,Zad,a8,Zan,Zao,aJ];refine⟨⟨⟨[],[],0⟩,rfl,rfl,rfl,rfl,hz⟩,λx c=>⟨λe=>?_,λe=>?_⟩⟩
  ·have f:x.i<y.r.length:=ω;have⟨g,j,s3⟩:=xY c f;have⟨i1,i2,i3,i4,i5⟩:=c;refine⟨ω,e,λq=>⟨(g q).1.symm,(g q).2.symm⟩,λq=>⟨⟨i2,by grind⟩,λa=>⟨(j q a).1.symm,(j q a).2.symm⟩,λa=>⟨λd=>⟨((s3 q a).1 d).1.symm,((s3 q a).1 d).2.symm⟩,λd=>⟨l9 _,?_,_,rfl,bL ω,rfl,rfl,(s3 q a).2 d,by grind⟩⟩⟩⟩;simp only[Zab,Zae,Zak];omega
  ·have⟨i1,i2,i3,i4,i5⟩:=c;have:x.i=y.r.length:=ω;rw[this,ZbH,lX] at i5;rw[<-i5] at h0;exact h0 rfl
def QiJ (hs:Ok HC) (b:Ok cK) (c:Ok xu):Ok Ew:=QtT (k:=Ew) (T:=HU) (F:=HV) [TJ,HA,HC,yK,Ef] f73 Qig id id (λ_=>rfl) ⟨Qid,Qia,hs,QaM b c,Qa2 b⟩ (λy a=>(QiI y true a).1 rfl) λy a=>(QiI y false a).2 rfl
theorem vJ {l:List Nd} (h:cA l):cA (cL l):=by
 unfold cL;split
 ·rename_i b
  have⟨t,h1,a,c⟩:=jq b;have e:ct l=(t,[]):=by grind [pe]
  rw[e];exact(pX t (Ei t h1) (by rw[<-a];exact⟨Zah _,h⟩)).2.2
 ·exact eP
theorem vK:∀(l:List rW) (i:Nat) (t:List Row) (o:List (List Nd)),(∀x∈o,cA x)->(∀x∈(lX l i t o).out,cA x)/\(lX l i t o).out.length<=o.length+l.length
 | [],i,t,o,h=>⟨h,Zah _⟩
 | x::l,i,t,o,h=>by
  rw[lX];split
  ·grind
  ·split
   ·grind
   ·split
    ·grind
    ·have⟨h1,a⟩:=vK l (i+1) (rb t x.name i) (o++[cL (ck x.text).1]) (Cb h (vJ (l9 _)));grind
section
variable {y:cF} (h1:¬8<y.r.length)
include h1
theorem Um (a:(bs y).au≠0):jr y=KD (bs y).au (bs y).at_:=by grind [jr]
theorem Un (a:(bs y).au=0) (b:y.c≠[]) (d:(ck y.c).2.1≠0):jr y=KD (ck y.c).2.1 y.r.length:=by grind [jr]
variable (h2:(bs y).au=0) (h3:y.c≠[]->(ck y.c).2.1=0)
include h2 h3
theorem Uo (a:(b6 (bs y).out).2.1≠0):jr y=KD (b6 (bs y).out).2.1 (b6 (bs y).out).2.2:=by grind [jr]
variable (h4:(b6 (bs y).out).2.1=0)
include h4
theorem Up (a:y.c≠[]) (b:(b6 [cL (ck y.c).1]).2.1≠0):jr y=KD (b6 [cL (ck y.c).1]).2.1 y.r.length:=by grind [jr]
theorem Uq (a:y.c≠[]) (b:(b6 [cL (ck y.c).1]).2.1=0):jr y=⟨(b6 (bs y).out).1.1,(b6 (bs y).out).1.2,(b6 [cL (ck y.c).1]).1.1,(b6 [cL (ck y.c).1]).1.2,0,0⟩:=by grind [jr]
theorem Ur (a:y.c=[]):jr y=⟨(b6 (bs y).out).1.1,(b6 (bs y).out).1.2,[],[],0,0⟩:=by grind [jr]
end
theorem QiK (y:cF) (b:Bool) (B:xR.pre (y,b)):(b->HW y)/\(b=false->HY y):=by
 obtain⟨hl,E⟩:y.r.length<=1000/\b=oz y:=B;have z:bY y=jr y:=by grind [bY,aJ]
 have n:y.c≠[]->B9 y=(ck y.c).1:=λh=>by grind [B9,aJ]
 have j:y.c=[]->B9 y=[]:=λh=>by grind [B9,aJ]
 have p:b↔(jr y).au=0:=by grind [oz]
 have m:(yO y↔(bs y).au=0):=by grind [yO]
 have i:(yO y=false↔(bs y).au≠0):=by grind
 have v:∀{s:By},seq s []=false↔s≠[]:=λ{s}=>by grind
 obtain⟨C,F⟩:(∀x∈(bs y).out,cA x)/\(bs y).out.length<=y.r.length:=by
  grind [vK,bs,aJ]
 have w:po (bs y).out:=⟨ω,C⟩;have q:cA (B9 y):=by
  by_cases h:y.c=[]
  ·grind [eP]
  ·grind [l9]
 have u:po [cL (B9 y)]:=⟨by simp,λl hl=>by rw[List.mem_singleton.mp hl];exact vJ q⟩;have t:8<y.r.length->jr y=KD 13 8:=λh=>by grind [jr]
 constructor
 ·intro A;have h0:=p.mp A;unfold HW;simp only[bN,bh,aw,w_,v,Zan,Zao,aJ,ZaY,ZaZ,m,i];refine⟨λo=>?_,λo=>⟨λd=>⟨⟨by grind,(m.mpr d).symm⟩,λh=>absurd rfl h,hl,⟨λa=>⟨λf=>?_,λf=>⟨(n a).symm,λ_=>f⟩⟩,λa=>⟨(j a).symm,λh=>absurd a h⟩⟩,λk=>⟨w,λg=>?_,λg=>⟨λa=>⟨q,u,λe=>?_,λe=>?_⟩,λa=>?_⟩⟩⟩,λd=>absurd ?_ d⟩⟩
  ·rw[t ω] at h0;cases h0
  ·rw[Un ω d a f] at h0;exact f h0
  ·rw[Uo ω d k g] at h0;exact g h0
  ·rw[n a] at e;rw[Up ω d k g a e] at h0;exact e h0
  ·grind [Uq]
  ·grind [Ur]
  ·refine Zch λh=>?_
   rw[Um ω h] at h0;exact h h0
 ·intro D;unfold HY;rw[z];simp only[bN,bh,aw,w_,v,Zan,Zao,aJ,ZaY,ZaZ,m,i];refine⟨λo=>?_,λo=>⟨λd=>⟨⟨by grind,(m.mpr d).symm⟩,λh=>absurd rfl h,hl,⟨λa=>⟨λf=>?_,λf=>⟨(n a).symm,λ_=>f⟩⟩,λa=>⟨(j a).symm,λh=>absurd a h⟩⟩,λk=>⟨w,λg=>?_,λg=>⟨λa=>⟨q,u,λe=>?_,λe=>?_⟩,λa=>?_⟩⟩⟩,λd=>⟨⟨by grind,(i.mpr d).symm⟩,λ_=>?_,λh=>absurd h d⟩⟩⟩
  ·rw[t ω];exact⟨rfl,rfl⟩
  ·rw[Un ω d a f];exact⟨rfl,rfl⟩
  ·rw[Uo ω d k g];exact⟨rfl,rfl⟩
  ·rw[n a] at e ⊢;rw[Up ω d k g a e];exact⟨rfl,rfl⟩
  ·grind [Uq]
  ·grind [Ur]
  ·rw[Um ω d];exact⟨rfl,rfl⟩
def QiL (hs:Ok HC) (a:Ok cK) (c:Ok xu):Ok xR:=QtT (k:=xR) (T:=HW) (F:=HY) [Ew,TK,yK,Hz,Ef] f28 Qik id id (λ_=>rfl) ⟨QiJ hs a c,Qie,QaM a c,Qh7 a,Qa2 a⟩ (λy b=>(QiK y true b).1 rfl) λy b=>(QiK y false b).2 rfl
end sx
set_option maxRecDepth 100000
set_option maxHeartbeats 4000000
namespace sx
noncomputable section
open Go Go.RowKit cls syn
def H_:bk D:=bP 130 ai (λa _=>uH a) dG (λy=>[.agg (D.ba 15 y)]) λy=>.list 7 (dc y)
def QqH (t:ai):ai:=.mk t.op t.r t.mn t.mx t.lz t.cap t.af.length t.af
abbrev tbx (t:ai):Nat×AO D.E:=(0,.cells (D.ba 15 t) 221 false)
def QqJ (y:H_.Y):cU D:=⟨[],[],[(122,⟨Nat,[],λx=>[(1,.ptr 0 0),(3,.grow 7 (o9 y x) 1),(4,QtJ x)],[],λ_=>[tbx (QqH y),(1,.tok 7 206)],2,λx=>x<=y.af.length,λx=>y.af.length-x⟩)],[],1,[]⟩
def QqK (y:H_.Y):Prop:=vc [H_.under dg (dg y)] f130 H_ QqJ y
def uR (a b:ai):Bool:=lk (decide (aE a=aE b))
def Nq:bk D:=bP 258 (ai×ai) (λa _=>QhF a) (λy=>dG y.1/\dG y.2) (λy=>[.agg (D.ba 15 y.1),.agg (D.ba 15 y.2)]) λy=>.bool (uR y.1 y.2)
def EE (y:ai×ai) (i:Nat):Prop:=i<=(dc y.1).length/\(dc y.1).length=(dc y.2).length/\∀j,j<i->(dc y.1).getD j (nd 0)=(dc y.2).getD j (nd 0)
def Nr (y:ai×ai) (i k:Nat):Prop:=EE y i/\i<(dc y.1).length/\({ (dc y.1).getD i (nd 0) with r:=[] }={ (dc y.2).getD i (nd 0) with r:=[] }/\((dc y.1).getD i (nd 0)).r.length=((dc y.2).getD i (nd 0)).r.length)/\k<=((dc y.1).getD i (nd 0)).r.length/\∀j,j<k->((dc y.1).getD i (nd 0)).r.getD j (0,0)=((dc y.2).getD i (nd 0)).r.getD j (0,0)
def QqL (y:Nq.Y):cU D:=⟨[],[],[(122,⟨Nat,[5,6],λi=>[(7,QtJ i)],[],λ_=>[],0,EE y,λi=>(dc y.1).length-i⟩)],[],1,
 [(15654,⟨Nat,λi=>⟨Nat,[5,6,7],λx=>[(8,QtJ x)],[],λ_=>[],0,Nr y i,λx=>((dc y.1).getD i (nd 0)).r.length-x⟩,none⟩)]⟩
def Ia:bk D:=bP 228 ai (λa _=>uH a) dG (λy=>[.agg (D.ba 15 y)]) λy=>.bool (fm y)
def QqN (y:Ia.Y):cU D:=⟨[],[],[(58,{ X:=Nat,aR:=[],sl:=λx=>[(1,.ptr 0 0),(3,QtJ x)],kp:=[],pc:=λ_=>[tbx y],nx:=1,inv:=λx=>x<=y.af.length/\∀j,j<x->fm (y.af.getD j bD)=false,me:=λx=>y.af.length-x })],[],1,[]⟩
def QqO (y:Ia.Y):Prop:=vc [Ia.under dg (dg y)] f228 Ia QqN y
abbrev RAA (v:ai) (p:Prop):Prop:=aa [v.r] (aa [v.mn] (aa [v.mx] (aa [v.lz] (aa [v.cap] p))))
def Us (y:ai):Prop:=let b:=y.af;let q1:=b.length;let d:=(q1:Int);(∃z:Nat,([Nd.mk y.op y.r y.mn y.mx y.lz y.cap (ah b)]:List Nd)=o9 y z/\0=(z:Int)/\RAP y.op (RAA y (ah b=d/\aa [b] ((Iv (z<=q1))))))/\(∀x:Nat,let e:=az (x:Int) (ah b);let a:=gt (ai.mk 0 [] 0 0 false 0 0 []) b (x:Int).toNat;let c:=ai.mk a.op a.r a.mn a.mx a.lz a.cap a.nk a.af;let f:=bM (o9 y x) (dc c);(Iv (x<=q1))->ak e (aI 0 (x:Int)=true/\e=true/\Iv (dG c/\dg c<dg y)/\RA1 a (RAP a.af (bF (ah f) 72=true/\∃z:Nat,f=o9 y z/\aD .i64 (x:Int) 1=(z:Int)/\aa [y.op] (aa [y.r] (aa [y.mn,y.mx] (aa [y.lz] (aa [y.cap,d] (aa [b] ((Iv (z<=q1/\(q1-z)<(q1-x)))))))))))) (o9 y x=dc y/\True))
def ZJ:∀y,Us y=QqK y:=λy=>by kernel_rfl
def Ut (y:ai×ai):Prop:=let u:=(dc y.1).length;let q1:=ai.mk y.2.op y.2.r y.2.mn y.2.mx y.2.lz y.2.cap y.2.nk y.2.af;let v:=ai.mk y.1.op y.1.r y.1.mn y.1.mx y.1.lz y.1.cap y.1.nk y.1.af;let i:=dc v;let j:=dc q1;let c:=ah i;let g:=ah j;let A:=Nd.mk 0 [] 0 0 false 0 0;Iv (dG v)/\RA1 y.1 (RAP y.1.af (Iv (dG q1)/\aa [y.2.op] (aa [y.2.r] (aa [y.2.mn,y.2.mx] (aa [y.2.lz] (aa [y.2.cap,y.2.nk] (aa [y.2.af] (aa [y.1.op] (aa [y.1.r] (aa [y.1.mn,y.1.mx] (aa [y.1.lz] (aa [y.1.cap,y.1.nk] (aa [y.1.af] (aa [y.2.op] (aa [y.2.r] (aa [y.2.mn,y.2.mx] (aa [y.2.lz] (aa [y.2.cap,y.2.nk] (aa [y.2.af] (aa [y.2.op] (aa [y.2.r] (aa [y.2.mn,y.2.mx] (aa [y.2.lz] (aa [y.2.cap,y.2.nk] (aa [y.2.af] (ak (!(aC c g)) (false=uR y.1 y.2/\True) ((∃z:Nat,aa [i,j] (0=(z:Int)/\(Iv (EE y z))))/\(∀x:Nat,let a:=gt A i (x:Int).toNat;let b:=gt A j (x:Int).toNat;let w:=!(aC a.op b.op);let m:=!(kE a.lz b.lz);let n:=!(aC a.af b.af);let o:=!(aC a.cap b.cap);let p:=!(aC a.mx b.mx);let q:=!(aC a.mn b.mn);let s:=!(aC (ah a.r) (ah b.r));(Iv (EE y x))->ak (az (x:Int) c) (aI 0 (x:Int)/\az (x:Int) c/\aI 0 (x:Int)/\az (x:Int) g/\ak w (aa [a.op,b.op] (false=uR y.1 y.2/\True)) (aI 0 (x:Int)/\az (x:Int) c/\aI 0 (x:Int)/\az (x:Int) g/\ak q (aa [a.op,b.op,a.mn,b.mn] (false=uR y.1 y.2/\True)) (aI 0 (x:Int)/\az (x:Int) c/\aI 0 (x:Int)/\az (x:Int) g/\ak p (aa [a.op,b.op,a.mn,b.mn,a.mx,b.mx] (false=uR y.1 y.2/\True)) (aI 0 (x:Int)/\az (x:Int) c/\aI 0 (x:Int)/\az (x:Int) g/\ak m (aa [a.op,b.op,a.mn,b.mn,a.mx,b.mx] (aa [a.lz,b.lz] (false=uR y.1 y.2/\True))) (aI 0 (x:Int)/\az (x:Int) c/\aI 0 (x:Int)/\az (x:Int) g/\ak o (aa [a.op,b.op,a.mn,b.mn,a.mx,b.mx] (aa [a.lz,b.lz] (aa [a.cap,b.cap] (false=uR y.1 y.2/\True)))) (aI 0 (x:Int)/\az (x:Int) c/\aI 0 (x:Int)/\az (x:Int) g/\ak n (aa [a.op,b.op,a.mn,b.mn,a.mx,b.mx] (aa [a.lz,b.lz] (aa [a.cap,b.cap,a.af,b.af] (false=uR y.1 y.2/\True)))) (aI 0 (x:Int)/\az (x:Int) c/\aI 0 (x:Int)/\az (x:Int) g/\aa [a.op,b.op,a.mn,b.mn,a.mx,b.mx] (aa [a.lz,b.lz] (aa [a.cap,b.cap,a.af,b.af] (aa [a.r,b.r] (ak s (false=uR y.1 y.2/\True) (∃z:Nat,let k:=(List.getD (dc y.1) z (nd 0)).r.length;(∃d:Nat,aa [i,j] (aa [(x:Int)] (0=(d:Int)/\(Iv (Nr y z d)))))/\(∀h:Nat,let l:=az (h:Int) (ah a.r);let e:=gt (0,0) a.r (h:Int).toNat;let f:=gt (0,0) b.r (h:Int).toNat;let t:=!((aC e.1 f.1)&&(aC e.2 f.2));(Iv (Nr y z h))->aI 0 (x:Int)/\az (x:Int) c/\ak l (aI 0 (x:Int)/\az (x:Int) c/\aI 0 (h:Int)/\l/\aI 0 (x:Int)/\az (x:Int) g/\aI 0 (h:Int)/\az (h:Int) (ah b.r)/\aa [a.r] (aa [e.1,e.2] (aa [b.r] (aa [f.1,f.2] (ak t (false=uR y.1 y.2/\True) (∃d:Nat,aa [i,j] (aa [(x:Int)] (aD .i64 (h:Int) 1=(d:Int)/\(Iv (Nr y z d/\(k-d)<(k-h))))))))))) (∃d:Nat,aa [i,j] (aD .i64 (x:Int) 1=(d:Int)/\(Iv (EE y d/\(u-d)<(u-x)))))))))))))))))) (true=uR y.1 y.2/\True)))))))))))))))))))))))))))))
def Uu (y:ai):Prop:=let b:=y.af;let f:=λp:Prop=>RA1 y (RAP b p);let u:=λz:Nat=>(∀j:Nat,(Nat.le (Nat.succ j) z)->fm (List.getD b j bD)=false);ak (aC y.op 6) (true=fm y/\True) ((∃z:Nat,0=(z:Int)/\f ((Iv (z<=b.length/\u z))))/\(∀x:Nat,let c:=b.length;let e:=az (x:Int) (ah b);let a:=gt (ai.mk 0 [] 0 0 false 0 0 []) b (x:Int).toNat;let d:=ai.mk a.op a.r a.mn a.mx a.lz a.cap a.nk a.af;(Iv (x<=c/\(∀j:Nat,(Nat.le (Nat.succ j) x)->fm (List.getD b j bD)=false)))->ak e (aI 0 (x:Int)/\e/\Iv (dG d/\dg d<dg y)/\RA1 a (RAP a.af (ak (fm d) (true=fm y/\True) (∃z:Nat,aD .i64 (x:Int) 1=(z:Int)/\f ((Iv ((z<=c/\u z)/\(c-z)<(c-x)))))))) (false=fm y/\True)))
def ZL:∀y,Uu y=QqO y:=λy=>by kernel_rfl
theorem EF (l:List ai):l.length<=(aB l).length:=by
 induction l with
 | nil=>simp
 | cons a l b=>simp only[aB,Zab,Zae];rw[bU];simp;omega
theorem xZ {y:ai} (h:dG y) {x:Nat} (c:x<y.af.length):dG (y.af.getD x bD)/\o9 y x++dc (y.af.getD x bD)=o9 y (x+1)/\(o9 y (x+1)).length<=1000000:=by
 obtain⟨h1,a⟩:=h;have ht:=cm bD c;have d:y.af=y.af.take x++(y.af.getD x bD::y.af.drop (x+1)):=by
  simp_all
 have b:aB y.af=aB (y.af.take x)++(aE (y.af.getD x bD)++aB (y.af.drop (x+1))):=by
  grind [cD,aB]
 have hs:aB (y.af.take (x+1))=aB (y.af.take x)++aE (y.af.getD x bD):=by
  grind [cD,aB]
 have hlen:=ZaR List.length b;simp only[Zab] at hlen;rw[bU] at h1;simp only[Zae] at h1;unfold o9 dc;rw[aJ,aJ,aJ,hs];refine⟨⟨ω,λz hz=>a z ?_⟩,rfl,by grind⟩;grind [bU]
theorem dG.few {y:ai} (h:dG y):y.af.length<=1000000:=by
 have:=EF y.af;have h1:=h.1;grind [bU]
theorem QqP (y:ai) (a:H_.pre y):Us y:=by
 have a:dG y:=a;have hk:=a.few;unfold Us;have b:∀n,gt (ai.mk 0 [] 0 0 false 0 0 []) y.af n=y.af.getD n bD:=λ_=>rfl
 simp only[bh,gx,eV,mI,aw,a8,br,b,bS,Zad];refine⟨⟨0,by unfold o9;rw[aJ];rfl,rfl,Zaj _⟩,λx c=>⟨λe=>?_,λe=>?_⟩⟩
 ·obtain⟨k1,k2,k3⟩:=xZ a (show x<y.af.length by omega);rw[k2];exact⟨ω,e,⟨k1,iO ω⟩,ω,x+1,rfl,bL ω,ω,ω⟩
 ·grind [o9,dc,bU]
def Qbr:Ok H_:=Ql dg ZJ trivial QqP
theorem QqQ (y:ai×ai) (O:Nq.pre y):Ut y:=by
 obtain⟨a,b⟩:=y;obtain⟨o,K⟩:dG a/\dG b:=O;have I:uR a b=decide (aE a=aE b):=by grind [uR,aJ]
 have G:∀i,EE (a,b) i↔(i<=(aE a).length/\(aE a).length=(aE b).length/\∀j,j<i->(aE a).getD j (nd 0)=(aE b).getD j (nd 0)):=λi=>by grind [EE,dc,aJ]
 have H:∀i k,Nr (a,b) i k↔(EE (a,b) i/\i<(aE a).length/\({ (aE a).getD i (nd 0) with r:=[] }={ (aE b).getD i (nd 0) with r:=[] }/\((aE a).getD i (nd 0)).r.length=((aE b).getD i (nd 0)).r.length)/\k<=((aE a).getD i (nd 0)).r.length/\∀j,j<k->((aE a).getD i (nd 0)).r.getD j (0,0)=((aE b).getD i (nd 0)).r.getD j (0,0)):=λi k=>by unfold Nr dc;rw[aJ,aJ]
 have Q:(aE a).length<=1000000:=o.1;have m:∀i,i<(aE a).length->((aE a).getD i (nd 0)).r.length<=1000000:=λi hi=>o.2 _ (by grind)
 unfold Ut;have L:∀(l:List Nd) n,gt (Nd.mk 0 [] 0 0 false 0 0) l n=l.getD n (nd 0):=λ_ _=>rfl
 have s:∀(l:List Rg) n,gt (0,0) l n=l.getD n (0,0):=λ_ _=>rfl
 have D:∀{p q:Bool},kE p q↔p=q:=λ{p q}=>by simp[kE]
 have E:∀{p q:Bool},kE p q=false↔p≠q:=λ{p q}=>by grind
 have J:∀t:ai,dc t=aE t:=λt=>by unfold dc;rw[aJ]
 simp only[bN,bh,aw,L,s,D,E,bS,Zad,Zan,Zao,ZaW,Zbz,J,G,H,I];generalize aE a=A at*
 generalize aE b=B at*
 have ne:∀i,A.getD i (nd 0)≠B.getD i (nd 0)->false=decide (A=B):=λi h=>by
  grind
 refine⟨o,K,λhl=>?_,λhl=>⟨⟨0,rfl,Zaj _,ω,λj f=>absurd f (Zbo _)⟩,λx N=>⟨λe=>?_,λe=>?_⟩⟩⟩
 ·grind
 ·obtain⟨c1,c2,c3⟩:=N;have g:x<A.length:=ω;have d:(x:Int)<(B.length:Int):=ω;have c:(0:Int)<=(x:Int):=ω;have R:=m x g;have ne:=ne x;generalize hu:A.getD x (nd 0)=u at*
  generalize C:B.getD x (nd 0)=v at*
  refine⟨c,e,c,d,λq=>ne λh=>q (by rw[h]),λq1=>⟨c,e,c,d,λq=>ne λh=>q (by rw[h]),λS=>⟨c,e,c,d,λq=>ne λh=>q (by rw[h]),λT=>⟨c,e,c,d,λq=>ne λh=>q (by rw[h]),λU=>⟨c,e,c,d,λq=>ne λh=>q (by rw[h]),λV=>⟨c,e,c,d,λq=>ne λh=>q (by rw[h]),λW=>⟨c,e,c,d,λq=>ne λh=>q (by rw[h]),λX=>?_⟩⟩⟩⟩⟩⟩⟩;have hw:({ u with r:=[] }:Nd)={ v with r:=[] }:=by grind
  have w:u.r.length=v.r.length:=ω;refine⟨x,⟨0,rfl,⟨c1,c2,c3⟩,g,⟨by grind,by grind⟩,Zaj _,λj f=>absurd f (Zbo _)⟩,λk hk=>?_⟩;obtain⟨_,_,_,F,z⟩:=hk;rw[hu] at F z;rw[C] at z;refine⟨c,e,λek=>⟨c,e,ω,ek,c,d,ω,ω,λq=>ne λh=>?_,λq=>⟨k+1,bL ω,⟨⟨c1,c2,c3⟩,g,⟨by grind,ω⟩,by grind,λj f=>?_⟩,by grind⟩⟩,λek=>⟨x+1,bL ω,⟨ω,c2,λj f=>?_⟩,ω⟩⟩
  ·grind
  ·grind
  ·rcases Zbm j x with h | h
   ·exact c3 j h
   ·rw[show j=x by omega,hu,C];have M:u.r=v.r:=Zdx w λj h1 P=>by
     grind
    obtain⟨Y,Z,u3,u4,u5,u6,u7⟩:=u;obtain⟨v1,v2,v3,v4,v5,v6,v7⟩:=v;grind
 ·grind [List.ext_getElem]
def QiM:Ok Nq:=okZ [H_] f258 QqL Qbr QqQ
theorem QqR (y:ai) (a:Ia.pre y):Uu y:=by
 have a:dG y:=a;have hk:=a.few;have ge:=S0 y;unfold Uu;have d:∀n,gt (ai.mk 0 [] 0 0 false 0 0 []) y.af n=y.af.getD n bD:=λ_=>rfl
 simp only[bN,bh,aw,d,bS,Zad];refine⟨λh=>by grind,λh=>⟨⟨0,rfl,Zaj _,λj c=>absurd c (Zbo _)⟩,λx f=>⟨λe=>?_,λe=>?_⟩⟩⟩
 ·have b:x<y.af.length:=ω;obtain⟨k1,_,_⟩:=xZ a b;refine⟨ω,e,⟨k1,iO b⟩,λq=>?_,λq=>⟨x+1,bL ω,⟨b,λj c=>?_⟩,ω⟩⟩
  ·grind
  ·grind
 ·grind [List.getElem_of_mem]
def QiN:Ok Ia:=Ql dg ZL trivial QqR
abbrev uS (n:Nat) (t:ai):Nat×AO D.E:=(n,.cells (D.ba 15 t) 221 false)
abbrev tkO (n:Nat):Nat×AO D.E:=(n,.tok 15 221)
variable {l:List ai}
def QiP (a:List (AV D.E)) (s:St D.E):C (List ai):=match a with
 | [l]=>aA (aW D s 15 l) λl=>.ret (l:List ai)
 | _=>.fail
def fq (l:List ai):List ai:=l.flatMap λk=>if k.op=1 then[] else if k.op=3 then k.af else[k]
def iT (t:ai) (a:List ai):ai:=.mk t.op t.r t.mn t.mx t.lz t.cap t.nk a
def Ib (t:ai):ai:=match fq t.af with
 | []=>.mk 1 [] 0 0 false 0 0 []
 | [k]=>k
 | a=>iT t a
def Ic:bk D:=bP 187 ai (λa _=>uH a) (λy=>y.af.length<=1000000/\(fq y.af).length<=1000000) (λy=>[.agg (D.ba 15 y)]) λy=>.agg (D.ba 15 (lk (Ib y)))
def QqS (y:Ic.Y):cU D:=⟨[],[],[(58,⟨Nat,[],λx=>[(1,.ptr 0 0),(2,.ptr 1 0),(3,.grow 15 (fq (y.af.take x)) 2),(4,QtJ x)],[],λ_=>[uS 0 y,uS 1 bD,tkO 2],3,λx=>x<=y.af.length,λx=>y.af.length-x⟩)],[],1,[]⟩
def e_:List ai->List ai->List ai
 | _,[]=>[]
 | s,k::l=>if s.any (λx=>uR x k)=true then e_ (s++[k]) l else k::e_ (s++[k]) l
def Ns:bk D:=bP 227 (List ai) QiP dM (λy=>[.list 15 y]) λy=>.list 15 (lk (e_ [] y))
def yQ (y:List ai) (x:List ai×Nat):Prop:=x.2<=y.length/\x.1.length<=x.2/\x.1++e_ (y.take x.2) (y.drop x.2)=e_ [] y
def Ie (y:List ai) (i k:Nat):Bool:=lk ((y.take k).any λx=>uR x (y.getD i bD))
def QqU (y:Ns.Y):cU D:=⟨[],[],[(58,⟨List ai×Nat,[0],λx=>[(3,.grow 15 x.1 0),(4,QtJ x.2)],[],λ_=>[tkO 0],1,yQ y,λx=>y.length-x.2⟩)],[],1,
 [(14922,⟨List ai×Nat,λx=>⟨Nat,[0,4],λk=>[(3,.grow 15 x.1 0),(5,.bool (Ie y x.2 k)),(6,QtJ k)],[],λ_=>[tkO 0],1,λk=>k<=x.2/\x.2<y.length/\yQ y x,λk=>x.2-k⟩,none⟩)]⟩
def Nt:bk D:=bP 226 (List ai) QiP (λy=>y.length<=1000000/\tl y) (λy=>[.list 15 y]) λy=>.list 15 (bK [] y)
def QqW (y:Nt.Y):cU D:=⟨[],[8],[(58,⟨List ai×Nat,[0],λx=>[(3,.own 0 8 (ah x.1)),(4,QtJ x.2)],[],λx=>[(0,.arr 15 x.1 221 false)],1,sf y,λx=>y.length-x.2⟩)],[],1,[]⟩
def vL (l:List ai):List ai:=bK [] (e_ [] l)
def iU:Nat->List ai->List ai
 | 0,l=>vL l
 | n+1,l=>if (vL l).length<l.length then iU n (vL l) else vL l
def If (t:ai):ai:=match iU (aG 4 t.af).length (aG 4 t.af) with
 | [k]=>k
 | a=>iT t a
def Ig:bk D:=bP 188 ai (λa _=>uH a) (λy=>y.af.length<=1000000/\dM (aG 4 y.af)) (λy=>[.agg (D.ba 15 y)]) λy=>.agg (D.ba 15 (lk (If y)))
def QqY (y:Ig.Y):cU D:=⟨[],[],[(58,⟨Nat,[],λx=>[(1,.ptr 0 0),(2,.ptr 1 0),(3,.grow 15 (aG 4 (y.af.take x)) 2),(5,QtJ x)],[],λ_=>[uS 0 y,uS 1 bD,tkO 2],3,λx=>x<=y.af.length/\(aG 4 (y.af.take x)).length<=1000000,λx=>y.af.length-x⟩),
 (124,⟨List ai,[],λx=>[(1,.ptr 0 0),(2,.ptr 1 0),(3,.list 15 x),(4,.list 15 (lk (vL x)))],[],λ_=>[uS 0 y,uS 1 bD],2,λx=>dM x/\x.length<=(aG 4 y.af).length/\iU x.length x=iU (aG 4 y.af).length (aG 4 y.af),λx=>x.length⟩)],[],1,[]⟩
def Qq0 (y:ai):Prop:=YW y/\y.op=5
def Ih:bk D:=bP 189 ai (λa _=>uH a) Qq0 (λy=>[.agg (D.ba 15 y)]) λy=>.agg (D.ba 15 (lk (cS y)))
def Qq1 (y:Ih.Y):cU D:=⟨[],[],[],[(7,⟨Unit,[],λ_=>[(1,.ptr 0 0),(2,.ptr 1 0),(3,.ptr 2 0)],[],λ_=>[uS 0 (uI y),uS 1 bD,uS 2 (bH y)],3,λ_=>True,λ_=>0⟩)],1,[]⟩
def Uv (y:ai):Prop:=let a:=lk (Ib y);let q1:=y.af;let c:=q1.length;let g:=λp:Prop=>RAE (RAF (RAD p));let h:=λp:Prop=>RAD (RAL (RA1 y (RAP q1 p)));let u:=ai.mk 0 [] 0 0 false 0 0 [];(∃z:Nat,[]=fq (List.take z q1)/\0=(z:Int)/\g (false=false/\h ((Iv (z<=c)))))/\(∀x:Nat,let d:=fq (List.take x q1);let f:=az (x:Int) (ah q1);let e:=gt u d 0;let b:=gt u q1 (x:Int).toNat;let i:=bM d [ai.mk b.op b.r b.mn b.mx b.lz b.cap b.nk b.af];(Iv (x<=c))->ak f (aI 0 (x:Int)/\f/\ak (aC b.op 1) (∃z:Nat,d=fq (List.take z q1)/\aD .i64 (x:Int) 1=(z:Int)/\g (false=false/\h ((Iv (z<=c/\(c-z)<(c-x)))))) (ak (aC b.op 3) (aI 0 (x:Int)/\f/\bF (ah (bM d b.af)) 96/\∃z:Nat,bM d b.af=fq (List.take z q1)/\aD .i64 (x:Int) 1=(z:Int)/\g (false=false/\h ((Iv (z<=c/\(c-z)<(c-x)))))) (aI 0 (x:Int)/\f/\bF (ah i) 96/\∃z:Nat,i=fq (List.take z q1)/\aD .i64 (x:Int) 1=(z:Int)/\g (false=false/\h ((Iv (z<=c/\(c-z)<(c-x)))))))) (ak (aC (ah d) 0) (1=a.op/\[]=a.r/\0=a.mn/\0=a.mx/\false=a.lz/\0=a.cap/\0=a.nk/\[]=a.af/\True) (ak (aC (ah d) 1) (Tt 1 (az 0 (ah d)/\e.op=a.op/\e.r=a.r/\e.mn=a.mn/\e.mx=a.mx/\e.lz=a.lz/\e.cap=a.cap/\e.nk=a.nk/\e.af=a.af/\True)) (y.op=a.op/\y.r=a.r/\y.mn=a.mn/\y.mx=a.mx/\y.lz=a.lz/\y.cap=a.cap/\y.nk=a.nk/\d=a.af/\True))))
def Uw (y:List ai):Prop:=let e:=y.length;let u:=ai.mk 0 [] 0 0 false 0 0 [];(∃z:(List ai)×Nat,RAP y ([]=z.1/\0=(z.2:Int)/\(Iv (yQ y z))))/\(∀x:(List ai)×Nat,let q1:=(x.2:Int);let a:=gt u y q1.toNat;let f:=ai.mk a.op a.r a.mn a.mx a.lz a.cap a.nk a.af;let g:=([f]:List ai);(Iv (yQ y x))->ak (az q1 (ah y)) (∃z:(List ai)×Nat,(∃c:Nat,RAQ y q1 (x.1=z.1/\false=Ie y z.2 c/\0=(c:Int)/\(Iv (c<=z.2/\z.2<e/\yQ y z))))/\(∀d:Nat,let h:=Ie y z.2 d;let j:=az (d:Int) q1;let b:=gt u y (d:Int).toNat;let i:=ai.mk b.op b.r b.mn b.mx b.lz b.cap b.nk b.af;(Iv (d<=z.2/\z.2<e/\yQ y z))->ak j (ak h (∃c:Nat,RAR y q1 z.1 (true=Ie y z.2 c/\aD .i64 (d:Int) 1=(c:Int)/\(Iv ((c<=z.2/\z.2<e/\yQ y z)/\(z.2-c)<(z.2-d))))) (aI 0 (d:Int)/\az (d:Int) (ah y)/\aI 0 q1/\az q1 (ah y)/\Iv (dG i/\dG f)/\RA1 b (RAP b.af (RA1 a (RAP a.af (RA1 b (RAP b.af (RA1 a (RAP a.af (∃c:Nat,aa [y] (aa [q1] (aa [z.1] (uR i f=Ie y z.2 c/\aD .i64 (d:Int) 1=(c:Int)/\(Iv ((c<=z.2/\z.2<e/\yQ y z)/\(z.2-c)<(z.2-d)))))))))))))))) (ak (!h) (aI 0 q1/\az q1 (ah y)/\bF (ah (bM z.1 g)) 96/\∃c:(List ai)×Nat,RAP y (bM z.1 g=c.1/\aD .i64 q1 1=(c.2:Int)/\(Iv (yQ y c/\(e-c.2)<(e-x.2))))) (∃c:(List ai)×Nat,RAP y (z.1=c.1/\aD .i64 q1 1=(c.2:Int)/\(Iv (yQ y c/\(e-c.2)<(e-x.2)))))))) (x.1=lk (e_ [] y)/\True))
def Ux (y:List ai):Prop:=let e:=y.length;let j:=λp:Prop=>RAP y p;let u:=ai.mk 0 [] 0 0 false 0 0 [];(∃z:(List ai)×Nat,j (0=ah z.1/\0=(z.2:Int)/\[]=z.1/\(Iv (sf y z))))/\(∀x:(List ai)×Nat,let d:=ah x.1;let b:=(x.2:Int);let c:=cQ .i64 d 1;let a:=gt u y b.toNat;let f:=gt u x.1 c.toNat;let g:=bM (bM [] f.r) a.r;let h:=bM x.1 [ai.mk a.op a.r a.mn a.mx a.lz a.cap a.nk a.af];let i:Prop:=(aI 0 b/\az b (ah y)/\bF (ah h) 96/\∃z:(List ai)×Nat,j (ah h=ah z.1/\aD .i64 b 1=(z.2:Int)/\h=z.1/\(Iv (sf y z/\(e-z.2)<(e-x.2)))));(Iv (sf y x))->ak (az b (ah y)) (ak (az 0 d) (aI 0 c/\az c d/\ak (aC f.op 2) (aI 0 b/\az b (ah y)/\ak (aC a.op 2) (aI 0 c/\az c d/\bF (ah (bM [] f.r)) 8/\aI 0 b/\az b (ah y)/\bF (ah g) 8/\Iv (g.length<=2000000)/\RAP g (aI 0 c/\az c d/\aa [f.r,a.r,a.r] (∃z:(List ai)×Nat,j (d=ah z.1/\aD .i64 b 1=(z.2:Int)/\cO x.1 c.toNat (ai.mk 2 (aX g) 0 0 false 0 0 [])=z.1/\(Iv (sf y z/\(e-z.2)<(e-x.2))))))) (i)) (i)) (i)) (x.1=bK [] y/\True))
def Uy (y:ai):Prop:=let d:=lk (If y);let q1:=y.af;let m:=(aG 4 q1).length;let n:=λp:Prop=>RAD (RAL (RA1 y (RAP q1 p)));let o:=λp:Prop=>RAE (RAF (RAD p));let A:=ai.mk 0 [] 0 0 false 0 0 [];(∃z:Nat,let u:=aG 4 (List.take z q1);[]=u/\0=(z:Int)/\o (false=false/\n ((Iv (z<=q1.length/\u.length<=1000000)))))/\(∀x:Nat,let g:=q1.length;let q:=az (x:Int) (ah q1);let f:=aG 4 (List.take x q1);let s:=lk (e_ [] f);let a:=gt A q1 (x:Int).toNat;let i:=bM f [ai.mk a.op a.r a.mn a.mx a.lz a.cap a.nk a.af];(Iv (x<=g/\f.length<=1000000))->ak q (aI 0 (x:Int)/\q/\ak (aC a.op 4) (aI 0 (x:Int)/\q/\bF (ah (bM f a.af)) 96/\∃z:Nat,let j:=aG 4 (List.take z q1);bM f a.af=j/\aD .i64 (x:Int) 1=(z:Int)/\o (false=false/\n ((Iv ((z<=g/\j.length<=1000000)/\(g-z)<(g-x)))))) (aI 0 (x:Int)/\q/\bF (ah i) 96/\∃z:Nat,let k:=aG 4 (List.take z q1);i=k/\aD .i64 (x:Int) 1=(z:Int)/\o (false=false/\n ((Iv ((z<=g/\k.length<=1000000)/\(g-z)<(g-x))))))) (Iv (dM f)/\RAP f (Iv (s.length<=1000000/\tl s)/\aa [s] ((∃z:List ai,f=z/\bK [] s=lk (vL z)/\o (false=false/\n ((Iv (dM z/\z.length<=m/\iU z.length z=iU m (aG 4 q1))))))/\(∀h:List ai,let b:=lk (vL h);let e:=lk (e_ [] b);let t:=az (ah b) (ah h);let c:=gt A b 0;let l:=iU m (aG 4 q1);(Iv (dM h/\h.length<=m/\iU h.length h=l))->ak t (Iv (dM b)/\aa [b] (Iv (e.length<=1000000/\tl e)/\aa [e] (∃z:List ai,b=z/\bK [] e=lk (vL z)/\o (false=false/\n ((Iv ((dM z/\z.length<=m/\iU z.length z=l)/\z.length<h.length))))))) (ak (aC (ah b) 1) (Tt 1 (az 0 (ah b)/\c.op=d.op/\c.r=d.r/\c.mn=d.mn/\c.mx=d.mx/\c.lz=d.lz/\c.cap=d.cap/\c.nk=d.nk/\c.af=d.af/\True)) (y.op=d.op/\y.r=d.r/\y.mn=d.mn/\y.mx=d.mx/\y.lz=d.lz/\y.cap=d.cap/\y.nk=d.nk/\b=d.af/\True)))))))
def Uz (y:ai):Prop:=let a:=bH y;let q1:=lk (cS y);let d:=a.af;let u:=ai.mk 0 [] 0 0 false 0 0 [];let c:=gt u y.af 0;let n:=aC (gt u d 0).op 2;let i:=y.lz&&(decide (Ne y.mn y.mx));let j:=ai.mk a.op a.r a.mn a.mx a.lz a.cap a.nk d;let l:=λp:Prop=>RAE (RAF (RAD p));let m:=λp:Prop=>RAD (RAL (RAS y.op y.r y.mn y.mx p));let k:Prop:=(RAR y.cap y.nk y.af ((Iv True)));let e:Prop:=(a.mx=q1.mx/\a.lz=q1.lz/\a.cap=q1.cap/\a.nk=q1.nk/\d=q1.af/\True);let f:Prop:=(a.op=q1.op/\a.r=q1.r/\a.mn=q1.mn/\e);let b:Prop:=(y.op=q1.op/\y.r=q1.r/\y.mn=q1.mn/\y.mx=q1.mx/\i=q1.lz/\y.cap=q1.cap/\y.nk=q1.nk/\y.af=q1.af/\True);let g:Prop:=(ak (aC a.op 5) (Tt 1 (az 0 (ah d)/\ak n (ak (!i) (ak (!a.lz) (ak (aC y.mx (-1)) (ak (aC a.mx (-1)) (ak (aI y.mn 1) (ak (aI a.mn 1) (a.op=q1.op/\a.r=q1.r/\iY .i64 a.mn y.mn=q1.mn/\e) (b)) (b)) (b)) (b)) (b)) (b)) (b))) (b));let h:Prop:=(ak (aC y.mx 0) (Iv (dG j)/\RA1 a (RAP d (ak (!(fm j)) (1=q1.op/\[]=q1.r/\0=q1.mn/\0=q1.mx/\false=q1.lz/\0=q1.cap/\0=q1.nk/\[]=q1.af/\True) (g)))) (g));Tt 1 (az 0 (ah y.af)/\(ak (aC y.mn y.mx) (∃z:Unit,c.op=a.op/\c.r=a.r/\c.mn=a.mn/\c.mx=a.mx/\c.lz=a.lz/\c.cap=a.cap/\c.nk=a.nk/\c.af=d/\l (false=false/\m (false=i/\k))) (∃z:Unit,c.op=a.op/\c.r=a.r/\c.mn=a.mn/\c.mx=a.mx/\c.lz=a.lz/\c.cap=a.cap/\c.nk=a.nk/\c.af=d/\l (false=false/\m (y.lz=i/\k))))/\(∀x:Unit,(Iv True)->ak (aC a.op 1) (f) (ak (aC y.mn 1) (ak (aC y.mx 1) (f) (h)) (h))))
theorem fields {a b:ai} (h:b=a):a.op=b.op/\a.r=b.r/\a.mn=b.mn/\a.mx=b.mx/\a.lz=b.lz/\a.cap=b.cap/\a.nk=b.nk/\a.af=b.af:=by
 grind
def x0 (t:ai) (a:List ai):t.op=(iT t a).op/\t.r=(iT t a).r/\t.mn=(iT t a).mn/\t.mx=(iT t a).mx/\t.lz=(iT t a).lz/\t.cap=(iT t a).cap/\t.nk=(iT t a).nk/\a=(iT t a).af:=⟨rfl,rfl,rfl,rfl,rfl,rfl,rfl,rfl⟩
theorem Nu (a b:List ai):fq (a++b)=fq a++fq b:=by grind [fq]
theorem Ii {x:Nat} (a:x<l.length):fq (l.take (x+1))=fq (l.take x)++(if (l.getD x bD).op=1 then[] else if (l.getD x bD).op=3 then(l.getD x bD).af else[l.getD x bD])/\(fq (l.take (x+1))).length<=(fq l).length:=by
 constructor
 ·grind [cm,fq]
 ·grind [List.take_append_drop,Nu]
theorem Qq3 (y:ai) (f:Ic.pre y):Uv y:=by
 obtain⟨h1,g⟩:y.af.length<=1000000/\(fq y.af).length<=1000000:=f;unfold Uv;have d:∀(l:List ai) n,gt (ai.mk 0 [] 0 0 false 0 0 []) l n=l.getD n bD:=λ_ _=>rfl
 simp only[bN,bh,aw,a8,br,d,bS,Zad,aJ];refine⟨⟨0,by rfl,rfl,Zaj _⟩,λx i=>⟨λe=>?_,λe=>?_⟩⟩
 ·have c:x<y.af.length:=ω;have⟨j,m⟩:=Ii c;grind
 ·rw[show x=y.af.length by omega,ZaM];unfold Ib
  match fq y.af with
  | []=>exact⟨λ_=>⟨rfl,rfl,rfl,rfl,rfl,rfl,rfl,rfl⟩,λh=>absurd rfl h⟩
  | [k]=>exact⟨λh=>by simp at h,λ_=>⟨λ_=>⟨by simp,rfl,rfl,rfl,rfl,rfl,rfl,rfl,rfl⟩,λh=>by simp at h⟩⟩
  | a::b::l=>exact⟨λh=>by grind,λ_=>⟨λh=>by grind,λ_=>x0 _ _⟩⟩
def QiQ:Ok Ic:=okZ [] f187 QqS trivial Qq3
theorem nV:∀(l s:List ai),(e_ s l).Sublist l
 | [],s=>List.Sublist.refl _
 | k::l,s=>by
  rw[e_];split
  ·exact(nV l _).cons _
  ·exact(nV l _).cons₂ _
theorem Ij:∀{l m:List ai},l.Sublist m->∀{n:Nat},NL n (aB m)->NL n (aB l)
 | _,_,.slnil,_,h=>h
 | _,_,.cons a hs,_,h=>by
  have⟨p1,p2,p3⟩:=nQ h;have:=Ij hs p2;exact this.to ω
 | _,_,.cons₂ a hs,_,h=>by
  have⟨p1,p2,p3⟩:=nQ h;have:=Ij hs p2;exact(p1.app this).to p3
def Ik (h:dM l):dM (e_ [] l)/\(e_ [] l).length<=l.length:=⟨Ij (nV l []) h,(nV l []).length_le⟩
theorem Qq4 (y:List ai) (b:Ns.pre y):Uw y:=by
 have hl:=b.len;have c:∀i k,Ie y i k=(y.take k).any λx=>uR x (y.getD i bD):=λi k=>by grind [Ie,aJ]
 unfold Uw;have h:∀(l:List ai) n,gt (ai.mk 0 [] 0 0 false 0 0 []) l n=l.getD n bD:=λ_ _=>rfl
 simp only[bN,bh,aw,a8,br,h,bS,Zad,aJ,Zan,Zao,c];refine⟨⟨([],0),rfl,rfl,Zaj _,Zah _,rfl⟩,λx a=>⟨λe=>⟨x,⟨0,rfl,rfl,rfl,Zaj _,ω,a⟩,λk hk=>⟨λek=>?_,λek=>?_⟩⟩,λe=>?_⟩⟩
 ·have⟨k1,k2,_⟩:=hk;have j:k<y.length:=ω;have ht:∀f:ai->Bool,(y.take (k+1)).any f=((y.take k).any f||f (y.getD k bD)):=λf=>by grind [cm]
  refine⟨λq=>⟨k+1,by grind,bL ω,⟨ω,k2,a⟩,ω⟩,λq=>⟨ω,ω,ω,e,⟨b.get j,b.get k2⟩,k+1,by grind,bL ω,⟨ω,k2,a⟩,ω⟩⟩
 ·have⟨k1,k2,_⟩:=hk;have:k=x.2:=ω;subst this;have⟨i1,i2,i3⟩:=a;have g:y.drop x.2=y.getD x.2 bD::y.drop (x.2+1):=by simp_all
  rw[g,e_] at i3;have d:y.take x.2++[y.getD x.2 bD]=y.take (x.2+1):=(cm bD k2).symm;rw[d] at i3;refine⟨λq=>?_,λq=>?_⟩
  ·exact⟨ω,e,by grind,(x.1++[y.getD x.2 bD],x.2+1),rfl,bL ω,⟨k2,by grind,by grind⟩,show y.length-(x.2+1)<y.length-x.2 by omega⟩
  ·rw[Zac q] at i3;exact⟨(x.1,x.2+1),rfl,bL ω,⟨k2,by grind,i3⟩,show y.length-(x.2+1)<y.length-x.2 by omega⟩
 ·have⟨i1,i2,i3⟩:=a;grind [e_]
def QiR:Ok Ns:=okZ [Nq] f227 QqU QiM Qq4
theorem Qq5 (y:List ai) (p:Nt.pre y):Ux y:=by
 obtain⟨hl,j⟩:y.length<=1000000/\tl y:=p;unfold Ux;have f:∀(l:List ai) n,gt (ai.mk 0 [] 0 0 false 0 0 []) l n=l.getD n bD:=λ_ _=>rfl
 simp only[bN,bh,aw,a8,br,f,bS,Zad,Zcb];refine⟨⟨([],0),rfl,rfl,rfl,Zaj _,rfl,Zah _,λt ht=>nomatch ht⟩,λx m=>?_⟩;have⟨o,i⟩:=x;obtain⟨c1,c2,c3,c4⟩:i<=y.length/\bK o (y.drop i)=bK [] y/\o.length<=i/\tl o:=m;simp only;refine⟨λe=>?_,λe=>?_⟩
 ·have d:y.drop i=y.getD i bD::y.drop (i+1):=by simp_all
  have hk:(y.getD i bD).r.length<=1000000:=j _ (by grind);rw[d,bK] at c2;have s:=jo o (y.getD i bD);have q:=D_ c4 hk;have step:∀z,z=dC o (y.getD i bD)->sf y (z,i+1)/\y.length-(i+1)<y.length-i:=λz hz=>by
   subst hz;exact⟨⟨show i+1<=y.length by omega,c2,show(dC o (y.getD i bD)).length<=i+1 by omega,q⟩,ω⟩
  generalize y.getD i bD=k at*
  have b:¬(o.length≠0/\k.op=2/\(om o).op=2)->(0:Int)<=(i:Int)/\(i:Int)<(y.length:Int)/\(((o++[k]).length:Nat):Int)*(96:Nat)<=140737488355328/\∃z:List ai×Nat,(((o++[k]).length:Nat):Int)=((z.1.length:Nat):Int)/\aD .i64 (i:Int) 1=(z.2:Int)/\o++[k]=z.1/\sf y z/\y.length-z.2<y.length-i:=λh=>by
   grind [dC]
  refine⟨λh0=>?_,λh0=>b λh=>h.1 ω⟩;rw[zZ ω ω];have c:o.getD (((o.length-1:Nat):Int).toNat) bD=om o:=rfl;have g:(om o).r.length<=1000000:=c4 _ (by grind);simp only[c];refine⟨ω,ω,λh1=>⟨ω,e,λa=>⟨ω,ω,ω,ω,e,by grind,by grind,ω,ω,(dC o k,i+1),?_,bL ω,?_,step _ rfl⟩,λa=>b λh=>a h.2.1⟩,λh1=>b λh=>h1 h.2.2⟩
  ·grind [dC]
  ·unfold dC;rw[Zac ⟨ω,a,h1⟩];rfl
 ·grind [bK]
def QiS:Ok Nt:=okZ [lT] f226 QqW (Gs s8) Qq5
def QiT (h:dM l):dM (vL l)/\(vL l).length<=l.length:=by
 have⟨c,d⟩:=Ik h;have⟨a,b⟩:=Kn c;exact⟨a,Zav b d⟩
theorem EG:∀(n m:Nat) (l:List ai),l.length<=n->l.length<=m->iU n l=iU m l
 | 0,0,l,_,_=>rfl
 | 0,m+1,l,h,_=>by grind [iU]
 | n+1,0,l,_,h=>by grind [iU]
 | n+1,m+1,l,h1,a=>by
  rw[iU,iU];split
  ·exact EG n m _ ω ω
  ·rfl
theorem UA (h:(vL l).length<l.length):iU (vL l).length (vL l)=iU l.length l:=by
 obtain⟨k,hk⟩:∃k,l.length=k+1:=⟨l.length-1,ω⟩;grind [iU,EG]
theorem ZR (h:¬(vL l).length<l.length):iU l.length l=vL l:=by
 cases hl:l.length with
 | zero=>rfl
 | succ k=>rw[iU,Zaa h]
theorem EH (op:Int) {x:Nat} (a:x<l.length):aG op (l.take (x+1))=aG op (l.take x)++(if (l.getD x bD).op=op then(l.getD x bD).af else[l.getD x bD]):=by
 grind [cm,aG]
theorem Qq6 (y:ai) (t:Ig.pre y):Uy y:=by
 obtain⟨h1,f⟩:y.af.length<=1000000/\dM (aG 4 y.af):=t;unfold Uy;have s:∀(l:List ai) n,gt (ai.mk 0 [] 0 0 false 0 0 []) l n=l.getD n bD:=λ_ _=>rfl
 simp only[bN,bh,aw,a8,br,s,bS,Zad,aJ];refine⟨⟨0,by rfl,rfl,ω,by simp[aG]⟩,λx w=>⟨λe=>?_,λe=>?_⟩⟩
 ·have r:x<y.af.length:=ω;have B:=EH 4 r;have C:=kW 4 y.af (x+1);have s3:=f.len;grind
 ·have i:x=y.af.length:=ω;subst i;rw[ZaM];have⟨q,A⟩:=Ik f;refine⟨f,⟨q.len,q.rt⟩,⟨_,rfl,rfl,f,Zah _,rfl⟩,λl hl=>⟨λc=>?_,λc=>?_⟩⟩
  ·have⟨p,u,g⟩:=hl;have⟨j,z⟩:=QiT p;have⟨o,v⟩:=Ik j;have d:(vL l).length<l.length:=ω;exact⟨j,⟨o.len,o.rt⟩,_,rfl,rfl,⟨j,ω,by rw[UA d,g]⟩,d⟩
  ·have⟨p,u,g⟩:=hl;have d:¬(vL l).length<l.length:=ω;rw[ZR d] at g;unfold If;rw[<-g]
   match vL l with
   | []=>exact⟨λh=>by simp at h,λ_=>x0 _ _⟩
   | [k]=>exact⟨λ_=>⟨by simp,rfl,rfl,rfl,rfl,rfl,rfl,rfl,rfl⟩,λh=>by simp at h⟩
   | a::b::m=>exact⟨λh=>by grind,λ_=>x0 _ _⟩
def QiU:Ok Ig:=okZ [Ns,Nt] f188 QqY ⟨QiR,QiS⟩ Qq6
theorem Qq7 (y:ai) (v:Ih.pre y):Uz y:=by
 obtain⟨⟨h1,p,F,s⟩,t⟩:YW y/\y.op=5:=v;unfold Uz;have u:∀(l:List ai) n,gt (ai.mk 0 [] 0 0 false 0 0 []) l n=l.getD n bD:=λ_ _=>rfl
 have hk:y.af.getD 0 bD=bH y:=rfl;have j:(bH y).af.getD 0 bD=bH (bH y):=rfl;simp only[bN,bh,aw,u,hk,j,bS,aJ,Zan,Zao,ZaY,ZaZ];have R:¬(bH y).op=1->¬(y.mn=1/\y.mx=1)->¬(y.mx=0/\fm (bH y)=false)->cS y=if (y.lz&&decide (y.mn≠y.mx))=false/\y.mx= -1/\y.mn<=1/\(bH y).op=5/\(bH y).lz=false/\(bH y).mx= -1/\(bH y).mn<=1/\(bH (bH y)).op=2 then D9 (bH y) y.mn else uI y:=λa b c=>by
  unfold cS;have c:(eH (Km (uI y))/\eH (Km (bH y))/\(bH (bH y)).op=2)↔((y.lz&&decide (y.mn≠y.mx))=false/\y.mx= -1/\y.mn<=1/\(bH y).op=5/\(bH y).lz=false/\(bH y).mx= -1/\(bH y).mn<=1/\(bH (bH y)).op=2):=by
   have E:eH (Km (uI y))=(!(y.lz&&decide (y.mn≠y.mx))&&y.mx==-1&&decide (y.mn<=1)):=by
    show(y.op==5&&_&&_&&_)=_
    rw[t];rfl
   grind [eH,Km]
  grind
 have q:(bH y).op=1->cS y=bH y:=λh=>by grind [cS]
 have r:¬(bH y).op=1->y.mn=1->y.mx=1->cS y=bH y:=λh a b=>by grind [cS]
 have o:¬(bH y).op=1->¬(y.mn=1/\y.mx=1)->y.mx=0->fm (bH y)=false->cS y=.mk 1 [] 0 0 false 0 0 []:=λh a b c=>by grind [cS]
 have M:(bH y).op=5->y.mn<=1->(bH y).mn<=1->iY .i64 (bH y).mn y.mn=(bH y).mn*y.mn:=λa b c=>by
  grind
 refine⟨ω,⟨λe=>?_,λe=>?_⟩,λd=>fields (q d),λd=>⟨λm1=>⟨λm2=>fields (r d m1 m2),λm2=>⟨λi=>⟨p,λg=>fields (o d ω i g),λg=>?_⟩,λi=>?_⟩⟩,λm1=>⟨λi=>⟨p,λg=>fields (o d ω i g),λg=>?_⟩,λi=>?_⟩⟩⟩
 ·grind
 ·simp[e]
 all_goals
  have e:=R d ω (by first | (intro h;omega) | (intro h;rw[g] at h;exact absurd h.2 (by simp)));refine⟨λk5=>⟨by have:=(s k5).2;omega,λk2=>⟨λz=>⟨λk=>⟨λmx=>⟨λf=>⟨λa=>⟨λb=>?_,λb=>?_⟩,λa=>?_⟩,λf=>?_⟩,λmx=>?_⟩,λk=>?_⟩,λz=>?_⟩,λk2=>?_⟩,λk5=>?_⟩
  ·rw[Zac ⟨z,mx,a,k5,k,f,b,k2⟩] at e;rw[e,M k5 a b];exact⟨rfl,rfl,rfl,rfl,rfl,rfl,rfl,rfl⟩
  all_goals
   rw[Zaa (by rintro⟨B,G,C,x,m,A,D,w⟩;first | omega | exact absurd (B.symm.trans z) ZaS | exact absurd (m.symm.trans k) ZaS)] at e;rw[e];exact⟨rfl,rfl,rfl,rfl,rfl,rfl,rfl,rfl⟩
def QiV:Ok Ih:=okZ [Ia] f189 Qq1 QiN Qq7
mutual
def Cc:ai->Bool
 | .mk op _ mn mx _ _ _ ks=>if op=1 then true else if op=3 then qq ks else if op=5 then(if mx=0 then true else decide (mn=mx)&&Cd ks) else false
def qq:List ai->Bool
 | []=>true
 | t::l=>Cc t&&qq l
def Cd:List ai->Bool
 | []=>false
 | t::_=>Cc t
end
def jX (t:ai):Bool:=lk (Cc t)
def Fc (y:ai):Prop:=dG y/\kA y
def EI:bk D:=bP 229 ai (λa _=>uH a) Fc (λy=>[.agg (D.ba 15 y)]) λy=>.bool (jX y)
def Qq8 (y:EI.Y):cU D:=⟨[],[],[(3442,⟨Nat,[],λx=>[(1,.ptr 0 0),(3,QtJ x)],[],λ_=>[tbx y],1,λx=>x<=y.af.length/\qq (y.af.drop x)=qq y.af,λx=>y.af.length-x⟩)],[],1,[]⟩
def Qq9 (y:EI.Y):Prop:=vc [EI.under dg (dg y)] f229 EI Qq8 y
structure dk where
 ae:List aV
 bV:Bool
def bI (y:dk) (i:aV):dk×Int:=if 400<=y.ae.length then(⟨y.ae,true⟩,0) else(⟨y.ae++[i],y.bV⟩,y.ae.length)
def ll (y:dk) (lz:Bool) (j:Int):dk:=if y.bV=true then y else⟨fw y.ae.length lz y.ae j,false⟩
def dR (g:List aV->Int->List aV) (y:dk) (a:List Int):dk:=if y.bV=true then y else⟨a.foldl g y.ae,false⟩
def nW (f:dk->dk) (q:Bool):Nat->dk->dk
 | 0,s=>s
 | n+1,s=>if s.bV\/q=true then s else nW f q n (f s)
def jY (f:dk->dk):Nat->dk->List Int->dk×List Int
 | 0,s,j=>(s,j)
 | n+1,s,j=>if s.bV=true then(s,j) else jY f n (f (bI s ⟨2,0,0,[]⟩).1) (j++[(bI s ⟨2,0,0,[]⟩).2])
def AD (f:dk->dk) (lz:Bool) (s:dk):dk:=ll (bI (f (bI s ⟨2,0,0,[]⟩).1) ⟨3,(bI s ⟨2,0,0,[]⟩).2,0,[]⟩).1 lz (bI s ⟨2,0,0,[]⟩).2
def x3 (f:dk->dk) (q:Bool) (mn mx:Int) (lz:Bool) (s:dk):dk:=
 if mx= -1 then AD f lz (nW f q mn.toNat s)
 else dR (fw (jY f (la mn mx) (nW f q mn.toNat s) []).1.ae.length lz) (jY f (la mn mx) (nW f q mn.toNat s) []).1 (jY f (la mn mx) (nW f q mn.toNat s) []).2
def uT (f:dk->dk) (s:dk):dk×Int:=(ll (bI (f (bI s ⟨2,0,0,[]⟩).1) ⟨3,0,0,[]⟩).1 false (bI s ⟨2,0,0,[]⟩).2,(bI (f (bI s ⟨2,0,0,[]⟩).1) ⟨3,0,0,[]⟩).2)
mutual
def i_:ai->dk->dk
 | .mk op r mn mx lz cap _ ks,s=>if s.bV=true then s
  else if op=2 then(bI s ⟨1,0,0,r⟩).1
  else if op=3 then ln ks s
  else if op=4 then dR (lb (fU ks s []).1.ae.length) (fU ks s []).1 (fU ks s []).2
  else if op=5 then x3 (λs=>Oe ks s) (Cd ks) mn mx lz s
  else if op=6 then(bI (Oe ks (bI s ⟨4,2*cap,0,[]⟩).1) ⟨4,2*cap+1,0,[]⟩).1
  else if op=7 then(bI s ⟨5,0,0,[]⟩).1
  else if op=8 then(bI s ⟨6,0,0,[]⟩).1 else s
def ln:List ai->dk->dk
 | [],s=>s
 | t::l,s=>if s.bV=true then s else ln l (i_ t s)
def Oe:List ai->dk->dk
 | [],s=>s
 | t::_,s=>i_ t s
def fU:List ai->dk->List Int->dk×List Int
 | [],s,j=>(s,j)
 | t::l,s,j=>if s.bV=true then(s,j) else if l.isEmpty=true then(i_ t s,j) else fU l (uT (λs=>i_ t s) s).1 (j++[(uT (λs=>i_ t s) s).2])
end
def Il (n:Nat) (y:dk):List (Nat×AO D.E):=[(0,.cells [.own n 4 (ah y.ae),.bool y.bV] 228 false),(n,.arr 8 y.ae 203 false)]
def UB (v:AV D.E) (s:St D.E):C dk:=match v with
 | .ptr b _=>aA (cN (s.h.get b)) λo=>match o with
  | .cells cs _ _=>match cs with
   | [c,b]=>aA (aW D s 8 c) λc=>aQ (AZ b) λb _=>.ret ⟨c,b⟩
   | _=>.fail
  | _=>.fail
 | _=>.fail
def yR:bk D:=⟨132,dk×aV,λa s=>match a with
 | [p,i]=>aA (UB p s) λy=>aA (Qa3 i) λi=>.ret (y,i)
 | _=>.fail,λy=>y.1.ae.length<=400,λy=>[.ptr 0 0,.agg (D.ba 8 y.2)],λy=>Il 1 y.1,λy=>QtJ (bI y.1 y.2).2,λy=>Il 2 (bI y.1 y.2).1,2,3⟩
def UC:bk D:=⟨230,dk×Int×Int×Bool,λa s=>match a with
 | [p,i,o,b]=>aA (UB p s) λy=>aQ (da i) λ_ i=>aQ (da o) λ_ o=>aQ (AZ b) λb _=>.ret (y,i,o,b)
 | _=>.fail,λy=>y.1.ae.length<=1000/\0<=y.2.1/\y.2.1<y.1.ae.length,λy=>[.ptr 0 0,QtJ y.2.1,QtJ y.2.2.1,.bool y.2.2.2],λy=>Il 1 y.1,λ_=>.tuple [],λy=>Il 1 ⟨fw y.2.2.1 y.2.2.2 y.1.ae y.2.1,y.1.bV⟩,2,2⟩
def UD (y:ai):Prop:=let b:=y.af;let u:=ai.mk 0 [] 0 0 false 0 0 [];let q1:=gt u b 0;let d:=ai.mk q1.op q1.r q1.mn q1.mx q1.lz q1.cap q1.nk q1.af;let g:=λp:Prop=>RA1 y (RAP b p);ak (aC y.op 1) (true=jX y/\True) (ak (aC y.op 3) ((∃z:Nat,0=(z:Int)/\g ((Iv (z<=b.length/\qq (List.drop z b)=qq b))))/\(∀x:Nat,let c:=b.length;let f:=az (x:Int) (ah b);let a:=gt u b (x:Int).toNat;let e:=ai.mk a.op a.r a.mn a.mx a.lz a.cap a.nk a.af;(Iv (x<=c/\qq (List.drop x b)=qq b))->ak f (aI 0 (x:Int)/\f/\Iv (Fc e/\dg e<dg y)/\RA1 a (RAP a.af (ak (!(jX e)) (false=jX y/\True) (∃z:Nat,aD .i64 (x:Int) 1=(z:Int)/\g ((Iv ((z<=c/\qq (List.drop z b)=qq b)/\(c-z)<(c-x)))))))) (true=jX y/\True))) (ak (aC y.op 5) (ak (aC y.mx 0) (true=jX y/\True) (ak (aC y.mn y.mx) (Tt 1 (az 0 (ah b)/\Iv (Fc d/\dg d<dg y)/\RA1 q1 (RAP q1.af (jX d=jX y/\True)))) (false=jX y/\True))) (false=jX y/\True)))
def ZS:∀y,UD y=Qq9 y:=λy=>by kernel_rfl
def Qbs (y:dk×aV):Prop:=let b:=ah y.1.ae;let q1:=ah (bI y.1 y.2).1.ae;let a:=bM y.1.ae [y.2];ak (aI 400 b) (0=(bI y.1 y.2).2/\b=q1/\true=(bI y.1 y.2).1.bV/\y.1.ae=(bI y.1 y.2).1.ae/\True) (bF (ah a) 48/\RAU b y.2.op y.2.x y.2.y y.2.bm (cQ .i64 (ah a) 1=(bI y.1 y.2).2/\ah a=q1/\y.1.bV=(bI y.1 y.2).1.bV/\a=(bI y.1 y.2).1.ae/\True))
def Qbt (y:dk×Int×Int×Bool):Prop:=let a:=ah y.1.ae;let q1:=y.2.1.toNat;let h:=aD .i64 y.2.1 1;let d:=gt (aV.mk 0 0 0 []) y.1.ae q1;let c:=fw y.2.2.1 y.2.2.2 y.1.ae y.2.1;let i:=cO y.1.ae q1 (aV.mk d.op h d.y d.bm);let e:=gt (aV.mk 0 0 0 []) i q1;let f:=cO i q1 (aV.mk e.op e.x y.2.2.1 e.bm);let g:=gt (aV.mk 0 0 0 []) f q1;let j:=cO f q1 (aV.mk g.op y.2.2.1 g.y g.bm);let b:=gt (aV.mk 0 0 0 []) j q1;aI 0 y.2.1/\az y.2.1 a/\aI 0 y.2.1/\az y.2.1 a/\RAQ a a (ak y.2.2.2 (aI 0 y.2.1/\az y.2.1 a/\aI 0 y.2.1/\az y.2.1 a/\aa [a,a] (a=ah c/\aa [y.1.bV] (cO j q1 (aV.mk b.op b.x h b.bm)=c/\True))) (a=ah c/\aa [y.1.bV] (f=c/\True)))
def Fc.TE {y:ai} (h:Fc y) {x:Nat} (a:x<y.af.length):Fc (y.af.getD x bD):=⟨(xZ h.1 a).1,((iP y).mp h.2).2.2.mem a⟩
def QdX (t:ai):Cc t=if t.op=1 then true else if t.op=3 then qq t.af else if t.op=5 then(if t.mx=0 then true else decide (t.mn=t.mx)&&Cd t.af) else false:=by cases t;rw[Cc];rfl
theorem KM {l:List ai} (h:0<l.length):Cd l=Cc (l.getD 0 bD):=by
 cases l with
 | nil=>cases h
 | cons t l=>rw[Cd];rfl
theorem QiW (y:ai) (b:EI.pre y):UD y:=by
 have b:Fc y:=b;have hk:=b.1.few;have i:∀t,jX t=Cc t:=λt=>by grind [jX,aJ]
 unfold UD;have o:∀(l:List ai) n,gt (ai.mk 0 [] 0 0 false 0 0 []) l n=l.getD n bD:=λ_ _=>rfl
 simp only[bN,bh,aw,o,bS,Zad,Zan,Zao,i];have q:=QdX y;refine⟨λd=>by grind,λd=>⟨λf=>⟨⟨0,rfl,Zaj _,rfl⟩,λx p=>⟨λe=>?_,λe=>?_⟩⟩,λf=>⟨λh=>⟨λm=>?_,λm=>⟨λm2=>?_,λm2=>?_⟩⟩,λh=>?_⟩⟩⟩
 ·rw[Zaa d,Zac f] at q;have c:x<y.af.length:=ω;have k:y.af.drop x=y.af.getD x bD::y.af.drop (x+1):=by simp_all
  have j:=p.2;rw[k,qq] at j;refine⟨ω,e,⟨b.TE c,iO c⟩,λg=>?_,λg=>⟨x+1,bL ω,⟨c,?_⟩,ω⟩⟩
  ·grind
  ·grind
 ·grind [qq]
 ·grind
 ·have a:0<y.af.length:=by
   have:=(((iP y).mp b.2).1.rep h).1;grind
  rw[q,Zaa d,Zaa f,Zac h,Zaa m,KM a];exact⟨ω,⟨b.TE a,iO a⟩,by simp[m2]⟩
 ·grind
 ·grind
def QiX:Ok EI:=Ql dg ZS trivial QiW
theorem KN:Ok yR:=okZ (V:=Qbs) [] f132 (λ_=>dr ()) trivial λy a=>by
 grind [Qbs,bI]
def QiY:Ok UC:=okZ (V:=Qbt) [] f230 (λ_=>dr ()) trivial λy f=>by
 obtain⟨m,a,o,lz⟩:=y;obtain⟨h1,b,c⟩:m.ae.length<=1000/\0<=a/\a<m.ae.length:=f;have hi:a.toNat<m.ae.length:=ω;unfold Qbt;simp only[bh,gx,eV,aw,ee,B4 hi,tq];have e:aD .i64 a 1=a+1:=bG ω ω;have d:gt (aV.mk 0 0 0 []) m.ae a.toNat=m.ae.getD a.toNat in0:=rfl;refine⟨b,c,b,c,λh=>⟨b,c,b,c,?_⟩,λh=>?_⟩
 ·simp only[e,d,h,fw,Zbv];rfl
 ·simp only[e,d,h,fw,ZaE,Za0];rfl
structure Gw (s t:dk):Prop where
 len:s.ae.length<=t.ae.length
 max:s.ae.length<=400->t.ae.length<=400
 bV:s.bV=true->t.bV=true
variable {Z:dk->dk} {s Y:dk}
theorem Gw.refl (s:dk):Gw s s:=⟨Zah _,id,id⟩
def Gw.trans {u:dk} (h:Gw s Y) (k:Gw Y u):Gw s u:=⟨Zav h.len k.len,λe=>k.max (h.max e),λe=>k.bV (h.bV e)⟩
theorem Gw.low (h:Gw s Y) (e:Y.bV=false):s.bV=false:=by
 cases a:s.bV with
 | false=>rfl
 | true=>rw[h.bV a] at e;cases e
theorem eQ (s:dk) (i:aV):Gw s (bI s i).1/\((bI s i).1.bV=false->s.ae.length<400/\(bI s i).2=s.ae.length/\(bI s i).1=⟨s.ae++[i],false⟩):=by
 unfold bI;split
 ·exact⟨⟨Zah _,id,λ_=>rfl⟩,λh=>by cases h⟩
 ·refine⟨⟨by simp,λh=>by grind,id⟩,λh=>⟨ω,rfl,?_⟩⟩;grind
theorem Ce (s:dk) (lz:Bool) (j:Int):Gw s (ll s lz j)/\(ll s lz j).ae.length=s.ae.length/\(ll s lz j).bV=s.bV:=by
 unfold ll;split
 ·grind [Gw.refl]
 ·rename_i h
  have h:s.bV=false:=by grind
  exact⟨⟨by grind [ee],by grind [ee],λe=>by grind⟩,ee _ _ _ _,h.symm⟩
theorem fO (g:List aV->Int->List aV) (b:∀l j,(g l j).length=l.length) (s:dk) (a:List Int):Gw s (dR g s a)/\(dR g s a).ae.length=s.ae.length/\(dR g s a).bV=s.bV:=by
 have:∀(a:List Int) (l:List aV),(a.foldl g l).length=l.length:=λa=>by
  induction a with
  | nil=>intro l;rfl
  | cons j a c=>intro l;rw[Zb2,c,b]
 unfold dR;split
 ·grind [Gw.refl]
 ·rename_i h
  have h:s.bV=false:=by grind
  exact⟨⟨by grind,by grind,λe=>by grind⟩,this _ _,h.symm⟩
theorem vM (q:Bool) (a:∀s,Gw s (Z s)):∀(n:Nat) (s:dk),Gw s (nW Z q n s)
 | 0,s=>Gw.refl s
 | n+1,s=>by
  rw[nW];split
  ·exact Gw.refl s
  ·exact(a s).trans (vM q a n _)
def InJ (s:dk) (j:List Int):Prop:=s.bV=false->∀v∈j,0<=v/\v<s.ae.length
theorem InJ.more {j:List Int} (h:InJ s j) (g:Gw s Y) {v:Int} (b:Y.bV=false->0<=v/\v<Y.ae.length):InJ Y (j++[v]):=λe x a=>by
 rcases List.mem_append.mp a with h1 | h1
 ·have:=h (g.low e) x h1;have:=g.len;omega
 ·grind
theorem tu (a:∀s,Gw s (Z s)):∀(n:Nat) (s:dk) (j:List Int),InJ s j->Gw s (jY Z n s j).1/\InJ (jY Z n s j).1 (jY Z n s j).2/\(jY Z n s j).2.length<=j.length+n
 | 0,s,j,h=>⟨Gw.refl s,h,Zah _⟩
 | n+1,s,j,h=>by
  rw[jY];split
  ·grind [Gw.refl]
  ·obtain⟨p1,p2⟩:=eQ s ⟨2,0,0,[]⟩;have g1:=p1.trans (a (bI s ⟨2,0,0,[]⟩).1);obtain⟨b,c,i⟩:=tu a n (Z (bI s ⟨2,0,0,[]⟩).1) (j++[(bI s ⟨2,0,0,[]⟩).2]) (h.more g1 λe=>by
    obtain⟨q1,d,k⟩:=p2 ((a _).low e);have:=(a (bI s ⟨2,0,0,[]⟩).1).len;have g:(bI s ⟨2,0,0,[]⟩).1.ae.length=s.ae.length+1:=by grind
    rw[d];omega)
   exact⟨g1.trans b,c,by grind⟩
def KO (a:∀s,Gw s (Z s)) (lz:Bool) (s:dk):Gw s (AD Z lz s):=by
 unfold AD;exact(((eQ s _).1.trans (a _)).trans (eQ _ _).1).trans (Ce _ _ _).1
def ZV (a:∀s,Gw s (Z s)) (q:Bool) (mn mx:Int) (lz:Bool) (s:dk):Gw s (x3 Z q mn mx lz s):=by
 unfold x3;have h1:=vM q a mn.toNat s;split
 ·exact h1.trans (KO a lz _)
 ·have b:=tu a (la mn mx) (nW Z q mn.toNat s) [] (λ_ v c=>nomatch c);exact(h1.trans b.1).trans (fO _ (λl j=>ee _ _ _ _) _ _).1
theorem KQ (a:∀s,Gw s (Z s)) (s:dk):Gw s (uT Z s).1/\((uT Z s).1.bV=false->0<=(uT Z s).2/\(uT Z s).2<(uT Z s).1.ae.length):=by
 unfold uT;obtain⟨p1,p2⟩:=eQ s ⟨2,0,0,[]⟩;obtain⟨b,c⟩:=eQ (Z (bI s ⟨2,0,0,[]⟩).1) ⟨3,0,0,[]⟩;obtain⟨k1,k2,k3⟩:=Ce (bI (Z (bI s ⟨2,0,0,[]⟩).1) ⟨3,0,0,[]⟩).1 false (bI s ⟨2,0,0,[]⟩).2;refine⟨((p1.trans (a _)).trans b).trans k1,λe=>?_⟩;grind
def sw (t:ai) (s:dk):i_ t s=if s.bV=true then s
  else if t.op=2 then(bI s ⟨1,0,0,t.r⟩).1
  else if t.op=3 then ln t.af s
  else if t.op=4 then dR (lb (fU t.af s []).1.ae.length) (fU t.af s []).1 (fU t.af s []).2
  else if t.op=5 then x3 (λs=>Oe t.af s) (Cd t.af) t.mn t.mx t.lz s
  else if t.op=6 then(bI (Oe t.af (bI s ⟨4,2*t.cap,0,[]⟩).1) ⟨4,2*t.cap+1,0,[]⟩).1
  else if t.op=7 then(bI s ⟨5,0,0,[]⟩).1
  else if t.op=8 then(bI s ⟨6,0,0,[]⟩).1 else s:=by cases t;rw[i_];rfl
mutual
theorem lZ:∀(t:ai) (s:dk),Gw s (i_ t s)
 | .mk op r mn mx lz cap nk ks,s=>by
  have hL:=Cf ks
  have hH:=QiZ ks
  have hA:=x4 ks s [] (λ_ v hv=>nomatch hv)
  rw[i_]
  split
  ·exact Gw.refl s
  ·split
   ·exact(eQ _ _).1
   ·split
    ·exact hL s
    ·split
     ·exact hA.1.trans (fO _ (λl j=>iR _ _ _) _ _).1
     ·split
      ·exact ZV hH _ _ _ _ s
      ·split
       ·exact((eQ _ _).1.trans (hH _)).trans (eQ _ _).1
       ·split
        ·exact(eQ _ _).1
        ·split
         ·exact(eQ _ _).1
         ·exact Gw.refl s
theorem Cf:∀(l:List ai) (s:dk),Gw s (ln l s)
 | [],s=>by rw[ln];exact Gw.refl s
 | t::l,s=>by
  rw[ln]
  split
  ·exact Gw.refl s
  ·exact(lZ t s).trans (Cf l _)
theorem QiZ:∀(l:List ai) (s:dk),Gw s (Oe l s)
 | [],s=>by rw[Oe];exact Gw.refl s
 | t::_,s=>by rw[Oe];exact lZ t s
theorem x4:∀(l:List ai) (s:dk) (j:List Int),InJ s j->Gw s (fU l s j).1/\InJ (fU l s j).1 (fU l s j).2/\(fU l s j).2.length<=j.length+l.length
 | [],s,j,h=>by rw[fU];exact⟨Gw.refl s,h,Zah _⟩
 | t::l,s,j,h=>by
  have hf:=lZ t
  rw[fU]
  split
  ·exact⟨Gw.refl s,h,by simp only;omega⟩
  ·split
   ·exact⟨hf s,λe v hv=>by have:=h ((hf s).low e) v hv;have:=(hf s).len;simp only;omega,by simp only;omega⟩
   ·obtain⟨u1,u2⟩:=KQ hf s
    obtain⟨a1,a2,a3⟩:=x4 l (uT (λs=>i_ t s) s).1 (j++[(uT (λs=>i_ t s) s).2]) (h.more u1 u2)
    exact⟨u1.trans a1,a2,by simp only[Zab,Zae,Zak] at a3 ⊢;omega⟩
end
def QdZ (f:FuncId) (Y:Type) (c:Y->dk) (yn:List (AV D.E)->St D.E->C Y) (pre:Y->Prop) (args:Y->List (AV D.E)) (a:Y->dk):bk D:=⟨f,Y,yn,pre,λy=>.ptr 0 0::args y,λy=>Il 1 (c y),λ_=>.tuple [],λy=>Il 2 (a y),2,3⟩
def eo (y:dk×ai):dk:=lk (i_ y.2 y.1)
def Cg (y:dk×ai):Prop:=y.1.ae.length<=400/\Fc y.2
def Im:bk D:=QdZ 133 (dk×ai) (·.1) (λa s=>match a with
 | [p,t]=>aA (UB p s) λc=>aA (Hj t) λt=>.ret (c,t)
 | _=>.fail) Cg (λy=>[.agg (D.ba 15 y.2)]) eo
def ko (y:dk×List ai):dk×List Int:=lk (fU y.2 y.1 [])
def nX (y:dk×List ai) (j:Nat):dk:=lk (dR (lb (ko y).1.ae.length) (ko y).1 ((ko y).2.take j))
def x5 (y:dk×List ai):dk:=lk (nX y (ko y).2.length)
def Qi0 (y:dk×List ai):Prop:=y.1.ae.length<=400/\y.1.bV=false/\y.2.length<=1000000/\∀t∈y.2,Fc t
def Nv:bk D:=QdZ 190 (dk×List ai) (·.1) (λa s=>match a with
 | [p,l]=>aA (UB p s) λc=>aA (aW D s 15 l) λl=>.ret (c,(l:List ai))
 | _=>.fail) Qi0 (λy=>[.list 15 y.2]) x5
structure KR where
 c:dk
 n:Nd
 k:ai
def kq (y:KR):dk:=lk (nW (i_ y.k) (jX y.k) y.n.mn.toNat y.c)
def re (y:KR):Nat:=lk (la y.n.mn y.n.mx)
def iy (y:KR):dk×List Int:=lk (jY (i_ y.k) (re y) (kq y) [])
def oA (y:KR) (j:Nat):dk:=lk (dR (fw (iy y).1.ae.length y.n.lz) (iy y).1 ((iy y).2.take j))
def px (y:KR):dk:=lk (x3 (i_ y.k) (jX y.k) y.n.mn y.n.mx y.n.lz y.c)
def Qi1 (y:KR):Prop:=y.c.ae.length<=400/\y.c.bV=false/\Fc y.k/\0<=y.n.mn/\y.n.mn<=30/\(y.n.mx= -1\/(y.n.mn<=y.n.mx/\y.n.mx<=30))
def Nw:bk D:=QdZ 191 KR (·.c) (λa s=>match a with
 | [p,n,t]=>aA (UB p s) λc=>aA (Qdg n) λn=>aA (Hj t) λt=>.ret ⟨c,n,t⟩
 | _=>.fail) Qi1 (λy=>[.agg (D.ba 7 y.n),.agg (D.ba 15 y.k)]) px
def fnO (n:Nat):s6:=[Im.under (λy=>2*dg y.2) n,Nv.under (λy=>2*uh y.2+1) n,Nw.under (λy=>2*dg y.k+1) n]
def Qi2 (y:Im.Y):cU D:=⟨[],[],[(1978,⟨dk×Nat,[0],λx=>[(3,.ptr 2 0),(4,QtJ x.2)],[],λx=>Il 3 x.1++[uS 2 y.2],4,λx=>x.2<=y.2.af.length/\Gw y.1 x.1/\ln (y.2.af.drop x.2) x.1=ln y.2.af y.1,λx=>y.2.af.length-x.2⟩)],[],1,[]⟩
def Qrd (y:Im.Y):Prop:=vc (fnO (2*dg y.2)++[yR]) f133 Im Qi2 y
structure UE where
 s:dk
 j:List Int
 i:Nat
def UF (y:dk×List ai) (x:UE):Prop:=x.i<=y.2.length/\Gw y.1 x.s/\x.j.length<=x.i/\fU (y.2.drop x.i) x.s x.j=fU y.2 y.1 []
def Qi3 (y:Nv.Y):cU D:=⟨[],[],[
 (26,⟨UE,[0,1],λx=>[(4,.grow 5 x.j 3),(5,QtJ x.i)],[],λx=>Il 2 x.s++[uM 3],4,UF y,λx=>y.2.length-x.i⟩),
 (30,⟨Nat,[0],λj=>[(4,.grow 5 (ko y).2 3),(7,QtJ j)],[],λj=>Il 2 (nX y j)++[uM 3],4,λj=>j<=(ko y).2.length,λj=>(ko y).2.length-j⟩)],
 [(3,⟨Unit,[0],λ_=>[(4,.grow 5 (ko y).2 3)],[],λ_=>Il 2 (ko y).1++[uM 3],4,λ_=>True,λ_=>0⟩)],1,[]⟩
def Qre (y:Nv.Y):Prop:=vc (fnO (2*uh y.2+1)++[yR]) f190 Nv Qi3 y
def crN (y:KR):Nat×AO D.E:=(2,.cells (D.ba 7 y.n) 206 false)
def crB (y:KR):List (Nat×AO D.E):=[crN y,uS 3 y.k]
def crI (y:KR) (x:dk×Nat):Prop:=x.2<=y.n.mn.toNat/\Gw y.c x.1/\nW (i_ y.k) (jX y.k) (y.n.mn.toNat-x.2) x.1=kq y
def crJ (y:KR) (x:UE):Prop:=x.i<=re y/\Gw (kq y) x.s/\x.j.length<=x.i/\jY (i_ y.k) (re y-x.i) x.s x.j=iy y
def Qi5 (y:Nw.Y):cU D:=⟨[],[],[
  (58,⟨dk×Nat,[0,6],λx=>[(4,.ptr 2 0),(5,.ptr 3 0),(7,QtJ x.2)],[],λx=>Il 4 x.1++crB y,5,crI y,λx=>y.n.mn.toNat-x.2⟩),
  (506,⟨UE,[0],λx=>[(4,.ptr 2 0),(5,.ptr 3 0),(9,.grow 5 x.j 5),(10,QtJ (y.n.mn+(x.i:Nat)))],[],λx=>Il 4 x.s++crB y++[uM 5],6,crJ y,λx=>re y-x.i⟩),
  (510,⟨Nat,[0],λj=>[(4,.ptr 2 0),(9,.grow 5 (iy y).2 5),(11,QtJ j)],[],λj=>Il 4 (oA y j)++[crN y,uM 5],6,λj=>j<=(iy y).2.length,λj=>(iy y).2.length-j⟩)],
  [(7,⟨Unit,[0],λ_=>[(4,.ptr 2 0),(5,.ptr 3 0)],[],λ_=>Il 4 (kq y)++crB y,5,λ_=>True,λ_=>0⟩),
   (63,⟨Unit,[0],λ_=>[(4,.ptr 2 0),(9,.grow 5 (iy y).2 5)],[],λ_=>Il 4 (iy y).1++[crN y,uM 5],6,λ_=>True,λ_=>0⟩)],1,[]⟩
def Qrh (y:Nw.Y):Prop:=vc (fnO (2*dg y.k+1)++[yR,UC,EI]) f191 Nw Qi5 y
abbrev RAC (v:dk) (p:Prop):Prop:=aa [v.bV] (aa [v.ae] p)
def UG (y:dk×ai):Prop:=let k:=ah (eo y).ae;let q1:=ah y.1.ae;let u:=(bI y.1 (aV.mk 6 0 0 [])).1;let v:=(bI y.1 (aV.mk 5 0 0 [])).1;let g:=y.2.op;let c:=y.2.af;let w:=iY .i64 2 y.2.cap;let B:=aD .i64 w 1;let A:=(bI y.1 (aV.mk 1 0 0 y.2.r)).1;let s:=(bI y.1 (aV.mk 4 w 0 [])).1;let F:=ai.mk 0 [] 0 0 false 0 0 [];let a:=gt F c 0;let d:=ai.mk a.op a.r a.mn a.mx a.lz a.cap a.nk a.af;let e:=eo (s,d);let l:=(bI e (aV.mk 4 B 0 [])).1;let h:=KR.mk y.1 (Nd.mk g y.2.r y.2.mn y.2.mx y.2.lz y.2.cap y.2.nk) d;let t:=λp:Prop=>RAP g (RAA y.2 (RAQ y.2.nk c p));let m:Prop:=(q1=k/\y.1.bV=(eo y).bV/\y.1.ae=(eo y).ae/\True);let G:=λz:dk×Nat=>Gw y.1 z.1/\ln (List.drop z.2 c) z.1=ln c y.1;ak y.1.bV (m) (ak (aC g 2) (Iv (y.1.ae.length<=400)/\aa ([1,0,0]:List Int) (RAQ y.2.r q1 (RAC y.1 (ah A.ae=k/\A.bV=(eo y).bV/\A.ae=(eo y).ae/\True)))) (ak (aC g 3) ((∃z:dk×Nat,0=(z.2:Int)/\t (q1=ah z.1.ae/\y.1.bV=z.1.bV/\y.1.ae=z.1.ae/\(Iv (z.2<=c.length/\G z))))/\(∀x:dk×Nat,let n:=ah x.1.ae;let i:=(x.2:Int);let j:=c.length;let o:=az i (ah c);let b:=gt F c i.toNat;let f:=ai.mk b.op b.r b.mn b.mx b.lz b.cap b.nk b.af;let q:Prop:=(n=k/\x.1.bV=(eo y).bV/\x.1.ae=(eo y).ae/\True);(Iv (x.2<=j/\Gw y.1 x.1/\ln (List.drop x.2 c) x.1=ln c y.1))->ak o (ak (!x.1.bV) (aI 0 i=true/\o=true/\Iv (Cg (x.1,f)/\(2*dg f)<(2*dg y.2))/\RA1 b (RAQ b.af n (RAC x.1 (∃z:dk×Nat,aD .i64 i 1=(z.2:Int)/\t (ah (eo (x.1,f)).ae=ah z.1.ae/\(eo (x.1,f)).bV=z.1.bV/\(eo (x.1,f)).ae=z.1.ae/\(Iv ((z.2<=j/\G z)/\(j-z.2)<(j-x.2)))))))) (q)) (q))) (ak (aC g 4) (Iv (Qi0 (y.1,c)/\((2*uh c)+1)<(2*dg y.2))/\RAQ c q1 (RAC y.1 (ah (x5 (y.1,c)).ae=k/\(x5 (y.1,c)).bV=(eo y).bV/\(x5 (y.1,c)).ae=(eo y).ae/\True))) (ak (aC g 5) (Tt 1 (az 0 (ah c)=true/\Iv (Qi1 h/\((2*dg d)+1)<(2*dg y.2))/\RAP g (RAA y.2 (RAP y.2.nk (RA1 a (RAQ a.af q1 (RAC y.1 (RAP g (RAA y.2 (RAQ y.2.nk c (RA1 a (RAP a.af (ah (px h).ae=k/\(px h).bV=(eo y).bV/\(px h).ae=(eo y).ae/\True))))))))))))) (ak (aC g 6) (Iv (y.1.ae.length<=400)/\aa ([4,w,0]:List Int) (RAF (RAP q1 (RAC y.1 (Tt 1 (az 0 (ah c)=true/\Iv (Cg (s,d)/\(2*dg d)<(2*dg y.2))/\aa [a.op] (aa [a.r] (aa [a.mn,a.mx] (aa [a.lz] (aa [a.cap,a.nk] (aa [a.af] (aa [ah s.ae] (aa [s.bV] (aa [s.ae] (Iv (e.ae.length<=400)/\aa ([4,B,0]:List Int) (aa ([[]]:List (List (Int×Int))) (aa [ah e.ae] (aa [e.bV] (aa [e.ae] (ah l.ae=k/\l.bV=(eo y).bV/\l.ae=(eo y).ae/\True)))))))))))))))))))) (ak (aC g 7) (Iv (y.1.ae.length<=400)/\aa ([5,0,0]:List Int) (RAF (RAP q1 (RAC y.1 (ah v.ae=k/\v.bV=(eo y).bV/\v.ae=(eo y).ae/\True))))) (ak (aC g 8) (Iv (y.1.ae.length<=400)/\aa ([6,0,0]:List Int) (RAF (RAP q1 (RAC y.1 (ah u.ae=k/\u.bV=(eo y).bV/\u.ae=(eo y).ae/\True))))) (m))))))))
def ZW:∀y,UG y=Qrd y:=λy=>by kernel_rfl
def UH (y:dk×(List ai)):Prop:=let D:=ah (x5 y).ae;let q1:=(ko y).2;let A:=ah (ko y).1.ae;((∃z:UE,aa [y.2] ([]=z.j/\0=((z.i:Nat):Int)/\ah y.1.ae=ah z.s.ae/\y.1.bV=z.s.bV/\y.1.ae=z.s.ae/\(Iv (UF y z))))/\(∀x:UE,let B:=ah x.s.ae;let p:=((x.i:Nat):Int);let C:=az p (ah y.2);let E:=aC p (cQ .i64 (ah y.2) 1);let k:=bI x.s (aV.mk 2 0 0 []);let w:=k.2.toNat;let a:=gt (ai.mk 0 [] 0 0 false 0 0 []) y.2 p.toNat;let c:=ai.mk a.op a.r a.mn a.mx a.lz a.cap a.nk a.af;let g:=eo (k.1,c);let b:=bI g (aV.mk 3 0 0 []);let d:=ah b.1.ae;let m:=gt (aV.mk 0 0 0 []) b.1.ae w;let q:=cO b.1.ae w (aV.mk m.op (aD .i64 k.2 1) m.y m.bm);let n:=gt (aV.mk 0 0 0 []) q w;let t:Prop:=(∃z:Unit,x.j=q1/\B=A/\x.s.bV=(ko y).1.bV/\x.s.ae=(ko y).1.ae/\(Iv True));(Iv (UF y x))->ak C (ak (!x.s.bV) (ak E (aI 0 p/\C/\Iv (Cg (x.s,c)/\(2*dg c)<((2*uh y.2)+1))/\aa [a.op] (aa [a.r] (aa [a.mn,a.mx] (aa [a.lz] (aa [a.cap,a.nk] (aa [a.af] (aa [B] (aa [x.s.bV] (aa [x.s.ae] (∃z:Unit,x.j=q1/\ah (eo (x.s,c)).ae=A/\(eo (x.s,c)).bV=(ko y).1.bV/\(eo (x.s,c)).ae=(ko y).1.ae/\(Iv True))))))))))) (Iv (x.s.ae.length<=400)/\aa ([2,0,0]:List Int) (aa ([[]]:List (List (Int×Int))) (aa [B] (aa [x.s.bV] (aa [x.s.ae] (aI 0 p/\C/\Iv (Cg (k.1,c)/\(2*dg c)<((2*uh y.2)+1))/\aa [a.op] (aa [a.r] (aa [a.mn,a.mx] (aa [a.lz] (aa [a.cap,a.nk] (aa [a.af] (aa [ah k.1.ae] (aa [k.1.bV] (aa [k.1.ae] (Iv (g.ae.length<=400)/\aa ([3,0,0]:List Int) (aa ([[]]:List (List (Int×Int))) (aa [ah g.ae] (aa [g.bV] (aa [g.ae] (bF (ah (bM x.j [b.2])) 8/\ak (!b.1.bV) (aI 0 k.2/\az k.2 d/\aI 0 k.2/\az k.2 d/\aa [d,d,d] (∃z:UE,aa [y.2] (bM x.j [b.2]=z.j/\aD .i64 p 1=((z.i:Nat):Int)/\d=ah z.s.ae/\b.1.bV=z.s.bV/\cO q w (aV.mk n.op n.x d n.bm)=z.s.ae/\(Iv (UF y z/\(y.2.length-z.i)<(y.2.length-x.i)))))) (∃z:UE,aa [y.2] (bM x.j [b.2]=z.j/\aD .i64 p 1=((z.i:Nat):Int)/\d=ah z.s.ae/\b.1.bV=z.s.bV/\b.1.ae=z.s.ae/\(Iv (UF y z/\(y.2.length-z.i)<(y.2.length-x.i)))))))))))))))))))))))))) (t)) (t)))/\(∀x:Unit,(Iv True)->(∃z:Nat,aa [q1] (0=(z:Int)/\A=ah (nX y z).ae/\(ko y).1.bV=(nX y z).bV/\(ko y).1.ae=(nX y z).ae/\(Iv (z<=q1.length))))/\(∀f:Nat,let e:=ah (nX y f).ae;let l:=q1.length;let u:=az (f:Int) (ah q1);let h:=gt 0 q1 (f:Int).toNat;let o:=gt (aV.mk 0 0 0 []) (nX y f).ae h.toNat;let v:Prop:=(e=D/\(nX y f).bV=(x5 y).bV/\(nX y f).ae=(x5 y).ae/\True);(Iv (f<=l))->ak u (ak (!(nX y f).bV) (aI 0 (f:Int)/\u/\aI 0 h/\az h e/\aa [e,h,e] (∃z:Nat,aa [q1] (aD .i64 (f:Int) 1=(z:Int)/\e=ah (nX y z).ae/\(nX y f).bV=(nX y z).bV/\cO (nX y f).ae h.toNat (aV.mk o.op e o.y o.bm)=(nX y z).ae/\(Iv (z<=l/\(l-z)<(l-f)))))) (v)) (v)))
def ZX:∀y,UH y=Qre y:=λy=>by kernel_rfl
def UI (y:KR):Prop:=let I:=ah (kq y).ae;let q1:=ah (px y).ae;let t:=(iy y).2;let L:=ah (iy y).1.ae;let h:=bI (kq y) (aV.mk 2 0 0 []);let b:=ai.mk y.k.op y.k.r y.k.mn y.k.mx y.k.lz y.k.cap y.k.nk y.k.af;let G:=eo (h.1,b);let m:=(bI G (aV.mk 3 h.2 0 [])).1;let H:=ah m.ae;let M:=fw H y.n.lz m.ae h.2;let u:=λp:Prop=>RA7 y.n p;let l:=λp:Prop=>RA1 y.k (RAP y.k.af (RA7 y.n p));Iv (Fc b)/\RA1 y.k (RAP y.k.af (((∃z:dk×Nat,aa [jX b] (0=(z.2:Int)/\l (ah y.c.ae=ah z.1.ae/\y.c.bV=z.1.bV/\y.c.ae=z.1.ae/\(Iv (crI y z)))))/\(∀x:dk×Nat,let v:=ah x.1.ae;let J:=az (x.2:Int) y.n.mn;let q:Prop:=(∃z:Unit,l (v=I/\x.1.bV=(kq y).bV/\x.1.ae=(kq y).ae/\(Iv True)));(Iv (crI y x))->ak J (ak (!x.1.bV) (ak (!(jX b)) (Iv (Cg (x.1,b)/\(2*dg b)<((2*dg y.k)+1))/\aa [y.k.op] (aa [y.k.r] (aa [y.k.mn,y.k.mx] (aa [y.k.lz] (aa [y.k.cap,y.k.nk] (aa [y.k.af] (aa [v] (aa [x.1.bV] (aa [x.1.ae] (∃z:dk×Nat,aa [jX b] (aD .i64 (x.2:Int) 1=(z.2:Int)/\l (ah (eo (x.1,b)).ae=ah z.1.ae/\(eo (x.1,b)).bV=z.1.bV/\(eo (x.1,b)).ae=z.1.ae/\(Iv (crI y z/\(y.n.mn.toNat-z.2)<(y.n.mn.toNat-x.2))))))))))))))) (q)) (q)) (q)))/\(∀x:Unit,(Iv True)->ak (aC y.n.mx (-1)) (Iv ((kq y).ae.length<=400)/\aa ([2,0,0]:List Int) (aa ([[]]:List (List (Int×Int))) (aa [I] (aa [(kq y).bV] (aa [(kq y).ae] (Iv (Cg (h.1,b)/\(2*dg b)<((2*dg y.k)+1))/\aa [y.k.op] (aa [y.k.r] (aa [y.k.mn,y.k.mx] (aa [y.k.lz] (aa [y.k.cap,y.k.nk] (aa [y.k.af] (aa [ah h.1.ae] (aa [h.1.bV] (aa [h.1.ae] (Iv (G.ae.length<=400)/\aa ([3,h.2,0]:List Int) (aa ([[]]:List (List (Int×Int))) (aa [ah G.ae] (aa [G.bV] (aa [G.ae] (ak (!m.bV) (Iv (m.ae.length<=1000/\0<=h.2/\h.2<(m.ae.length:Int))/\aa [h.2,H] (aa [y.n.lz] (aa [H] (aa [m.bV] (aa [m.ae] (aa [H] (aa [y.n.lz] (ah M=q1/\m.bV=(px y).bV/\M=(px y).ae/\True)))))))) (H=q1/\m.bV=(px y).bV/\m.ae=(px y).ae/\True))))))))))))))))))))) (((∃z:UE,[]=z.j/\y.n.mn=(y.n.mn+((z.i:Nat):Int))/\l (I=ah z.s.ae/\(kq y).bV=z.s.bV/\(kq y).ae=z.s.ae/\(Iv (crJ y z))))/\(∀d:UE,let w:=ah d.s.ae;let K:=az (y.n.mn+((d.i:Nat):Int)) y.n.mx;let a:=bI d.s (aV.mk 2 0 0 []);let A:=bM d.j [a.2];let B:Prop:=(∃z:Unit,d.j=t/\u (w=L/\d.s.bV=(iy y).1.bV/\d.s.ae=(iy y).1.ae/\(Iv True)));(Iv (crJ y d))->ak K (ak (!d.s.bV) (Iv (d.s.ae.length<=400)/\aa ([2,0,0]:List Int) (aa ([[]]:List (List (Int×Int))) (aa [w] (aa [d.s.bV] (aa [d.s.ae] (bF (ah A) 8/\Iv (Cg (a.1,b)/\(2*dg b)<((2*dg y.k)+1))/\aa [y.k.op] (aa [y.k.r] (aa [y.k.mn,y.k.mx] (aa [y.k.lz] (aa [y.k.cap,y.k.nk] (aa [y.k.af] (aa [ah a.1.ae] (aa [a.1.bV] (aa [a.1.ae] (∃z:UE,A=z.j/\aD .i64 (y.n.mn+((d.i:Nat):Int)) 1=(y.n.mn+((z.i:Nat):Int))/\l (ah (eo (a.1,b)).ae=ah z.s.ae/\(eo (a.1,b)).bV=z.s.bV/\(eo (a.1,b)).ae=z.s.ae/\(Iv (crJ y z/\(re y-z.i)<(re y-d.i))))))))))))))))))) (B)) (B)))/\(∀d:Unit,(Iv True)->(∃z:Nat,aa [t] (0=(z:Int)/\u (L=ah (oA y z).ae/\(iy y).1.bV=(oA y z).bV/\(iy y).1.ae=(oA y z).ae/\(Iv (z<=t.length)))))/\(∀e:Nat,let f:=ah (oA y e).ae;let C:=(oA y e).ae.length;let o:=t.length;let D:=az (e:Int) (ah t);let g:=gt 0 t (e:Int).toNat;let E:=fw f y.n.lz (oA y e).ae g;let F:Prop:=(f=q1/\(oA y e).bV=(px y).bV/\(oA y e).ae=(px y).ae/\True);(Iv (e<=o))->ak D (ak (!(oA y e).bV) (aI 0 (e:Int)/\D/\Iv (C<=1000/\0<=g/\g<(C:Int))/\aa [g,f] (aa [y.n.lz] (aa [f] (aa [(oA y e).bV] (aa [(oA y e).ae] (aa [g,f] (aa [y.n.lz] (∃z:Nat,aa [t] (aD .i64 (e:Int) 1=(z:Int)/\u (ah E=ah (oA y z).ae/\(oA y e).bV=(oA y z).bV/\E=(oA y z).ae/\(Iv (z<=o/\(o-z)<(o-e))))))))))))) (F)) (F)))))))
def ZY:∀y,UI y=Qrh y:=λy=>by kernel_rfl
end
end sx
end Go.Proofs.YtiiiphndmbabcaaGreat
