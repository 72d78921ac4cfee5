/- StreamAgain: a part of the proof. -/
import Derived.Test.YtfkmlhnhkdbjeaaGreatC8
import Derived.Test.YtfkmlhnhkdbjeaaGreatC4
import Derived.Test.YtfkmlhnhkdbjeaaGreatC3
import Derived.Test.YtfkmlhnhkdbjeaaGreatProg
import Derived.WalkKit
import Derived.Test.YtfkmlhnhkdbjeaaGreatC2
import Derived.Lib.Hide
import Derived.Deep.LoopGhost
import Derived.Deep.DeepCutAuto
import Derived.Laws.AppendOwnNone
import Derived.BigQuiet
import Derived.Deep.QuietTactic
import Derived.Test.YtfkmlhnhkdbjeaaGreatC6
import Derived.Lib.MinMax
import Derived.Deep.DeepMust
import Derived.RegionTactic
import Derived.Laws.ResultCell
import Derived.Deep.RegionHeld3
import Derived.Maps.OwnOps
import Derived.Maps.Views
import Derived.Maps.OwnSet
set_option linter.all false
namespace Go.Proofs.YtfkmlhnhkdbjeaaGreat
open Go.Proofs.Tryz
set_option maxRecDepth 100000
set_option maxHeartbeats 4000000
namespace sx
noncomputable section
open Go Go.RowKit cls syn
def KN (y:cx):Prop:=let h:=bZ (br y).out;let q1:=y.r.length;let e:=ab y.r;let l:=!(seq y.c []);let m:=([uX y]:List (List Nd));let s:=(cr y.c).1;let v:=!(aE (cr y.c).2.1 0);let w:=!(aE (bZ m).2.1 0);let u:=λp:Prop=>RAF (RA4 y p);let t:=λp:Prop=>RA4 y p;let A:=Iv ((br y).au=0/\q1<=8/\((Ne (y,true).1.c [])->(cr y.c).2.1=0));let i:Prop:=(RA4 y (RAI (RAJ (RAI (RAJ (RAO l (RA4 y (A))))))));let B:=λj:Nat=>List.getD y.r j (mw.mk [] []);aj (aD 8 e) (False) ((∃z:(List (List Nd))×Nat,RAO e ([]=z.1/\0=(z.2:Int)/\t ((Iv (oW y z)))))/\(∀x:(List (List Nd))×Nat,let b:=(x.2:Int);let f:=gt (mw.mk [] []) y.r b.toNat;(Iv (oW y x))->aj (aD b e) (aM 0 b/\aD b e/\Iv True/\RAO f.name (aj (!(jA f.name)) (False) (∃z:(List (List Nd))×Nat,let a:=List.getD y.r z.2 (mw.mk [] []);let g:=(cr a.text).1;let n:=!(aE (cr a.text).2.1 0);let k:=bn z.1 [lk (cO g)];(∃d:Nat,aa [e,b] (x.1=z.1/\0=(d:Int)/\f.name=a.name/\f.text=a.text/\t ((Iv (d<=z.2/\z.2<q1/\oW y z/\(∀j:Nat,(Nat.le (Nat.succ j) d)->Ne (B j).name a.name))))))/\(∀x1:Nat,let o:=aD (x1:Int) b;let q:=seq (gt (mw.mk [] []) y.r (x1:Int).toNat).name a.name;(Iv (x1<=z.2/\z.2<q1/\oW y z/\(∀j:Nat,(Nat.le (Nat.succ j) x1)->Ne (B j).name a.name)))->aj o (aM 0 (x1:Int)/\aD (x1:Int) e/\aa [y.r] (aa [(gt (mw.mk [] []) y.r (x1:Int).toNat).name,a.name] (aj q (False) (∃d:Nat,aa [e,b] (aa [z.1] (ay .i64 (x1:Int) 1=(d:Int)/\aa [a.name,a.text] (aa [y.r] (aa [y.c] ((Iv ((d<=z.2/\z.2<q1/\oW y z/\(∀j:Nat,(Nat.le (Nat.succ j) d)->Ne (B j).name a.name))/\(z.2-d)<(z.2-x1)))))))))))) (Iv True/\aa [a.text] (aj n (False) (Iv (pf g)/\aa [g] (ba (ab k) 24/\∃d:(List (List Nd))×Nat,aa [e] (k=d.1/\ay .i64 b 1=(d.2:Int)/\t ((Iv (oW y d/\(q1-d.2)<(q1-x.2))))))))))))) (ba e 32/\RAO y.r ((aj l (Iv True/\aa [y.c] (aj v (False) (Iv (pf s)/\aa [s] (∃z:Unit,aa [e] (x.1=(br y).out/\lk (cO s)=uX y/\i))))) (∃z:Unit,aa [e] (x.1=(br y).out/\[]=uX y/\i)))/\(∀x1:Unit,A->Iv (qu (br y).out)/\aa [(br y).out] (aj (!(aE h.2.1 0)) (False) (aj l (Iv (qu m)/\aa [m] (aj w (False) (u (h.1.1=(b_ y).ag/\h.1.2=(b_ y).st/\(bZ m).1.1=(b_ y).cc/\(bZ m).1.2=(b_ y).cs/\aa [l] (True))))) (u (h.1.1=(b_ y).ag/\h.1.2=(b_ y).st/\[]=(b_ y).cc/\[]=(b_ y).cs/\aa [l] (True))))))))))
def KO (y:cx):Prop:=let d:=ab y.r;let q1:=y.r.length;let o:=!(seq y.c []);let k:=([uX y]:List (List Nd));let q:=(cr y.c).1;let l:=(cr y.c).2.1;let s:=(bZ (br y).out).2;let v:=!(aE (bZ k).2.1 0);let t:=λp:Prop=>RA4 y p;let A:=Iv ((br y).au=0/\q1<=8/\((Ne (y,false).1.c [])->l=0));let u:Prop:=(RA4 y (RAI (RAJ (RAI (RAJ (RAO o (RA4 y (A))))))));let B:=λj:Nat=>List.getD y.r j (mw.mk [] []);aj (aD 8 d) (13=(b_ y).au/\8=(b_ y).at_/\True) ((∃z:(List (List Nd))×Nat,RAO d ([]=z.1/\0=(z.2:Int)/\t ((Iv (oW y z)))))/\(∀x:(List (List Nd))×Nat,let b:=(x.2:Int);let f:=gt (mw.mk [] []) y.r b.toNat;(Iv (oW y x))->aj (aD b d) (aM 0 b/\aD b d/\Iv True/\RAO f.name (aj (!(jA f.name)) (14=(b_ y).au/\b=(b_ y).at_/\True) (∃z:(List (List Nd))×Nat,let a:=List.getD y.r z.2 (mw.mk [] []);let g:=(cr a.text).1;let h:=(cr a.text).2.1;let i:=bn z.1 [lk (cO g)];(∃e:Nat,aa [d,b] (x.1=z.1/\0=(e:Int)/\f.name=a.name/\f.text=a.text/\t ((Iv (e<=z.2/\z.2<q1/\oW y z/\(∀j:Nat,(Nat.le (Nat.succ j) e)->Ne (B j).name a.name))))))/\(∀x1:Nat,let m:=aD (x1:Int) b;let n:=seq (gt (mw.mk [] []) y.r (x1:Int).toNat).name a.name;(Iv (x1<=z.2/\z.2<q1/\oW y z/\(∀j:Nat,(Nat.le (Nat.succ j) x1)->Ne (B j).name a.name)))->aj m (aM 0 (x1:Int)/\aD (x1:Int) d/\aa [y.r] (aa [(gt (mw.mk [] []) y.r (x1:Int).toNat).name,a.name] (aj n (8=(b_ y).au/\b=(b_ y).at_/\True) (∃e:Nat,aa [d,b] (aa [z.1] (ay .i64 (x1:Int) 1=(e:Int)/\aa [a.name,a.text] (aa [y.r] (aa [y.c] ((Iv ((e<=z.2/\z.2<q1/\oW y z/\(∀j:Nat,(Nat.le (Nat.succ j) e)->Ne (B j).name a.name))/\(z.2-e)<(z.2-x1)))))))))))) (Iv True/\aa [a.text] (aj (!(aE h 0)) (h=(b_ y).au/\b=(b_ y).at_/\True) (Iv (pf g)/\aa [g] (ba (ab i) 24/\∃e:(List (List Nd))×Nat,aa [d] (i=e.1/\ay .i64 b 1=(e.2:Int)/\t ((Iv (oW y e/\(q1-e.2)<(q1-x.2))))))))))))) (ba d 32/\RAO y.r ((aj o (Iv True/\aa [y.c] (aj (!(aE l 0)) (l=(b_ y).au/\d=(b_ y).at_/\True) (Iv (pf q)/\aa [q] (∃z:Unit,aa [d] (x.1=(br y).out/\lk (cO q)=uX y/\u))))) (∃z:Unit,aa [d] (x.1=(br y).out/\[]=uX y/\u)))/\(∀x1:Unit,A->Iv (qu (br y).out)/\aa [(br y).out] (aj (!(aE s.1 0)) (s.1=(b_ y).au/\s.2=(b_ y).at_/\True) (aj o (Iv (qu k)/\aa [k] (aj v ((bZ k).2.1=(b_ y).au/\d=(b_ y).at_/\True) (False))) (False))))))))
abbrev qz:mw:=⟨[],[]⟩
variable {B Z:Nat} {v:Int} {Y:Nat->List a8}
theorem Qci {t:List Row} {n:By} (h:kq t n=false) (k:By):kq (su t n v) k=(kq t k||decide (n=k)):=by
 grind [Nh,kq,List.take_append_drop]
theorem GZ {y:cx} {x:List (List Nd)×Nat} (h:oW y x) (m:x.2<y.r.length):
  (jA (y.r.getD x.2 qz).name=false->(br y).au=14/\(br y).at_=x.2)/\
  (jA (y.r.getD x.2 qz).name->(∃j,j<x.2/\(y.r.getD j qz).name=(y.r.getD x.2 qz).name)->(br y).au=8/\(br y).at_=x.2)/\
  (jA (y.r.getD x.2 qz).name->(∀j,j<x.2->(y.r.getD j qz).name≠(y.r.getD x.2 qz).name)->((cr (y.r.getD x.2 qz).text).2.1≠0->(br y).au=(cr (y.r.getD x.2 qz).text).2.1/\(br y).at_=x.2)/\
   ((cr (y.r.getD x.2 qz).text).2.1=0->oW y (x.1++[cO (cr (y.r.getD x.2 qz).text).1],x.2+1))):=by
 obtain⟨h1,t,f,g⟩:=h;obtain⟨c,d,s3⟩:=y8 g m;simp only at c d s3;have ht:∀k,kq t k↔∃j,j<x.2/\(y.r.getD j qz).name=k:=λk=>by
  rw[f,ZcT];constructor
  ·rintro⟨p,l,e⟩;obtain⟨j,b,rfl⟩:=Za3 l;rw[Zar] at b;refine⟨j,ω,?_⟩;grind
  ·rintro⟨j,b,e⟩;rw[fh ω] at e;exact⟨y.r[j],List.mem_iff_getElem.mpr ⟨j,by grind,by grind⟩,by grind⟩
 refine⟨c,λa e2=>d a ((ht _).mpr e2),λa e2=>?_⟩;have i:kq t (y.r.getD x.2 qz).name=false:=by
  grind
 obtain⟨n,o⟩:=s3 a i;refine⟨n,λe=>⟨h1,_,λk=>?_,o e⟩⟩;grind [Qci,cy]
theorem Qoh (y:cx) (b:Bool) (N:Aq.pre (y,b)):(b->KN y)/\(b=false->KO y):=by
 obtain⟨hl,Q⟩:y.r.length<=1000/\b=mQ y:=N;have H:b_ y=jB y:=by grind [b_,az]
 have B:y.c≠[]->uX y=cO (cr y.c).1:=λh=>by grind [uX,az]
 have z:y.c=[]->uX y=[]:=λh=>by grind [uX,az]
 have D:b↔(jB y).au=0:=by grind [mQ]
 have I:∀{s:By},seq s []=false↔s≠[]:=λ{s}=>by grind
 obtain⟨o1,S⟩:(∀x∈(br y).out,cR x)/\(br y).out.length<=y.r.length:=by
  grind [wZ,br,az]
 have K:qu (br y).out:=⟨ω,o1⟩;have O:cR (uX y):=by
  by_cases h:y.c=[]
  ·grind [ft]
  ·grind [wY,mT]
 have G:qu [uX y]:=⟨by simp,λl hl=>by rw[List.mem_singleton.mp hl];exact O⟩;have F:8<y.r.length->jB y=M6 13 8:=λh=>by grind [jB]
 have hz:y.r.length<=8->oW y ([],0):=λh=>⟨h,[],λk=>rfl,Zaj _,List.Pairwise.nil,Zah _,rfl,by grind [br,az]⟩
 have p:∀x:List (List Nd)×Nat,oW y x->¬x.2<y.r.length->x.1=(br y).out/\(br y).au=0:=λx f e=>by
  obtain⟨_,t,_,i1,_,_,_,i5⟩:=f;grind [ph]
 have hlen:∀x:List (List Nd)×Nat,oW y x->x.1.length=x.2:=λx f=>by
  obtain⟨_,t,_,_,_,_,i4,_⟩:=f;exact i4
 have J:∀n,gt (mw.mk [] []) y.r n=y.r.getD n qz:=λ_=>rfl
 have A:∀n,y.r.getD n (mw.mk [] [])=y.r.getD n qz:=λ_=>rfl
 constructor
 ·intro M;have h0:=D.mp M;unfold KN;rw[H];simp only[bN,bj,aw,a_,bq,yd,I,J,A,Zad,Zan,Zao,az,ZaY,ZaZ];refine⟨λC=>?_,λC=>⟨⟨([],0),rfl,rfl,hz ω⟩,λx f=>⟨λe=>?_,λe=>?_⟩⟩⟩
  ·rw[F ω] at h0;cases h0
  ·have w:x.2<y.r.length:=ω;obtain⟨L,E,s3⟩:=GZ f w;have T:(br y).au=0:=Zch λh=>by rw[XG ω h] at h0;exact h h0
   refine⟨ω,e,λq=>?_,λq=>⟨x,⟨0,rfl,rfl,rfl,rfl,Zaj _,w,f,λj g=>absurd g (Zbo _)⟩,λk hk=>?_⟩⟩
   ·grind
   ·obtain⟨k1,k2,k3,k4⟩:=hk;refine⟨λek=>⟨ω,ω,λi=>?_,λi=>⟨k+1,bR ω,⟨ω,w,f,λj g=>?_⟩,ω⟩⟩,λek=>⟨λi=>?_,λi=>⟨mT _,?_,(x.1++[cO (cr (y.r.getD x.2 qz).text).1],x.2+1),rfl,bR ω,?_,show y.r.length-(x.2+1)<y.r.length-x.2 by omega⟩⟩⟩
    ·have:=(E q ⟨k,ω,i⟩).1;omega
    ·grind
    ·grind
    ·grind
    ·grind
  ·obtain⟨x1,m⟩:=p x f ω;refine⟨ω,⟨λd=>⟨λu=>?_,λu=>⟨mT _,x1,(B d).symm,m,ω,λ_=>u⟩⟩,λd=>⟨x1,(z d).symm,m,ω,λh=>absurd d h⟩⟩,λg=>⟨K,λv=>?_,λv=>⟨λd=>⟨G,λo=>?_,λo=>?_⟩,λd=>?_⟩⟩⟩
   ·rw[XH ω m d u] at h0;exact u h0
   ·rw[XI ω m g.2.2 v] at h0;exact v h0
   ·rw[B d] at o;rw[XJ ω m g.2.2 v d o] at h0;exact o h0
   ·grind [Qf]
   ·grind [XK]
 ·intro P;have h0:(jB y).au≠0:=λh=>by grind
  unfold KO;rw[H];simp only[bN,bj,aw,a_,bq,yd,I,J,A,Zad,Zan,Zao,az,ZaY,ZaZ];have au:∀{e a:Int},y.r.length<=8->(br y).au=e/\(br y).at_=a->e≠0->e=(jB y).au/\a=(jB y).at_:=λC h R=>by
   rw[XG ω ω,h.1,h.2];exact⟨rfl,rfl⟩
  refine⟨λC=>?_,λC=>⟨⟨([],0),rfl,rfl,hz ω⟩,λx f=>⟨λe=>?_,λe=>?_⟩⟩⟩
  ·rw[F ω];exact⟨rfl,rfl⟩
  ·have w:x.2<y.r.length:=ω;obtain⟨L,E,s3⟩:=GZ f w;refine⟨ω,e,λq=>au ω (L q) (by decide),λq=>⟨x,⟨0,rfl,rfl,rfl,rfl,Zaj _,w,f,λj g=>absurd g (Zbo _)⟩,λk hk=>?_⟩⟩;obtain⟨k1,k2,k3,k4⟩:=hk;refine⟨λek=>⟨ω,ω,λi=>au ω (E q ⟨k,ω,i⟩) (by decide),λi=>⟨k+1,bR ω,⟨ω,w,f,λj g=>?_⟩,ω⟩⟩,λek=>⟨λi=>au ω ((s3 q λj g=>k4 j (show j<k by omega)).1 i) i,λi=>⟨mT _,?_,(x.1++[cO (cr (y.r.getD x.2 qz).text).1],x.2+1),rfl,bR ω,?_,show y.r.length-(x.2+1)<y.r.length-x.2 by omega⟩⟩⟩
   ·grind
   ·grind
   ·grind
  ·obtain⟨x1,m⟩:=p x f ω;refine⟨ω,⟨λd=>⟨λu=>?_,λu=>⟨mT _,x1,(B d).symm,m,ω,λ_=>u⟩⟩,λd=>⟨x1,(z d).symm,m,ω,λh=>absurd d h⟩⟩,λg=>⟨K,λv=>?_,λv=>⟨λd=>⟨G,λo=>?_,λo=>?_⟩,λd=>?_⟩⟩⟩
   ·rw[XH ω m d u];exact⟨rfl,rfl⟩
   ·rw[XI ω m g.2.2 v];exact⟨rfl,rfl⟩
   ·rw[B d] at o ⊢;rw[XJ ω m g.2.2 v d o];exact⟨rfl,rfl⟩
   ·grind [Qf]
   ·grind [XK]
def Qoi (hs:Ok Qcf):Ok Aq:=QyR (k:=Aq) (T:=KN) (F:=KO) [PO,JJ,Qcf,KK] f14 Qoa id id (λ_=>rfl) ⟨QmB,QlW Qgo (I' yk) (Qgr yk),hs,Qn9⟩ (λy a=>(Qoh y true a).1 rfl) λy a=>(Qoh y false a).2 rfl
def G0 (n:Int) {m:Int} (h:0<m): -m<Int.tmod n m/\Int.tmod n m<m:=by
 have h1:=Int.tmod_lt_of_pos n h;have a:=Int.tmod_lt_of_pos (-n) h;rw[Int.neg_tmod] at a;omega
theorem Ns {y:WtY} (h:Qp y):y.lo<=mU y/\mU y<=y.hi:=by
 obtain⟨h1,a,b⟩:=h;have:=G0 y.n (m:=y.hi-y.lo+1) ω;grind [mU]
theorem Qfe:Ok X8:=okZ (V:=Qfd) [] Tryz.f8 (λ_=>dk ()) trivial λ(y:WtY) b=>by
 obtain⟨h1,c,d⟩:=b;have:=G0 y.n (m:=y.hi-y.lo+1) ω;unfold Qfd;simp only[lG,Zai,gF,iz,Zan,iA];rw[ye (a:=y.hi) ω ω,bA (a:=y.hi-y.lo) ω ω];grind [QfE,mU]
theorem G9 {p:By} (a:v+p.length<=B):∀(k:Nat) (b:By),b.length<=B->(zj v p k b).length<=B
 | 0,b,h=>h
 | k+1,b,h=>by
  rw[zj];split
  ·exact G9 a k _ (by grind)
  ·exact h
theorem Qcj (r:mN):0<=Qq r/\Qq r<=60:=Ns (y:=⟨r.times,0,60⟩) ⟨by grind,by grind,by grind⟩
theorem B0 {y:zP} (h:Qr y):∀k,k<=y.l.length->(jJ y.eo y.l k).length<=k+1000000100000
 | 0,_=>Zaj _
 | k+1,hk=>by
  have i:=B0 h k ω;obtain⟨h1,a,b,c⟩:=h;have e:(y.l.getD k rO).piece.length<=1000000000000:=by
   grind
  have d:(txB y.eo (y.l.getD k rO) (jJ y.eo y.l k)).length<=k+1000000100000:=G9 ω _ _ i;grind [jJ,txR]
theorem QwO (y:zP) (g:Qr y):Ya y:=by
 have hlen:=B0 g;obtain⟨h1,u,v,w⟩:=g;unfold Ya;simp only[bN,ej,cC,aw,Zad,bq,a_,Zan,Zao];refine⟨⟨0,rfl,rfl,Zaj _⟩,λx s=>⟨λk=>?_,λk=>?_⟩⟩
 ·have hk:x<y.l.length:=ω;have j:gt (mN.mk [] 0 false) y.l x=y.l.getD x rO:=rfl;have B:(y.l.getD x rO).piece.length<=1000000000000:=by
   grind
  have A:=Qcj (y.l.getD x rO);have d:mU ⟨(y.l.getD x rO).times,0,60⟩=Qq (y.l.getD x rO):=rfl;have f:=hlen x s;have hs:jJ y.eo y.l (x+1)=txR y.eo (y.l.getD x rO) (jJ y.eo y.l x):=rfl;rw[j,d];generalize p:y.l.getD x rO=r at*
  refine⟨ω,k,⟨by grind,by grind,by grind⟩,x,?_⟩;rw[p];refine⟨⟨(0,jJ y.eo y.l x),rfl,rfl,Zaj _,f,rfl⟩,λz hz=>?_⟩;obtain⟨a,b⟩:=z;obtain⟨c,z2,z3⟩:=hz;simp only at c z2 z3 ⊢;have fin:zj y.eo r.piece ((Qq r).toNat-a) b=b->0<=(x:Int)/\(x:Int)<y.l.length/\(r.nE=false->((b++[b8 10]).length:Int)*(1:Nat)<=140737488355328/\∃c:Nat,b++[b8 10]=jJ y.eo y.l c/\ay .i64 (x:Int) 1=(c:Int)/\c<=y.l.length/\y.l.length-c<y.l.length-x)/\(r.nE->∃c:Nat,b=jJ y.eo y.l c/\ay .i64 (x:Int) 1=(c:Int)/\c<=y.l.length/\y.l.length-c<y.l.length-x):=λe=>by
   rw[e] at z3;refine⟨ω,k,λo=>⟨?_,x+1,?_,bA ω ω,ω,ω⟩,λo=>⟨x+1,?_,bA ω ω,ω,ω⟩⟩
   ·grind
   ·rw[hs];unfold txR;rw[Zaa (by grind),<-z3];rfl
   ·grind [txR]
  refine⟨λt=>⟨λh=>?_,λh=>fin ?_⟩,λt=>fin ?_⟩
  ·obtain⟨m,n⟩:∃m,(Qq r).toNat-a=m+1:=⟨(Qq r).toNat-a-1,ω⟩;rw[n,zj,Zac h] at z3;have i:(b++r.piece).length<=1000000100000:=by grind
   refine⟨ω,k,ω,(a+1,b++r.piece),rfl,bA ω ω,⟨⟨ω,by grind,?_⟩,ω⟩⟩;grind
  ·cases(Qq r).toNat-a with
   | zero=>rfl
   | succ m=>rw[zj,Zaa ω]
  ·rw[show(Qq r).toNat-a=0 by omega];rfl
 ·have e:x=y.l.length:=ω;subst e;refine⟨λq=>⟨h1,ω,rfl⟩,λq=>?_⟩;grind [As,List.take_of_length_le]
def Qoj:Ok X9:=okZ [X8] Tryz.f5 QwM Qfe QwO
theorem Nt (y:cx):(aD 3 (ab y.r)->aM 3 (ab y.r)/\c_ y.r 3=(if 3<y.r.length then y.r.take 3 else y.r))/\(aD 3 (ab y.r)=false->y.r=(if 3<y.r.length then y.r.take 3 else y.r)):=by
 rw[gF,iz,gg,aw];refine⟨λh=>⟨ω,by rw[Zac ω];rfl⟩,λh=>by grind⟩
theorem Nu (y:cx):(oX y).r.length<=3:=by
 grind [oX]
theorem Qok (y:cx) (a:DR (y,true)):KL y:=by
 have a:true=mQ (oX y):=a;have hl:=Nu y;grind [Nt,py,oX,KL,iU,az]
theorem Qol (y:cx) (a:DR (y,false)):KM y:=by
 have a:false=mQ (oX y):=a;grind [Nt,py,oX,KM]
def Qom (hl:Ok uS) (a:Ok Aq):Ok Qt:=QyR (k:=Qt) (T:=KL) (F:=KM) [uS,Aq] Tryz.f4 Qoe id id (λ_=>rfl) ⟨hl,a⟩ Qok Qol
def nZ (lo hi:Nat) (x:a8):Prop:=x.bz.length<=1000000/\((x.op=1/\x.x=0/\x.y=0/\x.bz=aY x.bz)\/(x.op=2/\(lo:Int)<=x.x/\x.x<=hi/\(lo:Int)<=x.y/\x.y<=hi/\x.bz=[])\/(x.op=3/\(lo:Int)<=x.x/\x.x<=hi/\x.y=0/\x.bz=[])\/(x.op=4/\0<=x.x/\x.x<10/\x.y=0/\x.bz=[])\/((x.op=5\/x.op=6)/\x.x=0/\x.y=0/\x.bz=[]))
def nZ.mono {i g:Nat} {x:a8} (h:nZ B Z x) (h1:i<=B) (j:Z<=g):nZ i g x:=by
 obtain⟨h0,h | ⟨a,b,c,d,e,f⟩ | ⟨a,b,c,d⟩ | h | h⟩:=h
 ·exact⟨h0,.inl h⟩
 ·exact⟨h0,.inr (.inl ⟨a,ω,ω,ω,ω,f⟩)⟩
 ·exact⟨h0,.inr (.inr (.inl ⟨a,ω,ω,d⟩))⟩
 ·exact⟨h0,.inr (.inr (.inr (.inl h)))⟩
 ·exact⟨h0,.inr (.inr (.inr (.inr h)))⟩
theorem G' {b out:Nat} (lz:Bool) (h1:B<=b) (a:b+1<=Z) (c:B<=out) (d:out<=Z):nZ B Z (iD lz b out):=by
 unfold iD;split<;>exact⟨Zaj _,.inr (.inl ⟨rfl,by grind,by grind,by grind,by grind,rfl⟩)⟩
theorem Nv (a:∀b,∀x∈Y b,nZ b (b+B) x):∀(n b:Nat),∀x∈iK Y B n b,nZ b (b+n*B) x
 | 0,b,x,h=>nomatch h
 | n+1,b,x,h=>by
  have e:b+B+n*B=b+(n+1)*B:=by grind
  rcases Zax.1 h with h | h
  ·exact(a b x h).mono ω ω
  ·exact(Nv a n _ x h).mono ω ω
theorem Nw {lz:Bool} (a:∀b,∀x∈Y b,nZ b (b+B) x):∀(n b:Nat),b+n*(B+1)<=Z->∀x∈fN (λi=>iD lz i Z) Y B n b,nZ b Z x
 | 0,b,_,x,h=>nomatch h
 | n+1,b,c,x,h=>by
  have e:b+1+B+n*(B+1)=b+(n+1)*(B+1):=by grind
  rcases Zbf.1 h with rfl | h
  ·grind [G']
  ·rcases Zax.1 h with h | h
   ·exact(a _ x h).mono ω ω
   ·exact(Nw a n _ ω x h).mono ω ω
def NdT (t:ah):Prop:=∀x∈aH t,jl x
def NdL (l:List ah):Prop:=∀x∈aC l,jl x
mutual
theorem DS:∀(t:ah) (b:Nat),kZ t->NdT t->∀x∈bY t b,nZ b (b+bw t) x
 | .mk op r mn mx lz cap nk ks,b,h,hn,x,hx=>by
  rw[kZ] at h
  obtain⟨⟨g,hw⟩,_,h3⟩:=h
  have hn1:jl ⟨op,r,mn,mx,lz,cap,ks.length⟩:=hn _ (by rw[aH];exact Za8 ..)
  have hn2:NdL ks:=λy hy=>hn y (by rw[aH];exact ZaU _ hy)
  have hl:=λb=>G_ ks b h3 hn2
  have hll:=λb=>nV ks b h3
  rw[bY] at hx
  rw[bw]
  unfold qo
  unfold bP at hw
  by_cases h2:op=2
  ·simp[h2] at hx hw ⊢
   subst hx
   refine⟨hn1,.inl ⟨rfl,rfl,rfl,?_⟩⟩
   split at hw
   ·cases hw
   ·exact(by simpa using hw:_/\_).2
  ·by_cases h7:op=7
   ·simp[h7] at hx ⊢
    subst hx
    exact⟨Zaj _,.inr (.inr (.inr (.inr ⟨.inl rfl,rfl,rfl,rfl⟩)))⟩
   ·by_cases h8:op=8
    ·simp[h8] at hx ⊢
     subst hx
     exact⟨Zaj _,.inr (.inr (.inr (.inr ⟨.inr rfl,rfl,rfl,rfl⟩)))⟩
    ·by_cases h3':op=3
     ·simp[h3'] at hx ⊢
      exact hl b x hx
     ·by_cases h4:op=4
      ·simp[h4] at hx ⊢
       exact(Ny ks b _ h3 hn2 (Zah _) x hx).mono (Zah _) ω
      ·by_cases h5:op=5
       ·subst h5
        simp only[show ¬((5:Int)=2) by decide,show ¬((5:Int)=7) by decide,show ¬((5:Int)=8) by decide,show ¬((5:Int)=3) by decide,show ¬((5:Int)=4) by decide,show ¬((5:Int)=6) by decide,Za0,Zbv,or_self] at hx ⊢
        unfold JY at hx
        rcases Zax.1 hx with hx | hx
        ·refine(Nv hl _ _ x hx).mono (Zah _) ?_
         split<;>omega
        ·split at hx
         ·rename_i hm
          rw[Zac hm]
          rcases Zbf.1 hx with rfl | hx
          ·exact G' lz ω ω ω ω
          ·rcases Zax.1 hx with hx | hx
           ·exact(hl _ x hx).mono ω ω
           ·rw[ZaI.1 hx]
            exact⟨Zaj _,.inr (.inr (.inl ⟨rfl,by simp only;omega,by simp only;omega,rfl,rfl⟩))⟩
         ·rename_i hm
          rw[Zaa hm]
          unfold lP at hx
          refine(Nw hl _ _ ?_ x hx).mono ω ω
          omega
       ·by_cases h6:op=6
        ·simp[h6] at hx hw ⊢
         have hc:1<=cap/\cap<=4:=by
          split at hw
          ·cases hw
          ·have:=(by simpa using hw:_/\_)
           omega
         rcases hx with rfl | hx | rfl
         ·exact⟨Zaj _,.inr (.inr (.inr (.inl ⟨rfl,by simp only;omega,by simp only;omega,rfl,rfl⟩)))⟩
         ·exact(hl _ x hx).mono ω ω
         ·exact⟨Zaj _,.inr (.inr (.inr (.inl ⟨rfl,by simp only;omega,by simp only;omega,rfl,rfl⟩)))⟩
        ·simp[h2,h7,h8,h3',h4,h5,h6] at hx
theorem G_:∀(l:List ah) (b:Nat),nU l->NdL l->∀x∈bx l b,nZ b (b+aR l) x
 | [],b,_,_,x,hx=>by rw[bx] at hx;cases hx
 | t::l,b,h,hn,x,hx=>by
  rw[nU] at h
  rw[bx] at hx
  rw[aR]
  rcases Zax.1 hx with hx | hx
  ·exact(DS t b h.1 (λy hy=>hn y (by rw[aC];exact Zay _ hy)) x hx).mono (Zah _) ω
  ·exact(G_ l _ h.2 (λy hy=>hn y (by rw[aC];exact ZaC _ hy)) x hx).mono ω ω
theorem Ny:∀(l:List ah) (b e:Nat),nU l->NdL l->b+aR l+2*(l.length-1)<=e->∀x∈kR l b e,nZ b e x
 | [],b,e,_,_,_,x,hx=>by rw[kR] at hx;cases hx
 | t::l,b,e,h,hn,he,x,hx=>by
  rw[nU] at h
  rw[kR] at hx
  rw[aR] at he
  have ht:=λb=>DS t b h.1 (λy hy=>hn y (by rw[aC];exact Zay _ hy))
  have hl:=λb=>Ny l b e h.2 (λy hy=>hn y (by rw[aC];exact ZaC _ hy))
  cases l with
  | nil=>
   simp only[List.isEmpty_nil,Zbv] at hx
   exact(ht b x hx).mono (Zah _) ω
  | cons u l=>
   simp only[List.isEmpty_cons,ZaE,Za0] at hx
   simp only[Zae] at he hl
   rcases Zbf.1 hx with rfl | hx
   ·exact⟨Zaj _,.inr (.inl ⟨rfl,by simp only;omega,by simp only;omega,by simp only;omega,by simp only;omega,rfl⟩)⟩
   ·rcases Zax.1 hx with hx | hx
    ·exact(ht _ x hx).mono ω ω
    ·rcases Zbf.1 hx with rfl | hx
     ·exact⟨Zaj _,.inr (.inr (.inl ⟨rfl,by simp only;omega,by simp only;omega,rfl,rfl⟩))⟩
     ·exact(hl _ ω x hx).mono ω (Zah _)
end
variable {i:Nat} {c:List a8} {s:cx} {Z:List Int}
def Seg (c:List a8) (q lo hi:Nat):Prop:=lo<=hi/\hi<c.length/\c.getD hi ea=⟨7,q,0,[]⟩/\∀i,lo<=i->i<hi->nZ lo hi (c.getD i ea)
def Yf (c:List a8) (s:List Int) (r:Nat):Prop:=s.length=r/\(∀q,q<r->∃lo hi:Nat,s.getD q 0=lo/\Seg c q lo hi)/\∀i,i<c.length->∃q lo hi:Nat,q<r/\Seg c q lo hi/\lo<=i/\i<=hi
theorem Yg {α:Type} (d:α) (a b:List α) (h:i<a.length):(a++b).getD i d=a.getD i d:=by
 grind
theorem Qu {α:Type} (d:α) (a b:List α) (i:Nat):(a++b).getD (a.length+i) d=b.getD i d:=by
 grind
theorem Seg.app {lo hi:Nat} (h:Seg c i lo hi) (d:List a8):Seg (c++d) i lo hi:=by
 have⟨h1,e,f,g⟩:=h;refine⟨h1,by grind,by grind,λq a b=>?_⟩;grind
theorem Qck (c:List a8) {t:ah} (r:Nat) (h:kZ t) (e:NdT t):Seg (c++rK t r c.length) r c.length (c.length+bw t+2):=by
 have hl:=jr t (c.length+1) h;have f:rK t r c.length=(⟨4,0,0,[]⟩::(bY t (c.length+1)++[⟨4,1,0,[]⟩]))++[⟨7,r,0,[]⟩]:=by grind [rK]
 have g:((⟨4,0,0,[]⟩:a8)::(bY t (c.length+1)++[⟨4,1,0,[]⟩])).length=bw t+2:=by simp[hl]
 rw[f];refine⟨ω,by grind,?_,λi a b=>?_⟩
 ·grind
 ·obtain⟨k,rfl⟩:∃k,i=c.length+k:=⟨i-c.length,ω⟩;rw[Qu,Yg _ _ _ ω];have d:((⟨4,0,0,[]⟩:a8)::(bY t (c.length+1)++[⟨4,1,0,[]⟩])).getD k ea∈((⟨4,0,0,[]⟩:a8)::(bY t (c.length+1)++[⟨4,1,0,[]⟩])):=by
   grind
  generalize ((⟨4,0,0,[]⟩:a8)::(bY t (c.length+1)++[⟨4,1,0,[]⟩])).getD k ea=x at d ⊢;rcases Zbf.1 d with rfl | d
  ·exact⟨Zaj _,.inr (.inr (.inr (.inl ⟨rfl,by grind,by grind,rfl,rfl⟩)))⟩
  ·rcases Zax.1 d with d | d
   ·exact(DS t _ h e x d).mono ω ω
   ·rw[ZaI.1 d];exact⟨Zaj _,.inr (.inr (.inr (.inl ⟨rfl,by grind,by grind,rfl,rfl⟩)))⟩
theorem Yh {t:ah} (h:Yf c Z i) (hw:kZ t) (m:NdT t):Yf (c++rK t i c.length) (Z++[(c.length:Int)]) (i+1):=by
 have⟨h1,k,l⟩:=h;have n:=Qck c i hw m;have hl:=jr t (c.length+1) hw;refine⟨by simp[h1],λq o=>?_,λr hi=>?_⟩
 ·by_cases j:q<i
  ·have⟨lo,hi,e,hs⟩:=k q j;exact⟨lo,hi,by grind,hs.app _⟩
  ·grind
 ·by_cases g:r<c.length
  ·have⟨q,lo,f,a,b,d,e⟩:=l r g;exact⟨q,lo,f,ω,b.app _,d,e⟩
  ·grind [rK]
theorem Nz:∀(l:List (List Nd)) (r:Nat) (c:List a8) (s:List Int),(∀x∈l,∀n∈x,jl n)->Yf c s r->c.length<=400->(lV l r c s).2.1=0->Yf (lV l r c s).1.1 (lV l r c s).1.2 (r+l.length)/\(lV l r c s).1.1.length<=400
 | [],r,c,s,_,h,f,_=>⟨h,f⟩
 | x::l,r,c,s,hn,h,f,he=>by
  rw[lV] at he ⊢;by_cases i:dG x=false
  ·grind
  ·rw[Zaa i] at he ⊢;have⟨t,d,k,m⟩:=jU (L:=x) (by grind);have ht:oQ x=t:=by
    have:=kQ (a:=0) (r:=[]) d (show x.drop 0=aH t++[] by grind);assumption
   by_cases e:400<c.length+bw (oQ x)+3
   ·grind
   ·rw[Zaa e] at he ⊢;rw[ht] at he e ⊢;have b:NdT t:=λn g=>hn x (by simp) n (by grind)
    have hl:=jr t (c.length+1) d;have:=Nz l (r+1) _ _ (λy j=>hn y (by simp[j])) (Yh h d b) (by grind [rK]) he;grind
theorem uY {ag:List a8} {Q:Int->Prop} (h0:∀i,Q i->0<=i) (b:∀i,Q i->((ag.getD i.toNat ea).op=2->Q (ag.getD i.toNat ea).x/\Q (ag.getD i.toNat ea).y)/\((ag.getD i.toNat ea).op=3->Q (ag.getD i.toNat ea).x)/\((ag.getD i.toNat ea).op≠2->(ag.getD i.toNat ea).op≠3->(ag.getD i.toNat ea).op≠7->Q (i+1))):
  ∀(f:Nat) (s:List Bool) (l:List Int),(∀i:Nat,s.getD i false->Q i)->(∀i∈l,Q i)->∀i:Nat,(nI ag f s l).getD i false->Q i
 | 0,s,l,hs,_=>hs
 | f+1,s,l,hs,hl=>by
  rw[nI];split
  ·exact hs
  ·have hi:Q (l.getD (l.length-1) 0):=by
    rw[Zag,Zaf ω];grind
   have hk:∀i∈l.take (l.length-1),Q i:=λi hi=>hl i (Zcg hi)
   simp only;generalize l.getD (l.length-1) 0=j at hi ⊢;generalize l.take (l.length-1)=k at hk ⊢;have c:=h0 j hi;have a:∀i:Nat,(s.set j.toNat true).getD i false->Q i:=λi h=>by
    by_cases e:i=j.toNat
    ·subst e;rw[show((j.toNat:Nat):Int)=j by omega];exact hi
    ·grind
   split
   ·exact uY h0 b f s k hs hk
   ·split
    ·refine uY h0 b f _ _ a λi h=>?_
     rcases Zax.1 h with h | h
     ·exact hk i h
     ·simp only[Zbf,Zds,Zdt] at h;rcases h with rfl | rfl
      ·grind
      ·grind
    ·split
     ·refine uY h0 b f _ _ a λi h=>?_
      grind
     ·split
      ·exact uY h0 b f _ k a hk
      ·rename_i d g m
       refine uY h0 b f _ _ a λi h=>?_
       grind
theorem Qcl (h:Yf c Z i) (D:i<=8) (z:c.length<=400):pb ⟨c,Z⟩:=by
 have⟨h1,t,u⟩:=h;have hi:∀r,r<c.length->(∃q:Nat,q<i/\c.getD r ea=⟨7,q,0,[]⟩)\/(r+1<c.length/\nZ 0 (c.length-1) (c.getD r ea)):=λr hi=>by
  have⟨q,lo,l,k,⟨p,a2,a3,a4⟩,A,E⟩:=u r hi;by_cases e:r=l
  ·grind
  ·exact .inr ⟨ω,(a4 r A ω).mono ω ω⟩
 refine⟨z,by grind,λr g=>?_,λx j=>?_,⟨by grind,λr g=>?_⟩,λq k=>?_⟩
 ·show OX (c.getD r ea) (decide ((r:Int)+1<(c.length:Int))) c.length Z.length
  have j:=hi r g;generalize c.getD r ea=x at j ⊢;unfold OX;rcases j with⟨q,k,e⟩ | ⟨w,h0,⟨o,a,b,d⟩ | ⟨o,a,b,d,e,f⟩ | ⟨o,a,b,d,e⟩ | ⟨o,a,b,d,e⟩ | ⟨o,a,b,d⟩⟩
  ·rw[e];simp[iZ,h1];omega
  ·grind
  ·simp[o,f,iZ];omega
  ·simp[o,d,e,iZ];omega
  ·simp[o,d,e,iZ];omega
  ·rcases o with o | o<;>(simp[o,a,b,d];omega)
 ·have⟨r,g,e⟩:=Za3 j;rcases hi r g with⟨q,k,B⟩ | ⟨_,h0,_⟩
  ·grind
  ·grind
 ·have j:=hi r g;show((c.getD r ea).op=2->0<=(c.getD r ea).x/\(c.getD r ea).x<c.length/\0<=(c.getD r ea).y/\(c.getD r ea).y<c.length)/\((c.getD r ea).op=3->0<=(c.getD r ea).x/\(c.getD r ea).x<c.length)/\((c.getD r ea).op≠2->(c.getD r ea).op≠3->(c.getD r ea).op≠7->r+1<c.length)
  rcases j with⟨q,k,e⟩ | ⟨w,h0,⟨o,a,b,d⟩ | ⟨o,a,b,d,e,f⟩ | ⟨o,a,b,d,e⟩ | ⟨o,a,b,d,e⟩ | ⟨o,a,b,d⟩⟩
  ·rw[e];simp
  ·omega
  ·omega
  ·omega
  ·omega
  ·omega
 ·have k:q<i:=by grind
  have⟨lo,l,e,p,a2,a3,a4⟩:=t q k;show 0<=Z.getD q 0/\Z.getD q 0<c.length/\∀r:Nat,r<c.length->(se c (Z.getD q 0)).getD r false->(c.getD r ea).op=7->(c.getD r ea).x=q
  rw[e];refine⟨ω,ω,λr g m C=>?_⟩;have v:=uY (ag:=c) (Q:=λr=>(lo:Int)<=r/\r<=l) (λr h=>ω) (λr v=>by
   obtain⟨n,rfl⟩:=Zau (show 0<=r by omega);rw[Zad];by_cases en:n=l
   ·rw[en,a3];simp
   ·have j:=a4 n ω ω;generalize c.getD n ea=x at j ⊢;obtain⟨h0,⟨o,a,b,d⟩ | ⟨o,a,b,d,e,f⟩ | ⟨o,a,b,d,e⟩ | ⟨o,a,b,d,e⟩ | ⟨o,a,b,d⟩⟩:=j
    ·omega
    ·omega
    ·omega
    ·omega
    ·rcases o with o | o<;>(simp[o];omega)) (3*c.length+1) (noB c.length) [(lo:Int)] (λr h=>by
    unfold noB at h;rw[Zag,List.getElem?_replicate] at h;split at h<;>simp at h) (λr h=>by grind) r m
  by_cases en:r=l
  ·rw[en,a3]
  ·obtain⟨h0,⟨o,_⟩ | ⟨o,_⟩ | ⟨o,_⟩ | ⟨o,_⟩ | ⟨o | o,_⟩⟩:=a4 r ω ω<;>omega
theorem Yi {l:List (List Nd)} (f:∀x∈l,∀n∈x,jl n) (c:(bZ l).2.1=0):pb ⟨(bZ l).1.1,(bZ l).1.2⟩/\(bZ l).1.2.length=l.length:=by
 have e:bZ l=Dt l:=by grind [bZ,az]
 rw[e] at c ⊢;unfold Dt at c ⊢;split at c
 ·grind
 ·rename_i d
  rw[Zaa d];have⟨a,b⟩:=Nz l 0 [] [] f ⟨rfl,λq h=>absurd h ω,λi h=>absurd h (Zbo _)⟩ (Zaj _) c;rw[Za6] at a;exact⟨Qcl a ω b,a.1⟩
theorem NA {y:cx} (hl:y.r.length<=1000) (h:mQ y):pb ⟨(b_ y).ag,(b_ y).st⟩/\Mg ⟨(b_ y).cc,(b_ y).cs⟩/\(y.c≠[]->pb ⟨(b_ y).cc,(b_ y).cs⟩/\(b_ y).cs.length=1):=by
 have o:b_ y=jB y:=by grind [b_,az]
 obtain⟨o1,p⟩:(∀x∈(br y).out,cR x)/\(br y).out.length<=y.r.length:=by
  grind [wZ,br,az]
 have h0:(jB y).au=0:=by grind [mQ]
 rw[o];by_cases h1:8<y.r.length
 ·grind [jB,M6]
 by_cases e:(br y).au=0
 case neg=>rw[XG h1 e] at h0;exact absurd h0 e
 by_cases g:y.c≠[]/\(cr y.c).2.1≠0
 ·rw[XH h1 e g.1 g.2] at h0;exact absurd h0 g.2
 have d:y.c≠[]->(cr y.c).2.1=0:=λa=>Zch λb=>g ⟨a,b⟩
 by_cases f:(bZ (br y).out).2.1=0
 case neg=>rw[XI h1 e d f] at h0;exact absurd h0 f
 have n:=Yi o1 f;by_cases i:y.c=[]
 ·rw[XK h1 e d f i];exact⟨n.1,⟨Zaj _,Zaj _,λx k=>nomatch k⟩,λh=>absurd i h⟩
 ·by_cases j:(bZ [cO (cr y.c).1]).2.1=0
  ·rw[Qf h1 e d f i j];have m:=Yi (l:=[cO (cr y.c).1]) (λx k=>by rw[ZaI.1 k];exact wY (mT _)) j;exact⟨n.1,m.1.pg,λ_=>⟨m.1,m.2⟩⟩
  ·rw[XJ h1 e d f i j] at h0;exact absurd h0 j
theorem pb.cod {p:iY} (h:pb p):Μ p.ag:=by
 refine⟨by have:=h.1;omega,λx a b=>?_⟩;obtain⟨i,hi,e⟩:=Za3 a;have hs:=h.2.2.1 i hi;have e2:p.ag.getD i ea=x:=by grind
 have hs:OX (p.ag.getD i ea) (decide ((i:Int)+1<(p.ag.length:Int))) p.ag.length p.ai.length:=hs;grind [OX,iZ]
def DT {p:iY} (h:pb p):wX (bu p) 0/\(bu p).v.L.length=p.ai.length:=by
 rw[show bu p=_ from az _];refine⟨⟨ZaQ _,by show(0:Int)<=3;omega,.inl rfl,Na h.cod (by have:=h.2.1;omega)⟩,?_⟩;show(jH++(p.ai.take p.ai.length).map fL).length=_
 simp[jH]
theorem Qon {y:mD} {f:aZ} (b:f=.n\/f=.c) (h1:pb y.p) (a:f=.c->pb y.q/\y.q.ai.length=1):rM f (tP y):=by
 refine⟨(DT h1).1,λk=>?_,λk=>?_,ZaQ _,ZaQ _,λ_=>by show(0:Int) -0<=200;omega⟩
 ·rcases b with rfl | rfl
  ·cases k
  ·have:=DT (a rfl).1;exact⟨this.1,by show 0<(bu y.q).v.L.length;rw[this.2,(a rfl).2];exact Nat.one_pos⟩
 ·grind
def Bef (a b:cH):Prop:=a.pos<b.pos\/a.pos=b.pos/\a.Aa<b.Aa
theorem B3 (e:Int) (l:List db):∀k,(dY e l k).Pairwise Bef/\∀x∈dY e l k,x.pos=e/\x.Aa<k
 | 0=>⟨.nil,λx c=>nomatch c⟩
 | k+1=>by
  obtain⟨h1,d⟩:=B3 e l k;rw[dY];split
  ·refine⟨ZbC.2 ⟨h1,ZdD _ _,λa f b g=>?_⟩,λx c=>?_⟩
   ·rw[ZaI.1 g];exact .inr ⟨(d a f).1,(d a f).2⟩
   ·rcases Zax.1 c with c | c
    ·grind
    ·rw[ZaI.1 c];exact⟨rfl,by show(k:Int)<((k+1:Nat):Int);omega⟩
  ·grind
theorem KQ (e:Int) (l:List db):(fj e l).Pairwise Bef/\∀x∈fj e l,x.pos=e:=by
 grind [fj,az,B3]
theorem B4 (h:X' s):pb (iU s).p/\Mg (iU s).q/\(m_ (iU s)->pb (iU s).q/\(iU s).q.ai.length=1):=by
 rw[show iU s=_ from az _];have⟨h1,b,d⟩:=NA (y:=oX s) (by grind [Nu]) h;refine⟨h1,b,λa=>d λe=>?_⟩;have a:(!seq (oX s).c []):=a;grind
def DU {b:Bool} (h:X' s) (a:b=m_ (iU s)):fO (iU s,b):=⟨(B4 h).1,(B4 h).2.1,λk=>((B4 h).2.2 k).1,a⟩
def wX.Q {s:im} {N:Int} (h:wX s N):scQ s:=⟨⟨h.1,by have:=h.2.1;omega⟩,h.2.2.2.1.2⟩
structure LwY where
 s:cx
 l:List mN
 k:Int
end
end sx
namespace sx
open Go Go.RowKit Go.ChangeShapes Go.WideShapes Go.ChangeAt
set_option maxRecDepth 100000
variable {Z:Type}
def pk (v:Value):Option (AV D.E):=match v with
 | .int k n=>bif lf k n then some (.int k n) else none
 | .bool b=>some (.bool b)
 | .string s=>if s.data.toList.length<=9223372036854775807 then some (.str s.data.toList) else none
 | _=>none
noncomputable def mG (W:World):Pm D:=⟨λ_=>none,λb o=>(W.cell? ⟨b,o,none⟩).bind pk⟩
def Yj {M:Pm D} {v:Value} {u:AV D.E} (h:pk v=some u):nh u/\VR M u v:=by
 cases v<;>simp only[pk] at h<;>(try (cases h;done))
 case bool b=>cases h;exact⟨rfl,.bool b⟩
 case int k n=>
  cases a:lf k n with
  | false=>rw[a] at h;cases h
  | true=>rw[a] at h;cases h;exact⟨rfl,.int a⟩
 case string s=>
  split at h
  ·rename_i hs;cases h;exact⟨rfl,.str hs⟩
  ·cases h
theorem Qv (W:World) (f:D.ng<=W.heap.size) (d:D.gw W):eP (mG W) (λ_=>none) W:=by
 refine⟨λb o h=>(nomatch h),λb i o j a g h=>(nomatch h),λb o v h=>?_,λb o a h=>(nomatch h),λb c xs e a h=>(nomatch h),⟨⟨f,d⟩,λb o a h=>(nomatch h)⟩⟩;have h:(W.cell? ⟨b,o,none⟩).bind pk=some v:=h;cases e:W.cell? ⟨b,o,none⟩ with
 | none=>rw[e] at h;cases h
 | some u=>
  rw[e] at h;have h:pk u=some v:=h;have:=Yj (M:=mG W) h;exact⟨this.1,u,rfl,this.2⟩
theorem Yk {f:Z->Nat}:∀(xs:List Z) (g:Nat->Nat),(∀i (hi:i<xs.length),f xs[i]<=g i)->(xs.map f).sum<=((List.range xs.length).map g).sum
 | [],g,_=>by simp
 | x::xs,g,h=>by
  have h0:=h 0 (by simp);have h1:=Yk xs (λi=>g (i+1)) λi hi=>h (i+1) (by simp;omega)
  rw[Zae,List.range_succ_eq_map,Zbl,Zco,Zbl,Zco,Zdq];show f x+_<=g 0+((List.range xs.length).map (λi=>g (i+1))).sum
  have h0:f x<=g 0:=h0;omega
theorem Qcm (xs:List Z):(xs.map λ_=>1).sum=xs.length:=by induction xs with
 | nil=>rfl
 | cons x xs a=>simp[a];omega
theorem Yl (d:DataW Z):1<=Rows.uptoBulk d:=by
 cases d with
 | lit l=>cases l<;>simp[Rows.uptoBulk]
 | nil=>simp[Rows.uptoBulk]
 | ptr d=>simp[Rows.uptoBulk]
 | slice elems spare=>simp[Rows.uptoBulk]
 | agg parts=>simp[Rows.uptoBulk]
 | iface t d=>simp[Rows.uptoBulk]
 | map entries=>simp[Rows.uptoBulk]
 | held h=>simp[Rows.uptoBulk]
section
variable {H:Type} {bm:TypeId×Value->H} {P:Program} {W:World} {held:Bool} {M:Pm D}
variable {v:Value} {w:Nat} {Z:List Value} {k:IntKind} {s:ByteArray}
def kU (M:Pm D) (W:World) (l:List (AV D.E)) (cs:List Value):Prop:=l.length=cs.length/\∀(j:Nat) (u:AV D.E) (v:Value),l[j]?=some u->cs[j]?=some v->∀b o,W.cell? ⟨b,o,none⟩=some v->M.sg b o=some u
theorem kU.nil:kU M W [] []:=⟨rfl,λj u v h=>by simp at h⟩
def kU.cons {u:AV D.E} {l:List (AV D.E)} (h:∀b o,W.cell? ⟨b,o,none⟩=some v->M.sg b o=some u) (k:kU M W l Z):kU M W (u::l) (v::Z):=
 ⟨by simp[k.1],λj c d e a=>by
  cases j with
  | zero=>simp at e a;subst e;subst a;exact h
  | succ j=>exact k.2 j c d (by simpa using e) (by simpa using a)⟩
def Ym {c:Nat} {e:TypeId} {w:Nat} {Q:D.E c->Nat->Prop} (L:P.cellsOf e=D.size c) (C:0<D.size c)
  (l:∀n cs x,Trd bm P W held n e cs=some x->∃y:D.E c,kU M W (D.bm c y) cs/\Q y (Rows.uptoBulk x.1)) (h:OK bm P W held (.sl e) v w):
  ∃(xs:List (D.E c)) (g:Nat->Nat),VR M (.list c xs) v/\((List.range xs.length).map g).sum<=w/\∀i (hi:i<xs.length),Q xs[i] (g i):=by
 rcases h with rfl | ⟨a,len,cap,n,rfl,hl,N,t,k,R⟩
 ·exact⟨[],λ_=>0,.fw,by simp,λi hi=>by simp at hi⟩
 ·by_cases h0:len=0
  ·subst h0;exact⟨[],λ_=>0,.fw,by simp,λi hi=>by simp at hi⟩
  have O:∀i,i<len->∃y:D.E c,∃cs,W.cells? 0 (a.add (i*D.size c)) (D.size c)=some cs/\kU M W (D.bm c y) cs/\Q y (Rows.uptoBulk (t i)):=λi hi=>by
   obtain⟨cs,x,h1,K⟩:=R i hi;rw[L] at h1;obtain⟨y,S,r⟩:=l n cs _ K;exact⟨y,cs,h1,S,r⟩
  haveI:Inhabited (D.E c):=⟨D.Zt c⟩
  obtain⟨f,m⟩:=Go.Deep.choose_lt O;obtain⟨b,o,sp⟩:=a;obtain⟨G,c1,c2,_⟩:=m 0 ω;have I:((⟨b,o,sp⟩:Addr).add (0*D.size c)).add 0=⟨b,o,sp⟩:=by simp[Addr.add]
  have d:=(World.cells?_some c1).2.2 0 C;rw[I] at d;have q:(D.bm c (f 0)).length=D.size c:=iX.len c _;rw[Zaf (by rw[<-c2.1,q];exact C)] at d;obtain rfl:sp=none:=by
   cases sp with
   | none=>rfl
   | some s=>
    simp only[World.cell?] at d;split at d<;>simp at d
  have hlen:((List.range len).map f).length=len:=by simp
  refine⟨(List.range len).map f,λi=>Rows.uptoBulk (t i),?_,by rw[hlen];exact k,λi hi=>?_⟩
  ·have F:VR M (.list c ((List.range len).map f)) (.slice (some ⟨b,o,none⟩) ((List.range len).map f).length cap):=by
    refine .list (λi hi j u hu=>?_) (by rw[hlen];unfold maxLen at N;omega) (by rw[hlen];exact hl);have p:i<len:=by simpa using hi
    simp only[ZcD,Zdf] at hu;obtain⟨cs,H,z,_⟩:=m i p;have B:j<D.size c:=by rw[<-iX.len c (f i)];exact(Zam.1 hu).1
    have A:=(World.cells?_some H).2.2 j B;have J:((⟨b,o,none⟩:Addr).add (i*D.size c)).add j=⟨b,o+i*D.size c+j,none⟩:=by
     rw[Addr.add_lit,Addr.add_lit]
    rw[J,Zaf (by rw[<-z.1,iX.len];exact B)] at A;exact z.2 j u _ hu (Zaf _) _ _ A
   rw[hlen] at F;exact F
  ·simp only[ZcD,Zdf];obtain⟨_,_,_,r⟩:=m i (by simpa using hi);exact r
def Yn {n:Int} (h:(Lit.int k n).wf):lf k n:=by
 rw[cY];cases k<;>simp[Lit.wf,IntKind.min,IntKind.max,IntKind.signed,IntKind.bits] at h<;>simp[D1,ue]<;>omega
def Qcn {n:Int} (h:(Lit.int k n).wf):∀b o,W.cell? ⟨b,o,none⟩=some (.int k n)->(mG W).sg b o=some (.int k n):=λb o a=>by
 show(W.cell? ⟨b,o,none⟩).bind pk=_
 rw[a];show pk (.int k n)=_
 simp only[pk,Yn h,cond_true]
def B5 (h:s.size<=maxLen):s.data.toList.length<=9223372036854775807:=by
 have:s.data.toList.length=s.size:=by rw[Zba];rfl
 unfold maxLen at h;omega
def DV (h:s.size<=maxLen):∀b o,W.cell? ⟨b,o,none⟩=some (.string s)->(mG W).sg b o=some (.str s.data.toList):=λb o a=>by
 show(W.cell? ⟨b,o,none⟩).bind pk=_
 rw[a];show pk (.string s)=_
 simp only[pk];rw[Zac (B5 h)]
def Yo (c:Bool):∀b o,W.cell? ⟨b,o,none⟩=some (.bool c)->(mG W).sg b o=some (.bool c):=λb o a=>by
 show(W.cell? ⟨b,o,none⟩).bind pk=_
 rw[a];rfl
def Yp (n:Nat) (cs:List Value) (x:DataW H×List MemPlace) (h:Trd bm prog W held n 63 cs=some x):∃y:mw,kU (mG W) W (D.bm 3 (y:mw)) cs/\True:=by
 have g0:=r7 8 63 [.str,.str] cs n x (by kernel_rfl) h;obtain⟨v,r,j,d,rfl,⟨a,rfl,q1,g⟩,g1,f⟩:=g0.bJ;obtain⟨v,r,k,e,rfl,⟨b,rfl,c,i⟩,g2,e2⟩:=g1.bJ;obtain rfl:=g2.mj;exact⟨⟨a.data.toList,b.data.toList⟩,.cons (DV q1) (.cons (DV c) .nil),trivial⟩
def Qw (n:Nat) (cs:List Value) (x:DataW H×List MemPlace) (h:Trd bm prog W held n 61 cs=some x):∃y:mN,kU (mG W) W (D.bm 19 (y:mN)) cs/\(y.piece.length<=Rows.uptoBulk x.1/\1<=Rows.uptoBulk x.1):=by
 have g0:=r7 8 61 [.str,.int .i64,.bool] cs n x (by kernel_rfl) h;obtain⟨v,r,l,e,rfl,⟨a,rfl,q1,k⟩,g0,i⟩:=g0.bJ;obtain⟨v,r,m,f,rfl,⟨b,rfl,d⟩,g0,e2⟩:=g0.bJ;obtain⟨v,r,o,g,rfl,⟨c,rfl⟩,g0,j⟩:=g0.bJ;obtain rfl:=g0.mj;exact⟨⟨a.data.toList,b,c⟩,.cons (DV q1) (.cons (Qcn d) (.cons (Yo c) .nil)),by show a.data.toList.length<=_;omega,Yl _⟩
theorem Yq:∀(l:List Nat) (i:Nat) (hi:i<l.length),l[i]<=l.sum
 | x::l,0,_=>by simp
 | x::l,i+1,hi=>by
  have:=Yq l i (by simpa using hi);simp only[List.getElem_cons_succ,Zco];omega
def Qco (h:OK bm prog W held (.sl 63) v w):∃xs:List mw,VR (mG W) (.list 3 (xs:List (D.E 3))) v:=by
 obtain⟨xs,g,h1,_,_⟩:=Ym (c:=3) (Q:=λ(_:mw) _=>True) (by kernel_rfl) (by exact ZcY (by kernel_rfl)) (λn cs x h=>Yp n cs x h) h;exact⟨xs,h1⟩
def Yr (h:OK bm prog W held (.sl 61) v w):∃xs:List mN,VR (mG W) (.list 19 (xs:List (D.E 19))) v/\xs.length<=w/\∀r∈xs,r.piece.length<=w:=by
 obtain⟨xs,g,h1,a,b⟩:=Ym (c:=19) (Q:=λ(p:mN) n=>p.piece.length<=n/\1<=n) (by kernel_rfl) (by exact ZcY (by kernel_rfl)) (λn cs x h=>Qw n cs x h) h;have k1:=Yk (f:=λ_=>1) xs g λi hi=>(b i hi).2
 rw[Qcm] at k1;refine⟨xs,h1,Zav k1 a,λt ht=>?_⟩;obtain⟨i,hi,rfl⟩:=Za3 ht;have:=Yq ((List.range xs.length).map g) i (by rw[Za2,List.length_range];exact hi);simp only[ZcD,Zdf] at this;exact Zav (b i hi).1 (Zav this a)
def Ys {x:DataW H×List MemPlace} (h:Trd bm prog W held w 24 Z=some x):∃y:cx,LR (mG W) [.list 3 y.r,.str y.c] Z:=by
 have g0:=r7 8 24 [.sl 63,.str] Z w x (by kernel_rfl) h;obtain⟨v,r,w0,d,rfl,s0,g0,f⟩:=g0.bJ;obtain⟨a0,b⟩:=Qco s0;obtain⟨v,r,j,e,rfl,⟨a,rfl,q1,i⟩,g0,g⟩:=g0.bJ;obtain rfl:=g0.mj;exact⟨⟨a0,a.data.toList⟩,.cons b (.cons (.str (B5 q1)) .nil)⟩
end
end sx
set_option maxRecDepth 100000
set_option maxHeartbeats 4000000
namespace sx
noncomputable section
open Go Go.RowKit cls syn
def qA (t:a7):List Int:=[t.c0,t.c1,t.c2,t.c3,t.c4,t.c5,t.c6,t.c7,t.c8,t.c9]
def gU (t:a7) (m:Int):Bool:=(qA t).all λx=>decide (-1<=x)&&decide (x<=m)
def Qcp:bp D:=cq 119 (a7×Int) (λa _=>match a with
 | [c,m]=>aB (asAgg c) λcs=>match cs with
  | [a0,b,a2,a3,a4,a5,d,e,f,a9]=>aP (cQ a0) λ_ a0=>aP (cQ b) λ_ b=>aP (cQ a2) λ_ a2=>aP (cQ a3) λ_ a3=>aP (cQ a4) λ_ a4=>aP (cQ a5) λ_ a5=>aP (cQ d) λ_ d=>aP (cQ e) λ_ e=>aP (cQ f) λ_ f=>aP (cQ a9) λ_ a9=>aP (cQ m) λ_ m=>.ret (⟨0,a0,b,a2,a3,a4,a5,d,e,f,a9⟩,m)
  | _=>.fail
 | _=>.fail) (λ_=>True) (λy=>[.agg [Qyy y.1.c0,Qyy y.1.c1,Qyy y.1.c2,Qyy y.1.c3,Qyy y.1.c4,Qyy y.1.c5,Qyy y.1.c6,Qyy y.1.c7,Qyy y.1.c8,Qyy y.1.c9],Qyy y.2]) λy=>.bool (gU y.1 y.2)
def wtG (ag:List a8) (a:List Bool):Nat->(Int->Bool)->Int->Bool
 | 0,F=>F
 | n+1,F=>if a.getD n false/\(ag.getD n ⟨0,0,0,[]⟩).op=1 then λk=>if k=(n:Int)+1 then true else wtG ag a n F k else wtG ag a n F
def wtT (m:Int):List a7->(Int->Bool)->Bool
 | [],_=>true
 | t::l,F=>F t.pc&&gU t m&&wtT m l λk=>if k=t.pc then false else F k
structure Yt where
 p:iY
 r:Int
 l:db
 m:Int
def wtS (y:Yt):Int:=y.p.ai.getD y.r.toNat 0
def sA (y:Yt):Bool:=wtT y.m y.l.aU (wtG y.p.ag (se y.p.ag (wtS y)) y.p.ag.length λk=>if k=wtS y then true else false)
def wtP (y:Yt):Prop:=TT (y.p.ag,wtS y)/\0<=y.r/\y.r<y.p.ai.length/\y.l.aU.length<=1000000
def Qoo:bp D:=cq 120 Yt (λa s=>match a with
 | [p,r,l,m]=>aB (IJ p s) λp=>aP (cQ r) λ_ r=>aB (asAgg l) λcs=>aB (ug D 2 cs) λl=>aP (cQ m) λ_ m=>.ret ⟨p,r,(l:db),m⟩
 | _=>.fail) wtP (λy=>[Fj y.p,Qyy y.r,.agg (D.bm 2 y.l),Qyy y.m]) λy=>.bool (sA y)
def Qff (y:a7×Int):Prop:=aj (aD y.1.c0 (-1)) (false=gU y.1 y.2/\True) (aj (aD y.2 y.1.c0) (false=gU y.1 y.2/\True) (aj (aD y.1.c1 (-1)) (false=gU y.1 y.2/\True) (aj (aD y.2 y.1.c1) (false=gU y.1 y.2/\True) (aj (aD y.1.c2 (-1)) (false=gU y.1 y.2/\True) (aj (aD y.2 y.1.c2) (false=gU y.1 y.2/\True) (aj (aD y.1.c3 (-1)) (false=gU y.1 y.2/\True) (aj (aD y.2 y.1.c3) (false=gU y.1 y.2/\True) (aj (aD y.1.c4 (-1)) (false=gU y.1 y.2/\True) (aj (aD y.2 y.1.c4) (false=gU y.1 y.2/\True) (aj (aD y.1.c5 (-1)) (false=gU y.1 y.2/\True) (aj (aD y.2 y.1.c5) (false=gU y.1 y.2/\True) (aj (aD y.1.c6 (-1)) (false=gU y.1 y.2/\True) (aj (aD y.2 y.1.c6) (false=gU y.1 y.2/\True) (aj (aD y.1.c7 (-1)) (false=gU y.1 y.2/\True) (aj (aD y.2 y.1.c7) (false=gU y.1 y.2/\True) (aj (aD y.1.c8 (-1)) (false=gU y.1 y.2/\True) (aj (aD y.2 y.1.c8) (false=gU y.1 y.2/\True) (aj (aD y.1.c9 (-1)) (false=gU y.1 y.2/\True) (aj (aD y.2 y.1.c9) (false=gU y.1 y.2/\True) (true=gU y.1 y.2/\True))))))))))))))))))))
def Yu (t:a7) (m:Int):Prop:=(-1<=t.c0/\t.c0<=m)/\(-1<=t.c1/\t.c1<=m)/\(-1<=t.c2/\t.c2<=m)/\(-1<=t.c3/\t.c3<=m)/\(-1<=t.c4/\t.c4<=m)/\(-1<=t.c5/\t.c5<=m)/\(-1<=t.c6/\t.c6<=m)/\(-1<=t.c7/\t.c7<=m)/\(-1<=t.c8/\t.c8<=m)/\(-1<=t.c9/\t.c9<=m)
def Ha (t:a7) (m:Int):gU t m↔Yu t m:=by simp[gU,Yu,qA]
def Qfg:Ok Qcp:=okZ (V:=Qff) [] f119 (λ_=>⟨[],[],[],[],11,[]⟩) trivial λy _=>by
 unfold Qff;simp only[lG,Zai,gF,iz];have a:¬Yu y.1 y.2->false=gU y.1 y.2:=λh=>(Bool.eq_false_iff.2 λe=>h ((Ha _ _).1 e)).symm
 have ht:Yu y.1 y.2->true=gU y.1 y.2:=λh=>((Ha _ _).2 h).symm
 unfold Yu at a ht
 repeat' first | apply And.intro | intro _
 all_goals first | exact a ω | exact ht ω
end
end sx
namespace sl
open Go.RowKit
variable {α:Type} {bm:α->List Value} {k:Nat}
theorem DW {w:World} {k:Nat} {o:Obj} (h:w.heap[k]?=some o):k<w.heap.size:=by
 grind
def flat (bm:α->List Value) (l:List α):List Value:=l.flatMap bm
theorem n9 (hk:∀x,(bm x).length=k) (l:List α):(flat bm l).length=l.length*k:=by
 induction l with
 | nil=>simp[flat]
 | cons x t a=>
  grind [flat]
theorem kr (l m:List α):flat bm (l++m)=flat bm l++flat bm m:=by simp[flat]
theorem zk (hk:∀x,(bm x).length=k) (l:List α) (i t:Nat) (x:α) (a:l[i]?=some x) (ht:t<k):(flat bm l)[i*k+t]?=(bm x)[t]?:=by
 induction l generalizing i with
 | nil=>simp at a
 | cons y m b=>
  have e:flat bm (y::m)=bm y++flat bm m:=rfl;rcases i with _ | i
  ·grind
  ·grind
structure Rd (bm:α->List Value) (w:World) (a:Option Addr) (l:List α) (cap:Nat):Prop where
 none_:a=none->l=[]/\cap=0
 le:l.length<=cap
 max:cap<=maxLen
 at_:∀ad,a=some ad->0<cap->ad.spot=none/\ad.block<w.heap.size/\∀j u,(flat bm l)[j]?=some u->w.cell? ⟨ad.block,ad.off+j,none⟩=some u
variable {l:List α} {B:Nat} {w:World} {a:Option Addr}
theorem Rd.nil (bm:α->List Value) (w:World):Rd bm w none [] 0:=⟨λ_=>⟨rfl,rfl⟩,Zah _,ω,λ_ h _=>by cases h⟩
theorem Rd.cells {cap:Nat} (h:Rd bm w a l cap) (hk:∀x,(bm x).length=k) {i:Nat} {x:α} (j:l[i]?=some x):
  ∃b off,a=some ⟨b,off,none⟩/\b<w.heap.size/\∀t u,t<k->(bm x)[t]?=some u->w.cell? ⟨b,off+(i*k+t),none⟩=some u:=by
 obtain⟨h1,f,g,c⟩:=h;rcases a with _ | ⟨b,off,sp⟩
 ·grind
 ·have hi:i<l.length:=by
   grind
  obtain⟨hs,d,e⟩:=c _ rfl ω;obtain rfl:sp=none:=hs;exact⟨b,off,rfl,d,λt u ht hu=>e _ _ (by grind [zk])⟩
def Rd.below {f:World} (h:Rd bm w a l B) {cap:Nat} (c:Below cap w f) (k:∀b,a=some b->0<B->b.block<cap):Rd bm f a l B:=
 ⟨h.none_,h.le,h.max,λb e d=>by
  obtain⟨h1,g,i⟩:=h.at_ b e d;exact⟨h1,ZbB g c.size,λj u hu=>(c.cell (p:=⟨b.block,b.off+j,none⟩) (k b e d)).trans (i j u hu)⟩⟩
def Rd.kept {b:World} (h:Rd bm w a l B) (d:Below w.heap.size w b):Rd bm b a l B:=
 h.below d λc e f=>(h.at_ c e f).2.1
def kK (bm:α->List Value) (k:Nat) (E:TypeId) (B:Nat) (w:World) (v:Value) (l:List α):Prop:=w.ownsRow B E k v l.length (flat bm l)
theorem kK.rd {E:TypeId} {v:Value} (h:kK bm k E B w v l):∃a cap,v=.slice a l.length cap/\Rd bm w a l cap/\∀b,a=some b->B<=b.block:=by
 rcases h.2 with⟨rfl,c⟩ | ⟨g,cap,bg,rfl,f,i,c,d,hs,ht⟩
 ·grind [Rd.nil]
 ·refine⟨some ⟨g,0,none⟩,cap,rfl,⟨λh=>(nomatch h),c,d,λb e _=>?_⟩,λb e=>(by grind)⟩;grind [World.cell?]
theorem getD_eq (h:B<l.length) (d:α):l[B]?=some (l.getD B d):=by
 grind
structure mW (P:Program) (T E:TypeId) (k bytes:Nat):Prop where
 vR:P.underlying T=some (.slice E)
 ex:∃i z,P.info? E=some i/\i.zero=some z/\i.size=k/\i.bytes=bytes/\z.cells.size=k
 pos:0<k
variable {B a m X:Nat} {E c:TypeId} {w d:World} {v:Value} {l:List α} {Z:Program} {Y:Array Value} {W:Type} {V:Array Oper} {U:List Oper} {O:Exit->Act->World->Prop} {s x:Operand}
variable {N:List W}
def mW.mk' {z:Value} (h1:Z.underlying E=some (.slice c)) (bytes:(Z.info? c).map (λi=>(i.zero,i.size,i.bytes))=some (some z,B,a)) (b:z.cells.size=B) (T:0<B):mW Z E c B a:=by
 obtain⟨i,hi,hz,hs,d⟩:=info_parts bytes;exact⟨h1,⟨i,z,hi,hz,hs,d,b⟩,T⟩
theorem kK.nil (bm:α->List Value) (k:Nat) (E:TypeId) (B:Nat) (w:World):kK bm k E B w (.slice none 0 0) []:=World.ownsRow_nil _ _ _ _
theorem kK.alloc (h:kK bm k E B w v l) (o:Obj):kK bm k E B (w.alloc o) v l:=World.ownsRow.alloc h o
def kK.drewN (h:kK bm k E B w v l) (n:Nat):kK bm k E B (w.drewN n) v l:=h
theorem kK.below (h:kK bm k E B w v l) (i:Below a w d) (f:w.heap.size<=a):kK bm k E B d v l:=by
 refine⟨h.1,?_⟩;rcases h.2 with b | ⟨g,cap,bg,h1,b,c,e⟩
 ·grind
 ·exact .inr ⟨g,cap,bg,h1,b,(i.block g (ZbB (DW c) f)).trans c,e⟩
def kK.lt (h:kK bm k E B w v l):∀k,v.ownBlock=some k->B<=k/\k<w.heap.size:=World.ownsRow.lt h
theorem kK.mono (h:kK bm k E B w v l) (d:a<=B):kK bm k E a w v l:=by
 refine⟨h.1,?_⟩;rcases h.2 with b | ⟨g,cap,bg,h1,b,c⟩
 ·grind
 ·exact .inr ⟨g,cap,bg,h1,Zav d b,c⟩
def Below.grow {b:World} (w0:Below a w d) (h:kK bm k E B d v l) (e:d.grownBy b v.ownBlock) (c:a<=B) (hs:a<=d.heap.size):Below a w b:=
 w0.grown e hs λk hk=>Zav c (h.lt k hk).1
theorem Rd.built {cs:Array Value} (l:List α) (n:Nat) (d:l.length=n) (a:cs.toList=flat bm l) (c:n<=4096):Rd bm (w.alloc (.cells cs E)) (some ⟨w.heap.size,0,none⟩) l n:=
 ⟨λh=>(nomatch h),ω,by grind [maxLen],λb e _=>by
  cases e;refine⟨rfl,by simp,λj u hu=>?_⟩;rw[<-a] at hu;simp;simpa using hu⟩
theorem zl {o:Oper} {bytes:Act} {p:Option Addr} {f:List α}
  (G:mW Z E c k B) (g:o.guard=none) (C:o.op=.call { callee:=.builtin .append,args:=#[s,x],argTypes:=#[E,E] })
  (hs:bytes.eval s=v) (D:bytes.eval x=.slice p m X) (e:kK bm k c a w v l) (d:Rd bm w p f X) (A:m=f.length) (hk:∀x,(bm x).length=k) (h1:∀x,∀u∈bm x,u.oneCell')
  (n:l.length+f.length<=1000000000) (QV:B<=65536) (H:a<=w.heap.size)
  (h:∀F t,kK bm k c a t F (l++f)->w.grownBy t v.ownBlock->wpList Z V O U (bytes.put o.dst F) t):wpList Z V O (o::U) bytes w:=by
 obtain⟨hu,⟨i,z,hi,hz,dF,q,hzc⟩,J⟩:=G;rcases p with _ | ⟨b,off,sp⟩
 ·obtain⟨rfl,rfl⟩:=d.none_ rfl;subst A;refine wpList_append_own_none g s x E C a c i k hu hi v l.length _ hs e D ?_;grind [World.grownBy.refl]
 ·have r:∀j u,(flat bm f)[j]?=some u->w.cell? ((⟨b,off,sp⟩:Addr).add j)=some u:=λj u M=>by
   have hle:=d.le;have I:0<f.length:=by
    grind [flat]
   obtain⟨K,_,L⟩:=d.at_ _ rfl ω;grind [Addr.add_lit]
  have hmul:(l.length+f.length)*B<=1000000000*65536:=Zci n QV;refine wpList_append_own w g s x E C a c i z k B hu hi hz dF q hzc J v l.length _ hs e ⟨b,off,sp⟩ m X (flat bm f) D (by rw[n9 hk,A]) r (λu hu=>?_) (by grind [maxLen]) (by grind) H ?_
  ·obtain⟨y,_,N⟩:=ZbG.1 hu;grind
  ·grind [kK,kr]
theorem qB {o:Oper} {bytes:Act} {e:TypeId}
  (i:mW Z E c k B) (T:o.guard=none) (n:o.op=.call { callee:=.builtin .append,args:=#[s,x],argTypes:=#[E,E] })
  (hs:bytes.eval s=v) (p:bytes.eval x=.slice (some ⟨m,0,none⟩) 1 1) (j:m=w.heap.size) (b:kK bm k c a w v l) (y:α) (r:Y.toList=bm y) (hk:∀x,(bm x).length=k) (h1:∀x,∀u∈bm x,u.oneCell')
  (f:l.length<1000000000) (QV:B<=65536) (q:a<=w.heap.size)
  (h:∀g d,kK bm k c a d g (l++[y])->(w.alloc (.cells Y e)).grownBy d v.ownBlock->wpList Z V O U (bytes.put o.dst g) d):wpList Z V O (o::U) bytes (w.alloc (.cells Y e)):=by
 subst j;exact zl i T n hs p (b.alloc _) (Rd.built [y] 1 rfl (by grind [flat]) ω) rfl hk h1 (by simp;omega) QV (by simp;omega) h
def oY {b:World} (e:Below a w d) (h:kK bm k E B d v l) (f:(d.alloc (.cells Y c)).grownBy b v.ownBlock) (w0:a<=B) (hs:a<=d.heap.size):Below a w b:=
 Below.grow (e.alloc hs _) (h.alloc _) f w0 (by simp;omega)
theorem xY {x:W} (h:N[B]?=some x):B<N.length:=by
 grind
theorem Yv (hk:∀x,(bm x).length=k) (l:List α) (i t:Nat) (x y:α) (u:Value) (a:l[i]?=some x) (ht:t<k) (c:(bm x).set t u=bm y):(flat bm l).set (i*k+t) u=flat bm (l.set i y):=by
 induction l generalizing i with
 | nil=>simp at a
 | cons z m b=>
  have e:∀z,flat bm (z::m)=bm z++flat bm m:=λ_=>rfl
  rcases i with _ | i
  ·grind
  ·simp only[Zcm] at a;rw[Zdd,e,ZbY _ _ (by grind),hk,show(i+1)*k+t-k=i*k+t by grind,b i a];rfl
theorem kK.store (h:kK bm k E B w (.slice (some ⟨a,0,none⟩) m X) l) (g:m=l.length) (hk:∀x,(bm x).length=k) {i t:Nat} {x y:α} {u:Value} (c:l[i]?=some x) (ht:t<k) (b:(bm x).set t u=bm y):
  kK bm k E B (w.setCell ⟨a,i*k+t,none⟩ u) (.slice (some ⟨a,0,none⟩) m X) (l.set i y):=by
 subst g;have:=(World.ownsRow.stored h (i*k+t) u).1;grind [Yv,kK]
theorem kK.form (h:kK bm k E B w v l) (b:l≠[]):∃g cap,v=.slice (some ⟨g,0,none⟩) l.length cap/\B<=g/\g<w.heap.size/\l.length<=cap/\cap<=maxLen:=by
 rcases h.2 with⟨rfl,a⟩ | ⟨g,cap,bg,rfl,c,d,a,e,hs,ht⟩
 ·grind
 ·grind
theorem kK.cellAt (h:kK bm k E B w (.slice (some ⟨a,0,none⟩) m X) l) (b:m=l.length) (hk:∀x,(bm x).length=k) {i t:Nat} {x:α} (c:l[i]?=some x) (ht:t<k) (hu:(bm x)[t]?=some v):
  w.cell? ⟨a,i*k+t,none⟩=some v/\w.frozen? ⟨a,i*k+t,none⟩=false:=by
 subst b;have hi:=xY c;have g:i*k+t<l.length*k:=by
  have:(i+1)*k<=l.length*k:=Zbc k hi;grind
 refine⟨?_,World.ownsRow.frozenAt h _⟩;rw[World.ownsRow.cellAt h (i*k+t) g,<-hu];grind [zk]
def qC (h:Below B w d) (n:Nat):Below B w (d.drewN n):=⟨h.os,h.tape,h.output,h.size,h.block⟩
theorem uZ {β:Type} (f:W->List β) {p:W} (h:N[B]?=some p):(N.take (B+1)).flatMap f=(N.take B).flatMap f++f p:=by
 grind [List.take_add_one]
theorem fV {β:Type} (f:W->List β) (n:Nat) (h:∀x,(f x).length<=n) (l:List W):(l.flatMap f).length<=l.length*n:=by
 induction l with
 | nil=>simp
 | cons x t a=>simp only[Zbt,Zab,Zae];have:=h x;rw[ZaV];omega
variable {α:Type} {bm:α->List Value} {k:Nat}
variable {E Y g:TypeId} {B:Nat} {v:Value} {l:List α} {w:World}
def cn (w:World) (v a:Value):Prop:=a.ownBlock=v.ownBlock\/a.ownBlock=none\/∃k,a.ownBlock=some k/\w.heap.size<=k
theorem Qcs {P:Program} (w:World) {ty:TypeId} {bytes:Nat} {b off m c:Nat} (news:List Value)
  (I:mW P E Y k B) (d:kK bm k Y bytes w v l) (hl:news.length=m*k) (C:∀j u,news[j]?=some u->w.cell? ⟨b,off+j,none⟩=some u) (h1:∀u∈news,u.oneCell')
  (t:l.length+m<=maxLen) (f:(l.length+m)*B<=140737488355328) (L:bytes<=w.heap.size):
  ∃q r,(Builtin.append_ #[E,E] ty #[v,.slice (some ⟨b,off,none⟩) m c]).run P w=.ok q r/\r.ownsRow bytes Y k q (l.length+m) (flat bm l++news)/\w.grownBy r v.ownBlock/\cn w v q:=by
 obtain⟨hu,⟨i,z,hi,hz,dF,o,hzc⟩,H⟩:=I;have n:∀j u,news[j]?=some u->w.cell? ((⟨b,off,none⟩:Addr).add j)=some u:=λj u h=>by grind [Addr.add_lit]
 obtain⟨q,r,s,J,K,_⟩:=run_append_own (P:=P) w bytes E ty Y i z k B hu hi hz dF o hzc H v l.length _ d ⟨b,off,none⟩ m c news hl n h1 t f L;refine⟨q,r,s,J,K,?_⟩;rcases d.2 with⟨rfl,Q⟩ | ⟨g,cap,bg,rfl,M,O,R,N,x,D⟩
 ·have A:l=[]:=Zap Q;subst A;obtain⟨U,V,a,k2,_,_⟩:=run_append_own (P:=P) w w.heap.size E ty Y i z k B hu hi hz dF o hzc H (.slice none 0 0) 0 [] (World.ownsRow_nil _ _ _ _) ⟨b,off,none⟩ m c news hl n h1 (by assumption) (by assumption) (Zah _);rw[s] at a;cases a;rcases k2.2 with⟨rfl,_⟩ | ⟨g2,F,G,rfl,y,_⟩
  ·exact .inr (.inl rfl)
  ·exact .inr (.inr ⟨g2,rfl,y⟩)
 ·by_cases e:l.length+m<=cap
  ·have p:l.length*i.size+news.length<=bg.size:=by rw[hl,x,dF,<-ZbL];exact Zbc _ e
   have a:=run_append_room (P:=P) w E ty Y i hu hi g l.length cap bg O ⟨b,off,none⟩ m c news (by grind) n h1 e p;rw[s] at a;cases a;exact .inl rfl
  ·have holds:∀j u,(flat bm l)[j]?=some u->w.cell? ((⟨g,0,none⟩:Addr).add j)=some u:=World.ownsRow.cells d (g:=g) rfl;have S:l.length+m<=9223372036854775807:=by assumption
   have a:=run_append_grow (P:=P) w E ty Y i z hu hi hz ⟨g,0,none⟩ l.length cap (flat bm l) (by rw[dF];exact d.1) holds ⟨b,off,none⟩ m c news (by grind) n ω ω (growslice_fits ω (by grind));rw[s] at a;cases a;exact .inr (.inr ⟨_,rfl,Zah _⟩)
theorem DX {P:Program} {ops:Array Oper} {rest:List Oper} {o:Oper} {a:Act} {Q:Exit->Act->World->Prop} {T E:TypeId} {bytes:Nat} {s x:Operand} {cs:Array Value} {n:Nat}
  (r:mW P T E k B) (i:o.guard=none) (F:o.op=.call { callee:=.builtin .append,args:=#[s,x],argTypes:=#[T,T] })
  (hs:a.eval s=v) (H:a.eval x=.slice (some ⟨n,0,none⟩) 1 1) (D:n=w.heap.size) (d:kK bm k E bytes w v l) (y:α) (I:cs.toList=bm y) (hk:∀x,(bm x).length=k) (h1:∀x,∀u∈bm x,u.oneCell')
  (q:l.length<1000000000) (QV:B<=65536) (M:bytes<=w.heap.size)
  (h:∀e f,kK bm k E bytes f e (l++[y])->(w.alloc (.cells cs g)).grownBy f v.ownBlock->cn w v e->wpList P ops Q rest (a.put o.dst e) f):wpList P ops Q (o::rest) a (w.alloc (.cells cs g)):=by
 subst D;have hmul:(l.length+1)*B<=1000000000*65536:=Zci ω QV;have p:=Rd.built (w:=w) (E:=g) (cs:=cs) (bm:=bm) [y] 1 rfl (by simp[I,flat]) ω;obtain⟨_,_,C⟩:=p.at_ _ rfl ω;obtain⟨e,f,G,J,t,b⟩:=Qcs (P:=P) (ty:=o.type) (m:=1) (c:=1) (w.alloc (.cells cs g)) (flat bm [y]) r (d.alloc _) (by rw[n9 hk];rfl) C (λu hu=>by
  obtain⟨z,_,hz⟩:=ZbG.1 hu;exact h1 z u hz) (by grind [maxLen]) ω (by grind)
 refine wpList_plain i λK A=>?_
 unfold Oper.wp execOp;simp only[F,resolve,invoke,builtin,Zzd,Zzc,Zzb,List.map_toArray,Zbl,Zcj,hs,H,G];refine A _ _ (h e f ?_ t ?_)
 ·grind [kK,kr]
 ·rcases b with b | b | ⟨j,b,L⟩
  ·exact .inl b
  ·exact .inr (.inl b)
  ·exact .inr (.inr ⟨j,b,by grind⟩)
def iP (v u:Value):Prop:=∀k,v.ownBlock=some k->u.ownBlock≠some k
theorem kK.aS {a:World} {u:Value} (h:kK bm k E B w v l) (c:w.grownBy a u.ownBlock) (b:iP v u):kK bm k E B a v l:=by
 refine World.ownsRow.kept h c ?_;rcases d:v.ownBlock with _ | j
 ·grind
 ·refine .inr λe=>b j d e.symm
theorem iP.fresh {u c:Value} (d:iP v u) (h:kK bm k E B w v l) (a:cn w u c):iP v c:=by
 intro j b e;rcases a with a | a | ⟨k2,a,f⟩
 ·exact d j b (a▸e)
 ·grind
 ·have:=(h.lt j b).2;grind
end sl
namespace sx
open Go Go.RowKit cls syn sl
abbrev E8:={l:List Value // l.length=8/\∀u∈l,u.oneCell'=true}
def e8 (x:E8):List Value:=x.1
def KR (x:E8):(e8 x).length=8:=x.2.1
def Qh8 (x:E8):∀u∈e8 x,u.oneCell':=x.2.2
def Qct:mW prog 162 164 8 96:=mW.mk' (z:=.agg #[.int .i64 0,.slice none 0 0,.int .i64 0,.int .i64 0,.bool false,.int .i64 0,.int .i64 0,.slice none 0 0]) Tryz.underlying162 (by kernel_rfl) rfl (by decide)
abbrev rP (w:World) (v:Value) (l:List E8):Prop:=kK e8 8 164 0 w v l
def iE (v:Value):List Nat:=match v.ownBlock with
 | some b=>[b]
 | none=>[]
mutual
def TA (M:Pm D) (w:World):ah->E8->List Nat->Prop
 | .mk op r mn mx lz cap nk ks,x,F=>∃(vr kv:Value) (l:List E8) (G:List Nat),x.1=[.int .i64 op,vr,.int .i64 mn,.int .i64 mx,.bool lz,.int .i64 cap,.int .i64 nk,kv]/\VR M (.list 6 r) vr/\(lf .i64 op&&lf .i64 mn&&lf .i64 mx&&lf .i64 cap&&lf .i64 nk)=true/\
  rP w kv l/\F=iE kv++G/\KA M w ks l G
def KA (M:Pm D) (w:World):List ah->List E8->List Nat->Prop
 | [],l,F=>l=[]/\F=[]
 | t::ts,l,F=>∃(x:E8) (l':List E8) (F1 F2:List Nat),l=x::l'/\F=F1++F2/\TA M w t x F1/\KA M w ts l' F2
end
theorem n' {w a:World} {v:Value} {l:List E8} (h:rP w v l) (hk:∀b∈iE v,b<w.heap.size->a.heap[b]?=w.heap[b]?):rP a v l:=by
 refine⟨h.1,?_⟩;rcases h.2 with c | ⟨g,cap,bg,rfl,c,d,e⟩
 ·grind
 ·grind [iE,Value.ownBlock]
mutual
theorem w8 {M M':Pm D} {w w':World} (hM:Le M M'):∀(t:ah) (x:E8) (F:List Nat),TA M w t x F->(∀b∈F,b<w.heap.size->w'.heap[b]?=w.heap[b]?)->TA M' w' t x F
 | .mk op r mn mx lz cap nk ks,x,F,h,hk=>by
  rw[TA] at h ⊢
  obtain⟨vr,kv,l,G,h1,h2,h3,h4,rfl,h6⟩:=h
  exact⟨vr,kv,l,G,h1,h2.mono hM,h3,n' h4 λb hb=>hk b (Zay _ hb),rfl,rr hM ks l G h6 λb hb=>hk b (ZaC _ hb)⟩
theorem rr {M M':Pm D} {w w':World} (hM:Le M M'):∀(ts:List ah) (l:List E8) (F:List Nat),KA M w ts l F->(∀b∈F,b<w.heap.size->w'.heap[b]?=w.heap[b]?)->KA M' w' ts l F
 | [],l,F,h,_=>by rw[KA] at h ⊢;exact h
 | t::ts,l,F,h,hk=>by
  rw[KA] at h ⊢
  obtain⟨x,l',F1,F2,h1,rfl,h3,h4⟩:=h
  exact⟨x,l',F1,F2,h1,rfl,w8 hM t x F1 h3 λb hb=>hk b (Zay _ hb),rr hM ts l' F2 h4 λb hb=>hk b (ZaC _ hb)⟩
end
variable {w:World} {M:Pm D} {v:Value} {b:Nat} {Z:TypeId} {a:List Nat} {Y:Array Value} {X:Program}
theorem KS:∀{a:List ah} {l:List E8} {F:List Nat},KA M w a l F->l.length=a.length
 | [],l,F,h=>by rw[KA] at h;rw[h.1];rfl
 | t::a,l,F,h=>by
  rw[KA] at h;obtain⟨x,e,c,d,rfl,_,_,b⟩:=h;simp[KS b]
theorem Yw {t:ah} {x:E8} (c:TA M w t x a):∀{b:List ah} {l:List E8} {F:List Nat},KA M w b l F->KA M w (b++[t]) (l++[x]) (F++a)
 | [],l,F,h=>by
  rw[KA] at h;obtain⟨rfl,rfl⟩:=h;exact⟨x,[],a,[],rfl,by simp,c,by rw[KA];exact⟨rfl,rfl⟩⟩
 | u::b,l,F,h=>by
  rw[KA] at h;obtain⟨y,i,d,e,rfl,rfl,f,g⟩:=h;rw[Za1,KA];exact⟨y,i++[x],d,e++a,rfl,by rw[ZaD],f,Yw c g⟩
theorem jv {fr:Nat×Nat} (a:w.heap[b]?=some (.cells Y Z fr)) (j:Nat):w.cell? ⟨b,j,none⟩=Y[j]?:=by simp[World.cell?,a]
theorem NB (a:w.heap[b]?=some (.cells Y Z (0,0))) (j:Nat):w.frozen? ⟨b,j,none⟩=false:=by simp[World.frozen?,a]
def tT (h:b=w.heap.size) (o:Obj):(w.alloc o).heap[b]?=some o:=by subst h;exact heap_alloc_new w o
def eO {k:IntKind} {n:Int} (h:VR M (.int k n) v):v=.int k n/\lf k n:=by cases h with | int h=>exact⟨rfl,h⟩
def oZ {b:Bool} (h:VR M (.bool b) v):v=.bool b:=by cases h;rfl
def B6 {c:List (D.E b)} (h:VR M (.list b c) v):∃a n k,v=.slice a n k:=by cases h<;>exact⟨_,_,_,rfl⟩
def zm {t:ah} {x:E8} (h:TA M w t x a):∃F n c b g d,x.1=[.int .i64 t.op,.slice F n c,.int .i64 t.mn,.int .i64 t.mx,.bool t.lz,.int .i64 t.cap,.int .i64 t.nk,.slice b g d]:=by
 cases t;rw[TA] at h;obtain⟨o,m,l,G,h1,e,i,f,j,k⟩:=h;obtain⟨_,_,_,rfl⟩:=B6 e;obtain⟨_,_,rfl,_⟩:=f.rd;exact⟨_,_,_,_,_,_,h1⟩
def Yx {fn:Func} {p u:Tmp} (h:fn.results=#[.cell p Z,.tmp u]) (tmps:Array Value) {a:Addr} (b:tmps.getD p Go.undef=.pointer (some a)) (c:(loadVar Z a).run X w=.ok v w):(results fn tmps).run X w=.ok (.tuple #[v,tmps.getD u Go.undef]) w:=by
 rw[results_cell_tmp h,b];simp[asAddr,c]
def rv {fn:Func} {p:Tmp} (h:fn.results=#[.cell p Z]) (tmps:Array Value) {a:Addr} (c:tmps.getD p Go.undef=.pointer (some a)) (d:(loadVar Z a).run X w=.ok v w):(results fn tmps).run X w=.ok v w:=by
 have b:tmps[p]?.getD Go.undef=.pointer (some a):=by simpa using c
 simp[results,h,b,asAddr,d]
abbrev Hb (w:World) (b:Nat) (a c d v3 e v5 f g:Value):World:=(((((((w.setCell ⟨b,0,none⟩ a).setCell ⟨b,1,none⟩ c).setCell ⟨b,2,none⟩ d).setCell ⟨b,3,none⟩ v3).setCell ⟨b,4,none⟩ e).setCell ⟨b,5,none⟩ v5).setCell ⟨b,6,none⟩ f).setCell ⟨b,7,none⟩ g
variable {w:World} {b i:Nat} {v:Value} {N:Array Value} {M:TypeId} {a:Nat×Nat}
variable {k:Nat}
theorem heap_set (h:w.heap[b]?=some (.cells N M a)):(w.setCell ⟨b,i,none⟩ v).heap[b]?=some (.cells (N.setIfInBounds i v) M a):=by
 grind [World.setCell]
def kL (h:k≠b):(w.setCell ⟨b,i,none⟩ v).heap[k]?=w.heap[k]?:=Below.heap_setCell _ _ _ _ h
theorem B7 {v0 v1 v2 v3 v4 v5 v6 v7:Value} (h:w.heap[b]?=some (.cells N M a)) (hs:N.size=8):(Hb w b v0 v1 v2 v3 v4 v5 v6 v7).heap[b]?=some (.cells #[v0,v1,v2,v3,v4,v5,v6,v7] M a):=by
 unfold Hb;rw[heap_set (heap_set (heap_set (heap_set (heap_set (heap_set (heap_set (heap_set h)))))))];obtain⟨l⟩:=N;obtain⟨a0,l,rfl⟩:=ZaB (show l.length=7+1 from hs);obtain⟨c,l,rfl⟩:=ZaB (show l.length=6+1 by simpa using hs);obtain⟨a2,l,rfl⟩:=ZaB (show l.length=5+1 by simpa using hs);obtain⟨a3,l,rfl⟩:=ZaB (show l.length=4+1 by simpa using hs);obtain⟨a4,l,rfl⟩:=ZaB (show l.length=3+1 by simpa using hs);obtain⟨a5,l,rfl⟩:=ZaB (show l.length=2+1 by simpa using hs);obtain⟨d,l,rfl⟩:=ZaB (show l.length=1+1 by simpa using hs);obtain⟨e,l,rfl⟩:=ZaB (show l.length=0+1 by simpa using hs);simp_all
def zn {v0 v1 v2 v3 v4 v5 v6 v7:Value} (h:k≠b):(Hb w b v0 v1 v2 v3 v4 v5 v6 v7).heap[k]?=w.heap[k]?:=by
 unfold Hb;rw[kL h,kL h,kL h,kL h,kL h,kL h,kL h,kL h]
theorem l5 {v0 v1 v2 v3 v4 v5 v6 v7:Value}:Below b w (Hb w b v0 v1 v2 v3 v4 v5 v6 v7):=by
 unfold Hb;have k:∀(W:World) (i:Nat) (v:Value),Below b w W->Below b w (W.setCell ⟨b,i,none⟩ v):=λW i v h=>h.setCell (Zah _) v
 grind [Below.refl]
def nodeAt {M:Pm D} {y:List Nd} (h:Rd M w b i (aX (D:=D) 7 y)) {x:Nd} (e:y[k]?=some x):
  ∃a,VR M (.list 6 x.r) a/\(lf .i64 x.op&&lf .i64 x.mn&&lf .i64 x.mx&&lf .i64 x.cap&&lf .i64 x.af)/\
   w.cell? ⟨b,i+k*7,none⟩=some (.int .i64 x.op)/\w.cell? ⟨b,i+k*7+1,none⟩=some a/\w.cell? ⟨b,i+k*7+2,none⟩=some (.int .i64 x.mn)/\w.cell? ⟨b,i+k*7+3,none⟩=some (.int .i64 x.mx)/\
   w.cell? ⟨b,i+k*7+4,none⟩=some (.bool x.lz)/\w.cell? ⟨b,i+k*7+5,none⟩=some (.int .i64 x.cap)/\w.cell? ⟨b,i+k*7+6,none⟩=some (.int .i64 x.af):=by
 obtain⟨hi,rfl⟩:=Zam.1 e;have o:=kX iX h hi;obtain⟨z,a0,f⟩:=o 0 _ rfl;obtain⟨v,c,b1⟩:=o 1 _ rfl;obtain⟨A,a2,g⟩:=o 2 _ rfl;obtain⟨v3,a3,j⟩:=o 3 _ rfl;obtain⟨B,a4,l⟩:=o 4 _ rfl;obtain⟨v5,a5,m⟩:=o 5 _ rfl;obtain⟨C,d,n⟩:=o 6 _ rfl;obtain⟨rfl,p⟩:=eO f;obtain⟨rfl,q⟩:=eO g;obtain⟨rfl,s⟩:=eO j;obtain rfl:=oZ l;obtain⟨rfl,t⟩:=eO m;obtain⟨rfl,u⟩:=eO n;exact⟨v,b1,by simp only[ZaW];exact⟨⟨⟨⟨p,q⟩,s⟩,t⟩,u⟩,a0,c,a2,a3,a4,a5,d⟩
def w9 {l:List E8} (h:rP w v l):∀c∈iE v,c<w.heap.size:=λc a=>by
 unfold iE at a;split at a
 ·rename_i e
  rw[ZaI.1 a];exact(h.lt _ e).2
 ·cases a
mutual
theorem Qfh {M:Pm D} {w:World}:∀(t:ah) (x:E8) (F:List Nat),TA M w t x F->∀c∈F,c<w.heap.size
 | .mk op r mn mx lz cap nk ks,x,F,h=>by
  rw[TA] at h
  obtain⟨vr,kv,l,G,h1,h2,h3,h4,rfl,h6⟩:=h
  exact λc hc=>(Zax.1 hc).elim (w9 h4 c) (Yy ks l G h6 c)
theorem Yy {M:Pm D} {w:World}:∀(ts:List ah) (l:List E8) (F:List Nat),KA M w ts l F->∀c∈F,c<w.heap.size
 | [],l,F,h=>by rw[KA] at h;rw[h.2];exact λc hc=>nomatch hc
 | t::ts,l,F,h=>by
  rw[KA] at h
  obtain⟨x,l',F1,F2,h1,rfl,h3,h4⟩:=h
  exact λc hc=>(Zax.1 hc).elim (Qfh t x F1 h3 c) (Yy ts l' F2 h4 c)
end
def mH (M:Pm D):Le M M:=⟨λ_ _ h=>h,λ_ _ _ h=>h⟩
def tU {v:Value} {c:Nat} (h:v.ownBlock=some c):c∈iE v:=by unfold iE;rw[h];exact ZaI.2 rfl
theorem Yz {M:Pm D} {wr k b:World} {n1:Nat} {g:Value} {l:List E8} {G:List Nat} {B:List ah} {A:ah} {x1:E8} {n:List Nat} {o1 K:Obj} {a m o:Nat} {u:Value}
  (O:rP wr g l) (t:KA M wr B l G) (w:(iE g++G).Nodup) (s:∀c∈iE g++G,n1+1<=c/\c<wr.heap.size) (dF:n1+1<=wr.heap.size) (y:Below wr.heap.size wr k) (q:TA M k A x1 n) (I:n.Nodup) (r:∀c∈n,wr.heap.size<=c)
  (f:rP b (.slice (some ⟨a,0,none⟩) m o) (l++[x1])) (z:((k.alloc o1).alloc K).grownBy b g.ownBlock) (i:sl.cn (k.alloc o1) g (.slice (some ⟨a,0,none⟩) m o)):
  rP (b.setCell ⟨n1,7,none⟩ u) (.slice (some ⟨a,0,none⟩) m o) (l++[x1])/\KA M (b.setCell ⟨n1,7,none⟩ u) (B++[A]) (l++[x1]) (G++n)/\(iE (.slice (some ⟨a,0,none⟩) m o)++(G++n)).Nodup/\
   ∀c∈iE (.slice (some ⟨a,0,none⟩) m o)++(G++n),n1+1<=c/\c<(b.setCell ⟨n1,7,none⟩ u).heap.size:=by
 have hs:=y.size;have x:=z.size;simp only[World.alloc,ZcH] at x;have J:(b.setCell ⟨n1,7,none⟩ u).heap.size=b.heap.size:=by simp[World.setCell]
 have h:iE (.slice (some ⟨a,0,none⟩) m o)=[a]:=rfl;have F:n1+1<=a/\(a∈iE g\/k.heap.size+1<=a):=by
  rcases i with i | i | ⟨j,i,N⟩
  ·have:a∈iE g:=tU i.symm;simp_all
  ·cases i
  ·cases i;grind [World.alloc]
 have H:a<b.heap.size:=w9 f a (by rw[h];simp);have L:=Qfh _ _ _ q;have d:∀c,n1+1<=c->c<k.heap.size->c ∉ iE g->(b.setCell ⟨n1,7,none⟩ u).heap[c]?=k.heap[c]?:=λc h1 C E=>by
  rw[Below.heap_setCell _ _ _ _ (by show c≠n1;omega),z.block c (by simp only[World.alloc,ZcH];omega) (λe=>E (tU e.symm)),Below.heap_alloc _ _ _ (by simp only[World.alloc,ZcH];omega),Below.heap_alloc _ _ _ C]
 have v:=ZbR.1 w;refine⟨n' f λc p _=>Below.heap_setCell _ _ _ _ (by rw[h,ZaI] at p;show c≠n1;omega),Yw (w8 (mH M) _ _ _ q λc p hl=>d c (by have:=r c p;omega) hl λhk=>?_) (rr (mH M) _ _ _ t λc p hl=>(d c (s c (ZaC _ p)).1 ω λhk=>v.2.2 c hk c p rfl).trans (y.block c hl)),?_,?_⟩
 ·grind
 ·rw[h,List.singleton_append,List.nodup_cons,ZbR];grind
 ·grind
set_option maxHeartbeats 4000000 in
theorem Qcu {M:Pm D} {y:List Nd} {b o cap:Nat} (hl:y.length<=1000000) (E:y.length<=cap):∀(n:Nat) (t:ah) (at_:Nat) (rest:List Nd) (w:World),(aH t).length<=n->kZ t->y.drop at_=aH t++rest->Rd M w b o (aX (D:=D) 7 y)->b<w.heap.size->
  Calls prog 66 #[.slice (some ⟨b,o,none⟩) y.length cap,.int .i64 at_] w λe w'=>∃(x:E8) (F:List Nat),e=.returned (.tuple #[.agg x.1.toArray,.int .i64 ((at_+(aH t).length:Nat):Int)])/\TA M w' t x F/\F.Nodup/\(∀c∈F,w.heap.size<=c)/\Below w.heap.size w w':=by
 intro n
 induction n with
 | zero=>
  intro t at_ rest w h
  cases t
  grind [aH]
 | succ n ih=>
  intro t at_ rest w hn hw hd hR hb
  obtain⟨op,r,mn,mx,lz,cap,nk,a⟩:=t
  rw[aH] at hn hd
  rw[kZ] at hw
  obtain⟨_,rfl,X⟩:=hw
  have ha:at_<y.length:=by
   grind [List.drop_eq_nil_of_le]
  have hx:y[at_]?=some ⟨op,r,mn,mx,lz,cap,a.length⟩:=by
   have:=ZaR (λl=>l[0]?) hd
   grind
  obtain⟨vr,hvr,hin,c0,c1,c2,c3,c4,c5,c6⟩:=nodeAt hR hx
  obtain⟨H,rn,rc,rfl⟩:=B6 hvr
  have HX:=Lib.hid (p:=Rd M w b o (aX (D:=D) 7 y)) hR
  clear hR hx
  go_enter Tryz.func66,Tryz.ntmps66
  go_wp2_with fail
  have hzs:w.heap.size<w.heap.size+2:=ω
  go_loopg [1,7] a.length (λg p i wr=>∃(k:Nat) (R:Value) (l:List E8) (G:List Nat),k<=a.length/\g=a.length-k/\p=.int .i64 ((at_+1+(aC (a.take k)).length:Nat):Int)/\i=.int .i64 k/\
   wr.heap[w.heap.size]?=some (.cells #[.int .i64 0,.slice none 0 0,.int .i64 0,.int .i64 0,.bool false,.int .i64 0,.int .i64 0,.slice none 0 0] 164 (0,0))/\
   wr.heap[w.heap.size+1]?=some (.cells #[.int .i64 op,.slice H rn rc,.int .i64 mn,.int .i64 mx,.bool lz,.int .i64 cap,.int .i64 a.length,R] 164 (0,0))/\
   rP wr R l/\KA M wr (a.take k) l G/\(iE R++G).Nodup/\(∀c∈iE R++G,w.heap.size+2<=c/\c<wr.heap.size)/\w.heap.size+2<=wr.heap.size/\Below w.heap.size w wr)
  case atStart=>
   refine⟨0,_,[],[],ω,rfl,by rw[ZcA,aC];go_num,rfl,?_,?_,kK.nil _ _ _ _ _,by rw[ZcA,KA];exact⟨rfl,rfl⟩,by simp[iE,Value.ownBlock],by simp[iE,Value.ownBlock],by simp,?_⟩
   ·grind [Below.heap_alloc,heap_alloc_new]
   ·exact tT (by simp) _
   ·exact((Below.refl _ _).alloc (Zah _) _).alloc (by simp) _
  case round=>
   obtain⟨k,R,l,G,hk,rfl,rfl,rfl,hz,q,ho,N,O,L,dF,hbl⟩:=hrel
   have A:=KS N
   replace A:l.length=k:=by rw[A,Zar];omega
   have d6:wr.cell? ⟨w.heap.size+1,6,none⟩=some (.int .i64 a.length):=by simp[World.cell?,q]
   have d7:wr.cell? ⟨w.heap.size+1,7,none⟩=some R:=by simp[World.cell?,q]
   obtain⟨d,f,rfl,hrd,_⟩:=ho.rd
   rw[A] at ho O L d7 q
   have HL:=Lib.hid A
   have H1:=Lib.hid hz
   have H2:=Lib.hid q
   have H3:=Lib.hid ho
   have H4:=Lib.hid N
   have H5:=Lib.hid O
   have J:=Lib.hid L
   have H7:=Lib.hid hbl
   have H8:=Lib.hid X
   have H9:=Lib.hid hd
   clear hz q ho N O L hrd hd X A
   have hL:a.length<=y.length:=by
    have h1:=ZaR List.length H9.out
    grind [uM]
   by_cases hlt:k<a.length
   ·obtain⟨I,C⟩:∃I,a[k]?=some I:=⟨_,Zaf hlt⟩
    have ht:aC a=aC (a.take k)++(aH I++aC (a.drop (k+1))):=by
     grind [fe,cU,List.drop_eq_getElem_cons,List.take_append_drop]
    have htk:aC (a.take (k+1))=aC (a.take k)++aH I:=by rw[Zcr,C];exact yR _ _
    have hwt:kZ I:=(rj a).1 H8.out I (ZaJ C)
    have U:y.drop (at_+1+(aC (a.take k)).length)=aH I++(aC (a.drop (k+1))++rest):=by
     have h1:=ZaR (List.drop (1+(aC (a.take k)).length)) H9.out
     grind [List.drop_drop]
    have z:=ih I (at_+1+(aC (a.take k)).length) _ wr (by rw[ht] at hn;simp only[Zae,Zab] at hn;omega) hwt U (λi v e=>let ⟨v',a1,a2⟩:=HX.out i v e;⟨v',(H7.out.cell (p:=⟨b,o+i,none⟩) hb).trans a1,a2⟩) ω
    have HT:=Lib.hid ht
    have HK:=Lib.hid htk
    have HX':=Lib.hid C
    clear ht htk C U hwt
    generalize hm:(aC (a.take k)).length=m at z
    have HM:=Lib.hid hm
    clear hm
    go_wp2_with fail
    refine z.mono ?_
    rintro e w1 ⟨x1,F1,rfl,Q,Y,V,l8⟩
    obtain⟨qa,qn,qc,pa,pn,pc,ex⟩:=zm Q
    rw[ex]
    have G1:=Lib.hid Q
    have G2:=Lib.hid Y
    have G3:=Lib.hid V
    have G4:=Lib.hid l8
    have G5:=Lib.hid ex
    have hs1:=l8.size
    have Z:rP w1 (.slice d k f) l:=H3.out.below l8 (Zah _)
    have s:=(l8.block (w.heap.size+1) ω).trans H2.out
    have d7:w1.cell? ⟨w.heap.size+1,7,none⟩=some (.slice d k f):=by rw[jv s];rfl
    have O1:=Lib.hid Z
    have B1:=Lib.hid s
    have hs2:w.heap.size+1<w1.heap.size:=ω
    have hs3:w.heap.size+1<w1.heap.size+1:=ω
    have hlm:l.length<1000000000:=by rw[HL.out];omega
    clear Q Y V l8 ex Z s
    go_wp2_with (at_builtin;go_must (refine DX (bm:=e8) (v:=.slice d k f) Qct rfl rfl rfl rfl (by simp) (O1.out.alloc _) x1 G5.out.symm KR Qh8 hlm (by decide) (Zaj _) ?_);intro v2 w2 o2 g2 f2;go_must (obtain⟨g',cp,rfl,_⟩:=o2.form (by simp);have B:=(g2.block (w.heap.size+1) (by simp;omega) (λe=>by have:=(J.out _ (Zay _ (by unfold iE;rw[<-e];exact ZaI.2 rfl))).1;omega)).trans ((Below.heap_alloc _ _ _ (by simp;omega)).trans ((Below.heap_alloc _ _ _ hs2).trans B1.out));have d8:w2.cell? ⟨w.heap.size+1,7,none⟩=some (.slice d k f):=jv B 7;have f8:w2.frozen? ⟨w.heap.size+1,7,none⟩=false:=NB B 7;have B2:=Lib.hid B;have O2:=Lib.hid o2;have G6:=Lib.hid g2;have G7:=Lib.hid f2;clear B o2 g2 f2))
    go_roundg (a.length-(k+1))
    case measure=>omega
    case rel=>
     have hE:(l++[x1]).length=l.length+1:=by simp
     have hr:=Yz (u:=.slice (some ⟨g',0,none⟩) (l.length+1) cp) H3.out H4.out H5.out (n1:=w.heap.size+1) (λc E=>J.out c E) dF G4.out G1.out G2.out G3.out O2.out G6.out G7.out
     rw[hE] at hr
     refine⟨k+1,_,_,_,ω,rfl,?_,by go_num,?_,?_,hr.1,?_,hr.2.2.1,hr.2.2.2,?_,?_⟩
     ·rw[HK.out,Zab,HM.out];go_num
     ·rw[Below.heap_setCell _ _ _ _ (by show w.heap.size≠w.heap.size+1;omega),G6.out.block _ (by simp;omega) (λe=>by have:=(J.out _ (Zay _ (tU e.symm))).1;omega),Below.heap_alloc _ _ _ (by simp;omega),Below.heap_alloc _ _ _ ω,G4.out.block _ ω];exact H1.out
     ·simp only[World.setCell,ZbF,Zac,B2.out,Zcp];rfl
     ·rw[Zcr,HX'.out];exact hr.2.1
     ·have:=G6.out.size;simp only[World.alloc,ZcH] at this;simp only[World.setCell,Array.size_modify];omega
     ·exact((H7.out.trans (G4.out.mono ω)).trans (((Below.refl w.heap.size w1).alloc ω _).alloc (by simp;omega) _)).grown G6.out (by simp;omega) (λc e=>by have:=(J.out _ (Zay _ (tU e))).1;omega) |>.setCell (by show w.heap.size<=w.heap.size+1;omega) _
   ·obtain rfl:k=a.length:=ω
    have hcz:∀j,wr.cell? ⟨w.heap.size,j,none⟩=(#[.int .i64 0,.slice none 0 0,.int .i64 0,.int .i64 0,.bool false,.int .i64 0,.int .i64 0,.slice none 0 0]:Array Value)[j]?:=λj=>jv H1.out j
    have hfz:∀j,wr.frozen? ⟨w.heap.size,j,none⟩=false:=NB H1.out
    have hcb:∀j,wr.cell? ⟨w.heap.size+1,j,none⟩=(#[.int .i64 op,.slice H rn rc,.int .i64 mn,.int .i64 mx,.bool lz,.int .i64 cap,.int .i64 a.length,.slice d a.length f]:Array Value)[j]?:=λj=>jv H2.out j
    clear d6 d7
    go_wp2_with fail
    obtain⟨W,hW⟩:∃W,W=Hb wr w.heap.size (.int .i64 op) (.slice H rn rc) (.int .i64 mn) (.int .i64 mx) (.bool lz) (.int .i64 cap) (.int .i64 a.length) (.slice d a.length f):=⟨_,rfl⟩
    have T:=B7 H1.out rfl (v0:=.int .i64 op) (v1:=.slice H rn rc) (v2:=.int .i64 mn) (v3:=.int .i64 mx) (v4:=.bool lz) (v5:=.int .i64 cap) (v6:=.int .i64 a.length) (v7:=.slice d a.length f)
    have K:=λk h=>zn (w:=wr) (b:=w.heap.size) (k:=k) (v0:=.int .i64 op) (v1:=.slice H rn rc) (v2:=.int .i64 mn) (v3:=.int .i64 mx) (v4:=.bool lz) (v5:=.int .i64 cap) (v6:=.int .i64 a.length) (v7:=.slice d a.length f) h
    have S:=l5 (w:=wr) (b:=w.heap.size) (v0:=.int .i64 op) (v1:=.slice H rn rc) (v2:=.int .i64 mn) (v3:=.int .i64 mx) (v4:=.bool lz) (v5:=.int .i64 cap) (v6:=.int .i64 a.length) (v7:=.slice d a.length f)
    rw[<-hW] at T K S
    change bodyPost _ _ _ _ _ (Hb wr w.heap.size (.int .i64 op) (.slice H rn rc) (.int .i64 mn) (.int .i64 mx) (.bool lz) (.int .i64 cap) (.int .i64 a.length) (.slice d a.length f))
    rw[<-hW]
    have hT:=H4.out
    have hP:=H9.out
    rw[ZaM] at hT ⊢
    have hv:=run_loadVar_row (P:=prog) W w.heap.size _ 164 _ _ _ T Tryz.underlying164 rfl (by kernel_rfl)
    refine bodyPost_ret (Yx rfl _ rfl hv) rfl ?_
    refine⟨⟨[.int .i64 op,.slice H rn rc,.int .i64 mn,.int .i64 mx,.bool lz,.int .i64 cap,.int .i64 a.length,.slice d a.length f],rfl,by simp[Value.oneCell']⟩,iE (.slice d a.length f)++G,?_,?_,H5.out,λc E=>by have:=(J.out c E).1;omega,?_⟩
    ·have hn':at_+1+(aC a).length=at_+(aH (.mk op r mn mx lz cap (a.length:Int) a)).length:=by rw[aH,Zae];omega
     rw[<-hn']
     rfl
    ·rw[TA]
     exact⟨_,_,l,G,rfl,hvr,hin,n' H3.out λc E _=>K c (by have:=(J.out c (Zay _ E)).1;omega),rfl,rr (mH M) _ _ _ hT λc E _=>K c (by have:=(J.out c (ZaC _ E)).1;omega)⟩
    ·exact H7.out.trans (S.mono (Zah _))
end sx
set_option maxRecDepth 100000
set_option maxHeartbeats 4000000
namespace sx
noncomputable section
open Go Go.RowKit cls syn
mutual
def nrm:ah->ah
 | .mk op r mn mx lz cap _ ks=>.mk op r mn mx lz cap ks.length (o3 ks)
def o3:List ah->List ah
 | []=>[]
 | t::l=>nrm t::o3 l
end
theorem gV (l:List ah):o3 l=l.map nrm:=by
 induction l with
 | nil=>simp[o3]
 | cons a l b=>simp[o3,b]
def jV (t:ah):nrm t=.mk t.op t.r t.mn t.mx t.lz t.cap t.af.length (t.af.map nrm):=by cases t;rw[nrm,gV];rfl
mutual
theorem zp:∀(t:ah) (m:Nat) (rest:List Nd),(aH t++rest).length<=m->gh m (aH t++rest)=some (nrm t,rest)
 | .mk op r mn mx lz cap nk ks,m,rest,hm=>by
  rw[aH] at hm ⊢
  simp only[Za1,Zae] at hm ⊢
  obtain⟨k,rfl⟩:∃k,m=k+1:=⟨m-1,ω⟩
  rw[gh]
  simp only[Zad]
  rw[B8 ks k rest ω,nrm]
theorem B8:∀(l:List ah) (m:Nat) (rest:List Nd),(aC l++rest).length<=m->kk (gh m) l.length (aC l++rest)=some (o3 l,rest)
 | [],m,rest,_=>by simp[kk,aC,o3]
 | t::l,m,rest,hm=>by
  rw[aC,ZaD] at hm ⊢
  rw[Zae,kk,zp t m _ hm]
  simp only
  rw[B8 l m rest (by simp only[Zab] at hm ⊢;omega),o3]
end
mutual
theorem zq:∀t:ah,aH (nrm t)=aH t
 | .mk op r mn mx lz cap nk ks=>by rw[nrm,aH,aH,rz ks,gV,Za2]
theorem rz:∀l:List ah,aC (o3 l)=aC l
 | []=>by rw[o3]
 | t::l=>by rw[o3,aC,aC,zq t,rz l]
end
theorem zr (a b:ah):aH a=aH b↔nrm a=nrm b:=by
 constructor
 ·intro h;have h1:=zp a (aH a).length [] (by simp);grind [zp]
 ·grind [zq]
theorem NC (a b:ah):wu a b↔nrm a=nrm b:=by
 grind [wu,az,zr]
mutual
theorem ND:∀a b:ah,VE a b=true↔nrm a=nrm b
 | .mk op r mn mx lz cap nk ks,b=>by
  rw[VE,nrm,jV b]
  simp only[ZaW,Zb7,ZaP,ah.mk.injEq,<-gV]
  constructor
  ·rintro⟨⟨⟨⟨⟨⟨⟨h1,h2⟩,h3⟩,h4⟩,h5⟩,h6⟩,h7⟩,h8⟩
   exact⟨h1,h6,h2,h3,h4,h5,ω,(zt ks b.af h7).mp h8⟩
  ·rintro⟨h1,h6,h2,h3,h4,h5,h7,h8⟩
   have h7:ks.length=b.af.length:=ω
   exact⟨⟨⟨⟨⟨⟨⟨h1,h2⟩,h3⟩,h4⟩,h5⟩,h6⟩,h7⟩,(zt ks b.af h7).mpr h8⟩
theorem zt:∀l m:List ah,l.length=m.length->(tF l m=true↔o3 l=o3 m)
 | [],m,h=>by
  cases m with
  | nil=>simp[tF,o3]
  | cons b m=>cases h
 | a::l,m,h=>by
  cases m with
  | nil=>cases h
  | cons b m=>
   rw[tF,o3,o3,ZaW,ND a b,zt l m (by simpa using h),List.cons.injEq]
end
theorem NF (a b:ah):pd a b↔nrm a=nrm b:=by
 unfold pd;rw[az,ND]
theorem Qcv (a b:ah):wu a b=pd a b:=by grind [NC,NF]
theorem tV:∀(l s o:List ah),(∀k,s.any (λx=>pd x k)=o.any (λx=>pd x k))->eG o l=o++fA s l
 | [],s,o,_=>by grind [eG,fA]
 | k::l,s,o,h=>by
  rw[eG,fA];have b:(λx=>wu x k)=λx=>pd x k:=funext λx=>Qcv x k
  rw[b];by_cases c:s.any (λx=>pd x k)
  ·rw[Zac c,Zac (by simp_all)];refine tV l (s++[k]) o λa=>?_
   rw[Zca,h];simp only[ZdX,List.any_nil,Zdh];cases hk:pd k a with
   | false=>rw[Zdh]
   | true=>
    rw[Bool.or_true];symm;rw[h] at c;grind [NF]
  ·rw[Zaa c,Zaa (by simp_all),tV l (s++[k]) (o++[k]) λa=>by simp_all];simp
def w_ (l:List ah):w6 l=kI l:=by
 unfold w6 kI;rw[tV l [] [] λ_=>rfl,Zcb]
theorem tW:∀(l o:List ah),(bQ o l).length=o.length+l.length->bQ o l=o++l
 | [],o,_=>by grind [bQ]
 | k::l,o,h=>by
  rw[bQ] at h ⊢;have h1:(dT o k).length<=o.length+1:=jT o k;have b:∀(l o:List ah),(bQ o l).length<=o.length+l.length:=λl=>by
   induction l with
   | nil=>intro o;rw[bQ];exact Zah _
   | cons a l c=>intro o;rw[bQ];have:=c (dT o a);have:=jT o a;simp only[Zae];omega
  have d:=b l (dT o k);simp only[Zae] at h;rw[tW l (dT o k) ω];grind [dT]
theorem Qx {l:List ah} (h:(kI l).length=l.length):kI l=l:=by
 unfold kI at h ⊢;have e:eG [] l=fA [] l:=by grind [tV]
 rw[e] at h ⊢;have s:=oT l [];have c:=s.length_le;have d:(bQ [] (fA [] l)).length<=(fA [] l).length:=by
  have:∀(l o:List ah),(bQ o l).length<=o.length+l.length:=λl=>by
   induction l with
   | nil=>intro o;rw[bQ];exact Zah _
   | cons a l b=>intro o;rw[bQ];have:=b (dT o a);have:=jT o a;simp only[Zae];omega
  grind
 grind [tW]
theorem Qcw (l:List ah):(kI l).length<=l.length:=by
 rw[<-w_];unfold w6;have:∀(l o:List ah),(bQ o l).length<=o.length+l.length:=λl=>by
  induction l with
  | nil=>intro o;rw[bQ];exact Zah _
  | cons a l b=>intro o;rw[bQ];have:=b (dT o a);have:=jT o a;simp only[Zae];omega
 grind [oT]
theorem NG:∀(n:Nat) (l:List ah),l.length<=n->ju n l=km n l
 | 0,l,h=>by
  have:l=[]:=Zap ω;subst this;rfl
 | n+1,l,h=>by
  rw[ju,km,w_];have:=Qcw l;by_cases c:(kI l).length=l.length
  ·grind [Qx]
  ·rw[Zac ω,Zaa c];exact NG n _ ω
mutual
def eI:ah->Prop
 | .mk op _ _ _ _ _ _ ks=>(op=3->∀k∈ks,k.op≠1)/\(op=4->ks≠[])/\vL ks
def vL:List ah->Prop
 | []=>True
 | t::l=>eI t/\vL l
end
theorem B9 (l:List ah):vL l↔∀t∈l,eI t:=by
 induction l with
 | nil=>simp[vL]
 | cons a l b=>rw[vL,b];simp
theorem lb (t:ah):eI t↔(t.op=3->∀k∈t.af,k.op≠1)/\(t.op=4->t.af≠[])/\∀k∈t.af,eI k:=by cases t;rw[eI,B9];exact ZbW
noncomputable def byD (t:ah):ah:=if t.op=3 then Kv t else if t.op=4 then Ky t else if t.op=5 then dn t else t
theorem YA {l:List ah} (h:∀k∈l,eI k):fP l=iC (aI 3 l):=by
 unfold fP iC aI;rw[List.filter_flatMap];have:∀k∈l,(if k.op=1 then([]:List ah) else if k.op=3 then k.af else[k])=List.filter (λt=>!wV t) (if k.op=3 then k.af else[k]):=λk hk=>by
  grind [lb,List.filter_eq_self,wV]
 clear h
 induction l with
 | nil=>rfl
 | cons a l b=>rw[Zbt,Zbt,this a (by simp),b λk hk=>this k (by grind)]
theorem mX (t:ah):(nrm t).op=t.op:=by rw[jV];rfl
theorem YB (t:ah):(nrm t).r=t.r:=by rw[jV];rfl
theorem n_ (t:ah):(nrm t).af=t.af.map nrm:=by rw[jV];rfl
theorem o4 (t:ah):nrm (nrm t)=nrm t:=by rw[<-zr,zq]
theorem tY (l:List ah):(l.map nrm).map nrm=l.map nrm:=by grind [List.map_congr_left,o4]
theorem KT (op:Int) (l:List ah):aI op (l.map nrm)=(aI op l).map nrm:=by
 unfold aI;grind [List.flatMap_map,mX,n_]
theorem Qy (l:List ah):fP (l.map nrm)=(fP l).map nrm:=by
 unfold fP;grind [List.flatMap_map,mX,n_]
theorem Qcx (a b:ah):wu (nrm a) (nrm b)=wu a b:=by grind [NC,o4]
theorem NH:∀l s:List ah,fA (s.map nrm) (l.map nrm)=(fA s l).map nrm
 | [],s=>rfl
 | k::l,s=>by
  have h:=NH l (s++[k]);rw[ZcG] at h;rw[Zbl,fA,fA,List.any_map];have e:((λx=>wu x (nrm k))∘nrm)=λx=>wu x k:=funext λx=>Qcx x k
  grind
theorem YC (o:List ah):pe (o.map nrm)=nrm (pe o):=by
 unfold pe;rw[Za2];by_cases h:o=[]
 ·subst h;rfl
 ·have a:o.length-1<o.length:=by have:=List.length_pos_iff.mpr h;omega
  grind
def Qz (o:List ah) (k:ah):dT (o.map nrm) (nrm k)=(dT o k).map nrm:=by
 unfold dT;rw[YC,mX,mX,YB,YB,Za2];split
 ·rw[List.map_set];congr 1
 ·simp
theorem zu:∀l o:List ah,bQ (o.map nrm) (l.map nrm)=(bQ o l).map nrm
 | [],o=>rfl
 | k::l,o=>by rw[Zbl,bQ,bQ,Qz,zu l]
def YD (l:List ah):w6 (l.map nrm)=(w6 l).map nrm:=by
 unfold w6;rw[show fA [] (l.map nrm)=(fA [] l).map nrm from NH l []];exact zu _ []
theorem NI:∀(n:Nat) (l:List ah),ju n (l.map nrm)=(ju n l).map nrm
 | 0,l=>by rw[ju,ju,YD]
 | n+1,l=>by
  rw[ju,ju,YD,Za2,Za2];split
  ·exact NI n _
  ·rfl
mutual
theorem NJ:∀t:ah,rb (nrm t)=rb t
 | .mk op r mn mx lz cap nk ks=>by rw[nrm,rb,rb,Hc ks]
theorem Hc:∀l:List ah,kO (o3 l)=kO l
 | []=>by rw[o3]
 | t::l=>by rw[o3,kO,kO,NJ t,Hc l]
end
variable {l:List ah}
theorem YE (t:ah):fM (nrm t)=fM t:=by grind [fM,NJ]
theorem zv (l:List ah):(l.map nrm).getD 0 bI=nrm (l.getD 0 bI):=by
 cases l with
 | nil=>rfl
 | cons a l=>rfl
theorem Hd (t:ah):bL (nrm t)=nrm (bL t):=by grind [bL,n_,zv]
theorem jW (t:ah) (a:List ah):nrm (jt t a)=.mk t.op t.r t.mn t.mx t.lz t.cap a.length (a.map nrm):=by grind [jt,nrm,gV]
theorem NK (t:ah):nrm (byD t)=nrm (byD (nrm t)):=by
 unfold byD;rw[mX];split
 ·unfold Kv;rw[n_,Qy]
  match fP t.af with
  | []=>rfl
  | [k]=>exact(o4 k).symm
  | a::b::l=>
   show nrm (jt t (a::b::l))=nrm (jt (nrm t) ((a::b::l).map nrm))
   rw[jW,jW,tY,Za2,jV t];rfl
 ·split
  ·unfold Ky;rw[n_,KT,Za2,NI]
   match ju (aI 4 t.af).length (aI 4 t.af) with
   | []=>show nrm (jt t [])=nrm (jt (nrm t) []);rw[jW,jW,jV t];rfl
   | [k]=>exact(o4 k).symm
   | a::b::l=>
    show nrm (jt t (a::b::l))=nrm (jt (nrm t) ((a::b::l).map nrm))
    rw[jW,jW,tY,Za2,jV t];rfl
  ·split
   ·unfold dn;rw[Hd,mX,YE,Hd,mX];have c:(nrm t).mn=t.mn/\(nrm t).mx=t.mx/\(nrm t).lz=t.lz/\(nrm t).cap=t.cap:=by rw[jV];exact⟨rfl,rfl,rfl,rfl⟩
    have e2:fi (MN (wb (nrm t)))=fi (MN (wb t)):=by rw[jV];cases t;rfl
    have d:fi (MN (nrm (bL t)))=fi (MN (bL t)):=by rw[jV];rfl
    rw[c.1,c.2.1,e2,d];split
    ·grind [o4]
    ·split
     ·grind [o4]
     ·split
      ·rfl
      ·split
       ·unfold Ga;generalize bL t=k;rw[nrm,nrm,jV k];simp only[ah.op,ah.r,ah.mx,ah.mn,ah.lz,ah.cap,ah.af,gV,tY,Za2]
       ·have e:∀u,nrm (wb u)=.mk u.op u.r u.mn u.mx (u.lz&&decide (u.mn≠u.mx)) u.cap u.af.length (u.af.map nrm):=λu=>by unfold wb;rw[nrm,gV]
        grind [mX,YB,n_,tY]
   ·grind [o4]
theorem vM {op:Int} (h:∀k∈l,eI k):∀k∈aI op l,eI k:=λt ht=>by
 grind [aI,lb]
theorem KU (r:List Rg):eI (qk r):=by
 grind [qk,eI,vL]
theorem vN:∀(l o:List ah),(∀k∈o,eI k)->(∀k∈l,eI k)->∀k∈bQ o l,eI k
 | [],o,h,_=>by assumption
 | a::l,o,h,h2=>by
  rw[bQ];refine vN l _ (λk hk=>?_) λk hk=>h2 k (ZaU _ hk)
  grind [dT,KU]
def QA (h:∀k∈l,eI k):∀k∈kI l,eI k:=by
 rw[<-w_];exact vN _ _ (λk hk=>nomatch hk) λk hk=>h k ((oT l []).subset hk)
theorem zw:∀(n:Nat) (l:List ah),(∀k∈l,eI k)->∀k∈km n l,eI k
 | 0,l,h=>h
 | n+1,l,h=>by
  rw[km];split
  ·exact h
  ·exact zw n _ (QA h)
theorem vO:∀(l o:List ah),(o≠[]\/l≠[])->bQ o l≠[]
 | [],o,h=>by grind [bQ]
 | a::l,o,_=>by
  rw[bQ];refine vO l _ (.inl ?_);unfold dT;split
  ·simp_all
  ·simp
theorem QB (h:l≠[]):kI l≠[]:=by
 rw[<-w_];refine vO _ _ (.inr ?_);cases l with
 | nil=>exact absurd rfl h
 | cons a l=>rw[fA];simp
theorem zx:∀(n:Nat) (l:List ah),l≠[]->km n l≠[]
 | 0,l,h=>h
 | n+1,l,h=>by
  rw[km];split
  ·exact h
  ·exact zx n _ (QB h)
theorem He (b:∀k∈l,eI k) (h:l≠[]):aI 4 l≠[]:=by
 cases l with
 | nil=>exact absurd rfl h
 | cons a l=>
  have c:=(lb a).mp (b a Za8);unfold aI;rw[Zbt];split
  ·simp_all
  ·simp
theorem zy {op:Int} (h:∀k∈l,eI k) (c:op=3->∀k∈l,k.op≠1):eI (iJ op l):=by
 match l,h,c with
 | [],_,_=>rw[iJ,eI,vL];exact⟨λh=>absurd h (by decide),λh=>absurd h (by decide),trivial⟩
 | [k],h,_=>exact h k (by simp)
 | a::b::l,h,c=>
  grind [iJ,eI,B9]
theorem YF {t:ah} (hk:0<t.af.length) (a:t.op=5) (h:∀k∈t.af,eI k):eI (dn t):=by
 have K:eI (bL t):=by grind [bL]
 unfold dn;split
 ·exact K
 ·split
  ·exact K
  ·split
   ·grind [eI,vL]
   ·split
    ·rw[lb] at K ⊢;exact K
    ·rw[lb];exact⟨λe=>absurd (a.symm.trans e) (by decide),λe=>absurd (a.symm.trans e) (by decide),h⟩
theorem Qcy {t:ah} (hw:PH ⟨t.op,t.r,t.mn,t.mx,t.lz,t.cap,t.af.length⟩) (hk:∀k∈t.af,eI k):nrm (byD t)=nrm (yS t)/\eI (yS t):=by
 have i:t.op=3\/t.op=4->t.r=[]/\t.mn=0/\t.mx=0/\t.lz=false/\t.cap=0:=λh=>by
  obtain⟨g,p⟩:=hw;grind [bP,Pb]
 have o:∀{op:Int} {n:List ah},t.op=op->(op=3\/op=4)->nrm (jt t n)=nrm (.mk op [] 0 0 false 0 0 n):=λh j=>by
  grind [jW,nrm,gV]
 unfold byD yS;by_cases e:t.op=3
 ·rw[Zac e,Zac e];have f:∀k∈iC (aI 3 t.af),eI k:=λk c=>vM hk k (List.mem_filter.mp c).1
  constructor
  ·unfold Kv F8;rw[YA hk]
   match iC (aI 3 t.af) with
   | []=>rfl
   | [k]=>rfl
   | a::b::l=>exact o e (.inl rfl)
  ·unfold F8;refine zy f λ_ k c=>?_
   have:=(List.mem_filter.mp c).2;grind [wV]
 ·rw[Zaa e,Zaa e];by_cases d:t.op=4
  ·rw[Zac d,Zac d];have j:t.af≠[]:=by
    have:=hw.ax d;grind
   have f:=zw (aI 4 t.af).length _ (vM (op:=4) hk);have hs:=zx (aI 4 t.af).length _ (He hk j);constructor
   ·unfold Ky Di;rw[NG _ _ (Zah _)];generalize km (aI 4 t.af).length (aI 4 t.af)=L at hs
    match L,hs with
    | [k],_=>rfl
    | a::b::l,_=>exact o d (.inr rfl)
   ·exact zy f λh=>absurd h (by decide)
  ·rw[Zaa d,Zaa d];by_cases m:t.op=5
   ·rw[Zac m];have:=(hw.rep m).1;grind [YF]
   ·grind [lb]
mutual
noncomputable def fB:ah->ah
 | .mk op r mn mx lz cap nk ks=>byD (.mk op r mn mx lz cap nk (dp ks))
noncomputable def dp:List ah->List ah
 | []=>[]
 | t::l=>fB t::dp l
end
mutual
theorem B':∀t:ah,kZ t->nrm (fB t)=nrm (kJ t)/\eI (kJ t)
 | .mk op r mn mx lz cap nk ks,h=>by
  rw[kZ] at h
  obtain⟨i1,i2⟩:=sB ks h.2.2
  have hl:=rf ks
  obtain⟨b1,b2⟩:=Qcy (t:=.mk op r mn mx lz cap nk (dO ks)) (by simp only[ah.af];rw[hl];exact h.1) i2
  rw[fB,kJ]
  refine⟨?_,b2⟩
  rw[<-b1,NK,NK (.mk op r mn mx lz cap nk (dO ks))]
  have:nrm (.mk op r mn mx lz cap nk (dp ks))=nrm (.mk op r mn mx lz cap nk (dO ks)):=by
   rw[nrm,nrm,gV,gV,i1]
   have:=ZaR List.length i1
   rw[Za2,Za2] at this
   rw[this]
  rw[this]
theorem sB:∀l:List ah,nU l->(dp l).map nrm=(dO l).map nrm/\∀k∈dO l,eI k
 | [],_=>⟨by rw[dp,dO],λk hk=>by rw[dO] at hk;cases hk⟩
 | t::l,h=>by
  rw[nU] at h
  obtain⟨a1,a2⟩:=B' t h.1
  obtain⟨b1,b2⟩:=sB l h.2
  rw[dp,dO]
  refine⟨by rw[Zbl,Zbl,a1,b1],λk hk=>?_⟩
  rcases List.mem_cons.mp hk with e | e
  ·rw[e];exact a2
  ·exact b2 k e
end
def B_ {t:ah} (h:kZ t):aH (fB t)=aH (kJ t):=(zr _ _).mpr (B' t h).1
end
end sx
namespace sx
open Go Go.RowKit cls syn sl
noncomputable abbrev H0:Hp D:=λt=>cM [] t
structure Qs (F:List Nat) (M:Pm D) (w:World) (M':Pm D) (w':World):Prop where
 le:Le M M'
 gv:eP M' H0 w'
 pl:∀b,M'.pl b=M.pl b
 sb:∀b o,M'.sg b o≠none->M.sg b o≠none\/w.heap.size<=b\/b∈F
 size:w.heap.size<=w'.heap.size
 aS:∀c,c<w.heap.size->c ∉ F->w'.heap[c]?=w.heap[c]?
 os:w'.os=w.os
 tape:w'.tape=w.tape
 output:w'.output=w.output
variable {F F':List Nat} {M M' M'':Pm D} {w w' w'':World}
theorem Qs.refl (h:eP M H0 w):Qs F M w M w:=⟨mH M,h,λ_=>rfl,λ_ _ h=>.inl h,Zah _,λ_ _ _=>rfl,rfl,rfl,rfl⟩
theorem Qs.trans (h:Qs F M w M' w') (k:Qs F' M' w' M'' w'') (a:∀c∈F',c∈F\/w.heap.size<=c):Qs F M w M'' w'' where
 le:=⟨λb m e=>k.le.1 b m (h.le.1 b m e),λb o v e=>k.le.2 b o v (h.le.2 b o v e)⟩
 gv:=k.gv
 pl b:=(k.pl b).trans (h.pl b)
 sb b o e:=by
  rcases k.sb b o e with e | e | e
  ·exact h.sb b o e
  ·exact .inr (.inl (Zav h.size e))
  ·grind
 size:=Zav h.size k.size
 aS c hc hn:=(k.aS c (ZbB hc h.size) λe=>(a c e).elim hn λh=>ω).trans (h.aS c hc hn)
 os:=k.os.trans h.os
 tape:=k.tape.trans h.tape
 output:=k.output.trans h.output
theorem Qs.Il (a:dq H0 M w H0 M' w' 0 0):Qs F M w M' w' where
 le:=⟨λb m e=>(a.ext b ω).trans e,a.LM⟩
 gv:=a.gv
 pl b:=a.ext b ω
 sb b o e:=by
  rcases a.ml b o e with e | e | ⟨c,f,d,h1,_⟩
  ·grind
  ·omega
  ·cases h1
 size:=a.size
 aS c hc _:=a.aS c hc λ⟨c,f,d,h1,_⟩=>by cases h1
 os:=a.os
 tape:=a.tape
 output:=a.output
def Qs.Qop (h:eP M H0 w) (hs:w.heap.size<=w'.heap.size) (g:w'.os=w.os) (ht:w'.tape=w.tape) (hu:w'.output=w.output) (hk:∀c,c<w.heap.size->c ∉ F->w'.heap[c]?=w.heap[c]?) (f:∀c∈F,D.ng<=c/\∀o,M.sg c o=none):Qs F M w M w':=
 ⟨mH M,⟨λb o e=>(by cases e),λ_ _ _ _ _ _ e=>(by cases e),λb o v e=>let ⟨i,k,d,j⟩:=h.ia b o v e;⟨i,k,(gL (hk b (h.slt e) λa=>by rw[(f b a).2] at e;cases e)).trans d,j⟩,λ_ _ _ e=>(by cases e),λ_ _ _ _ _ e=>(by cases e),
  ⟨Zav h.mZ.1.1 hs,D.gst _ _ (λc d=>hk c (ZbB d h.mZ.1.1) λa=>by have:=(f c a).1;omega) h.mZ.1.2⟩,λ_ _ _ e=>(by cases e)⟩,λ_=>rfl,λ_ _ h=>.inl h,hs,hk,g,ht,hu⟩
theorem Qs.ia {g:Nat} {ys:List ah} (h:eP M H0 w) (j:∀o,M.sg g o=none) (m:g∈F)
  (f:∀i v,(aX (D:=D) 15 ys)[i]?=some v->∃a,w.cell? ⟨g,i,none⟩=some a/\VR M v a):Qs F M w ⟨M.pl,dC M.sg g 0 (aX 15 ys)⟩ w:=by
 have hle:Le M ⟨M.pl,dC M.sg g 0 (aX 15 ys)⟩:=⟨λ_ _ h=>h,lu λq _ _=>j q⟩;refine⟨hle,⟨λb o e=>(by cases e),λ_ _ _ _ _ _ e=>(by cases e),λb q v e=>?_,λ_ _ _ e=>(by cases e),λ_ _ _ _ _ e=>(by cases e),⟨h.mZ.1,λ_ _ _ e=>(by cases e)⟩⟩,λ_=>rfl,λb q e=>?_,Zah _,λ_ _ _=>rfl,rfl,rfl,rfl⟩
 ·replace e:dC M.sg g 0 (aX 15 ys) b q=some v:=e;unfold dC at e;split at e
  ·rename_i d
   obtain⟨rfl,h1,l⟩:=d;obtain⟨a,c,e2⟩:=f _ v e;rw[Zdp] at c;exact⟨(eA iX (ZaJ e)).2,a,c,e2.mono hle⟩
  ·obtain⟨k,a,c,e2⟩:=h.ia b q v e;exact⟨k,a,c,e2.mono hle⟩
 ·grind [nm]
theorem YG {a:Value} {l:List E8} {ys:List ah} (h:eP M H0 w) (p:rP w a l) (m:LR M (aX (D:=D) 15 ys) (flat e8 l)) (j:∀c∈iE a,∀o,M.sg c o=none) (hl:l.length=ys.length):∃f,Qs (iE a) M w f w/\VR f (.list 15 ys) a:=by
 rcases p.2 with⟨rfl,d⟩ | ⟨g,cap,bg,rfl,d,q,r,k,s,t⟩
 ·rw[hl] at d;rw[Zap d];exact⟨M,.refl h,.fw⟩
 ·have n:iE (.slice (some ⟨g,0,none⟩) l.length cap)=[g]:=rfl;rw[n] at j ⊢;refine⟨_,Qs.ia (ys:=ys) h (j g (ZaI.2 rfl)) (ZaI.2 rfl) λi v e=>?_,?_⟩
  ·obtain⟨y,u,x⟩:=m.get e;grind [World.cell?]
  ·rw[hl];exact VR.list (b:=g) (o:=0) (cN.add iX) (show ys.length<=9223372036854775807 by unfold maxLen at k;omega) (show ys.length<=cap by omega)
theorem Ca:∀l:List ah,(fP l).length<=(aC l).length
 | []=>Zaj _
 | k::l=>by
  have h:=Ca l;grind [fe,b6,fP,uM]
theorem o5:∀l:List ah,(dp l).length=l.length
 | []=>by rw[dp]
 | t::l=>by rw[dp,Zae,o5 l,Zae]
def Qoq {op:Int} {r:List Rg} {mn mx:Int} {lz:Bool} {cap:Int} {a:List ah} (hw:kZ (.mk op r mn mx lz cap (a.length:Int) a)) (ht:dX (.mk op r mn mx lz cap (a.length:Int) a)):
  (op=3->Kw.pre (.mk op r mn mx lz cap (a.length:Int) (dp a)))/\(op=4->Kz.pre (.mk op r mn mx lz cap (a.length:Int) (dp a)))/\(op=5->KC.pre (.mk op r mn mx lz cap (a.length:Int) (dp a))):=by
 have hi:=(j6 _).mp (Gm _ hw);have hk:=ht.af;obtain⟨o,b⟩:=oP a hi.2 ⟨Zah _,hk.2⟩;rw[kZ] at hw;obtain⟨j,v⟩:=sB a hw.2.2;have e:aC (dp a)=aC (dO a):=by rw[<-rz,gV,j,<-gV,rz]
 rw[<-e] at b;have hl:=o5 a;have i:ed (dp a):=⟨Zav b.1 hk.1,b.2⟩;have m:a.length<=1000000:=hk.len;refine⟨λ_=>⟨by show(dp a).length<=_;omega,Zav (Ca _) i.1⟩,λ_=>⟨by show(dp a).length<=_;omega,?_⟩,λh=>⟨?_,h⟩⟩
 ·have:=nT 4 _ _ b;exact⟨Zav this.1 hk.1,this.2⟩
 ·obtain⟨b1,k⟩:=hi.1 h;have b1:1<=a.length:=b1;have c:0<(dp a).length:=ω;refine⟨by show 1<=(dp a).length;omega,i.get c,k,λl=>?_⟩;have d:0<(dO a).length:=by rw[rf];omega
  have f:nrm ((dp a).getD 0 bI)=nrm ((dO a).getD 0 bI):=by rw[<-zv,j,zv]
  have g:tH ((dO a).getD 0 bI):=by rw[fh d];exact(kP _).mp o _ (Zas _)
  have n:((dO a).getD 0 bI).op=5:=by rw[<-mX,<-f,mX];exact l
  obtain⟨c1,c2⟩:=((j6 _).mp g).1 n;rw[jV,jV] at f;injection f with p q s t u n6 n7 n8
  refine⟨?_,?_⟩
  ·show 0<=((dp a).getD 0 bI).mn
   omega
  ·show 1<=((dp a).getD 0 bI).af.length
   omega
end sx
namespace sx
open Go Go.RowKit cls syn sl
set_option maxRecDepth 100000
theorem YH {w:World} {g n c k:Nat} {ld lr:List E8} {x:E8} (h:rP w (.slice (some ⟨g,0,none⟩) n c) (ld++x::lr)) (b:(ld++x::lr).length=n) (hk:ld.length=k):
  (∀j u,j<8->x.1[j]?=some u->w.cell? ⟨g,k*8+j,none⟩=some u)/\(∀o,w.frozen? ⟨g,o,none⟩=false)/\g<w.heap.size:=by
 subst b;subst hk;refine⟨λj u a e=>(h.cellAt rfl KR (i:=ld.length) (x:=x) (by simp) a e).1,λo=>World.ownsRow.frozenAt h o,?_⟩;obtain⟨f,d,e,_,l,_⟩:=h.form (by simp);grind
noncomputable def Hf (l:List ah):List (AV D.E):=l.flatMap λt:ah=>D.bm 15 t
structure SL (M:Pm D) (w:World) (ks:List ah) (G:List Nat) (kv:Value) (k:Nat) (wr:World) (Mk:Pm D) (ld lr:List E8) (Gr:List Nat):Prop where
 own:rP wr kv (ld++lr)
 len:ld.length=k
 rows:LR Mk (Hf ((dp ks).take k)) (flat e8 ld)
 af:KA Mk wr (ks.drop k) lr Gr
 sub:∃Gd,G=Gd++Gr
 un:∀c∈iE kv++Gr,∀o,Mk.sg c o=none
 un2:∀o,Mk.sg (w.heap.size+1) o=none
 qs:Qs (iE kv++G) M w Mk wr
abbrev Cb (w:World) (b o:Nat) (a c d v3 e v5 f g:Value):World:=(((((((w.setCell ⟨b,o,none⟩ a).setCell ⟨b,o+1,none⟩ c).setCell ⟨b,o+2,none⟩ d).setCell ⟨b,o+3,none⟩ v3).setCell ⟨b,o+4,none⟩ e).setCell ⟨b,o+5,none⟩ v5).setCell ⟨b,o+6,none⟩ f).setCell ⟨b,o+7,none⟩ g
variable {a c d Z e Y i g:Value} {w:World} {b o k:Nat} {M:Pm D} {X W:List E8}
def mI (h:k≠b):(Cb w b o a c d Z e Y i g).heap[k]?=w.heap[k]?:=by
 unfold Cb;rw[kL h,kL h,kL h,kL h,kL h,kL h,kL h,kL h]
theorem Qcz {j:Nat} {x y:E8} (h:rP w (.slice (some ⟨b,0,none⟩) o k) (X++x::W)) (p:(X++x::W).length=o) (hk:X.length=j) (q:y.1=[a,c,d,Z,e,Y,i,g]):
  rP (Cb w b (j*8) a c d Z e Y i g) (.slice (some ⟨b,0,none⟩) o k) (X++y::W):=by
 subst p;have s:=(World.ownsRow.stored (World.ownsRow.stored (World.ownsRow.stored (World.ownsRow.stored (World.ownsRow.stored (World.ownsRow.stored (World.ownsRow.stored (World.ownsRow.stored h (j*8) a).1 (j*8+1) c).1 (j*8+2) d).1 (j*8+3) Z).1 (j*8+4) e).1 (j*8+5) Y).1 (j*8+6) i).1 (j*8+7) g).1;have f:((((((((flat e8 (X++x::W)).set (j*8) a).set (j*8+1) c).set (j*8+2) d).set (j*8+3) Z).set (j*8+4) e).set (j*8+5) Y).set (j*8+6) i).set (j*8+7) g=flat e8 (X++y::W):=by
  obtain⟨l,hl,_⟩:=x;obtain⟨a0,l,rfl⟩:=ZaB (show l.length=7+1 from hl);obtain⟨r,l,rfl⟩:=ZaB (show l.length=6+1 by simpa using hl);obtain⟨a2,l,rfl⟩:=ZaB (show l.length=5+1 by simpa using hl);obtain⟨a3,l,rfl⟩:=ZaB (show l.length=4+1 by simpa using hl);obtain⟨a4,l,rfl⟩:=ZaB (show l.length=3+1 by simpa using hl);obtain⟨a5,l,rfl⟩:=ZaB (show l.length=2+1 by simpa using hl);obtain⟨t,l,rfl⟩:=ZaB (show l.length=1+1 by simpa using hl);obtain⟨u,l,rfl⟩:=ZaB (show l.length=0+1 by simpa using hl);obtain rfl:l=[]:=by simpa using hl
  have n:(flat e8 X).length=j*8:=by rw[n9 KR,hk]
  have m:∀(z:E8),flat e8 (z::W)=z.1++flat e8 W:=λz=>rfl
  rw[kr,kr,m,m,q,<-n];simp_all
 grind [kK]
theorem kt:Below b w (Cb w b o a c d Z e Y i g):=by
 unfold Cb;have k:∀(W:World) (f:Nat) (v:Value),Below b w W->Below b w (W.setCell ⟨b,f,none⟩ v):=λW f v h=>h.setCell (Zah _) v
 grind [Below.refl]
def Ek {l:List (AV D.E)} {A:Array Value} (h:VR M (.agg l) (.agg A)):LR M l A.toList:=by
 cases h with | agg h1 a=>exact⟨h1,a⟩
theorem KV (l:List ah):dp l=l.map fB:=by
 induction l with
 | nil=>rw[dp];rfl
 | cons t l a=>rw[dp,a];rfl
theorem SL.round {v:List ah} {G:List Nat} {I:Nat} {wr:World} {C s:Pm D} {j m:List Nat} {x1:E8} {O:World} {T:ah}
  (h:SL M w v G (.slice (some ⟨b,0,none⟩) o k) I wr C X (x1::W) (j++m)) (S:KA C wr (v.drop (I+1)) W m) (hk:v[I]?=some T) (v3:(X++x1::W).length=o)
  (z:(iE (.slice (some ⟨b,0,none⟩) o k)++G).Nodup) (V:∀N∈iE (.slice (some ⟨b,0,none⟩) o k)++G,D.ng<=N/\N<w.heap.size) (hs:w.heap.size+2<=wr.heap.size)
  (t:Qs j C wr s O) (hv:VR s (.agg (D.bm 15 (fB T))) (.agg #[a,c,d,Z,e,Y,i,g])) (h1:∀u∈[a,c,d,Z,e,Y,i,g],u.oneCell'):
  SL M w v G (.slice (some ⟨b,0,none⟩) o k) (I+1) (Cb O b (I*8) a c d Z e Y i g) s (X++[⟨[a,c,d,Z,e,Y,i,g],rfl,h1⟩]) W m:=by
 have H:iE (.slice (some ⟨b,0,none⟩) o k)=[b]:=rfl;obtain⟨lr,Q⟩:=h.sub;rw[H] at z V;have r:=h.un;rw[H] at r;have J:=List.nodup_cons.1 (show(b::G).Nodup from z);have l:∀N∈j++m,N∈G:=λN H=>by rw[Q];exact ZaC _ H
 have y:b ∉ j:=λK=>J.1 (l b (Zay _ K))
 have P:(j++m).Nodup:=by rw[Q] at J;exact(ZbR.1 J.2).2.1
 have p:∀N∈m,N ∉ j/\N≠b:=λN H=>⟨λK=>(ZbR.1 P).2.2 N K N H rfl,λK=>J.1 (by rw[<-K];exact l N (ZaC _ H))⟩
 have q:∀N∈[b]++(j++m),D.ng<=N/\N<w.heap.size:=λN H=>V N ((Zax.1 H).elim (λh=>Zay _ h) λh=>ZaC _ (l N h))
 have R:=q b (by simp);have L:∀N,N<wr.heap.size->N ∉ j->(∀n,C.sg N n=none)->∀n,s.sg N n=none:=λN h1 v5 E n=>by
  cases K:s.sg N n with
  | none=>rfl
  | some u=>
   rcases t.sb N n (by rw[K];simp) with U | U | U
   ·grind
   ·omega
   ·grind
 have B:rP O (.slice (some ⟨b,0,none⟩) o k) (X++x1::W):=n' h.own λN f hl=>t.aS N hl (by rw[H,ZaI] at f;rw[f];exact y)
 have x:=L b ω y λn=>r b (by simp) n
 have A:Qs ([b]++G) M w s O:=(h.qs).trans t λN H=>.inl (ZaC _ (l N (Zay _ H)))
 refine⟨?_,by simp[h.len],?_,rr t.le _ _ _ S λN H hl=>(mI (p N H).2).trans (t.aS N hl (p N H).1),⟨lr++j,by rw[Q,ZaD]⟩,λN f=>?_,L _ ω (λK=>by have:=(q _ (ZaC _ (Zay _ K))).2;omega) h.un2,?_⟩
 ·rw[ZaD];exact Qcz B v3 h.len rfl
 ·have ld:Hf ((dp v).take (I+1))=Hf ((dp v).take I)++D.bm 15 (fB T):=by
   rw[Zcr,KV,Zbk,hk];simp[Hf]
  rw[ld,kr];refine(h.rows.mono t.le).app ?_;obtain⟨j1,j2⟩:=Ek hv;exact⟨j1,j2⟩
 ·rw[H] at f;have v5:=q N ((Zax.1 f).elim (λh=>Zay _ h) λh=>ZaC _ (ZaC _ h));rcases Zax.1 f with E | E
  ·grind
  ·exact L N ω (p N E).1 λn=>r N (by simp[E]) n
 ·refine A.trans (Qs.Qop (F:=[b]) A.gv kt.size kt.os kt.tape kt.output (λN _ H=>mI (by simpa using H)) λN H=>by rw[ZaI.1 H];exact⟨R.1,x⟩) λN H=>.inl (Zay _ H)
theorem Hg {T:ah} (h:VR M (.agg (D.bm 15 T)) a):∃(e:Option Addr) (g f:Nat) (i:Option Addr) (un j:Nat),a=.agg #[.int .i64 T.op,.slice e g f,.int .i64 T.mn,.int .i64 T.mx,.bool T.lz,.int .i64 T.cap,.int .i64 T.nk,.slice i un j]:=by
 cases h with | @agg _ A h1 d=>?_
 obtain⟨l⟩:=A;have h:LR M (D.bm 15 T) l:=⟨h1,d⟩;cases T;obtain⟨k,l,rfl,a0,h⟩:=h.bJ;obtain⟨m,l,rfl,v,h⟩:=h.bJ;obtain⟨n,l,rfl,a2,h⟩:=h.bJ;obtain⟨v3,l,rfl,a3,h⟩:=h.bJ;obtain⟨o,l,rfl,a4,h⟩:=h.bJ;obtain⟨v5,l,rfl,a5,h⟩:=h.bJ;obtain⟨p,l,rfl,b,h⟩:=h.bJ;obtain⟨q,l,rfl,c,h⟩:=h.bJ;obtain rfl:=h.mj;obtain rfl:=gb a0;obtain⟨_,_,_,rfl⟩:=B6 v;obtain rfl:=gb a2;obtain rfl:=gb a3;obtain rfl:=oZ a4;obtain rfl:=gb a5;obtain rfl:=gb b;obtain⟨_,_,_,rfl⟩:=B6 c;grind
abbrev z8:Array Value:=#[.int .i64 0,.slice none 0 0,.int .i64 0,.int .i64 0,.bool false,.int .i64 0,.int .i64 0,.slice none 0 0]
theorem xa {F:List Nat} {M a:Pm D} {w j:World} {T:ah} {d e f v3 g v5 h i:Value} (k:Qs F M w a j) (hz:j.heap[w.heap.size+1]?=some (.cells z8 164 (0,0))) (n:∀o,a.sg (w.heap.size+1) o=none) (m:D.ng<=w.heap.size)
  (l:VR a (.agg (D.bm 15 T)) (.agg #[d,e,f,v3,g,v5,h,i])):
  ∃W,W=(((((((j.setCell ⟨w.heap.size+1,0,none⟩ d).setCell ⟨w.heap.size+1,1,none⟩ e).setCell ⟨w.heap.size+1,2,none⟩ f).setCell ⟨w.heap.size+1,3,none⟩ v3).setCell ⟨w.heap.size+1,4,none⟩ g).setCell ⟨w.heap.size+1,5,none⟩ v5).setCell ⟨w.heap.size+1,6,none⟩ h).setCell ⟨w.heap.size+1,7,none⟩ i/\Qs F M w a W/\
   (loadVar 164 ⟨w.heap.size+1,0,none⟩).run prog W=.ok (.agg #[d,e,f,v3,g,v5,h,i]) W:=by
 refine⟨_,rfl,k.trans (Qs.Qop (F:=[w.heap.size+1]) k.gv l5.size l5.os l5.tape l5.output (λb _ c=>zn (by simpa using c)) λb c=>?_) λb c=>.inr (by rw[ZaI.1 c];omega),?_⟩
 ·grind
 ·exact run_loadVar_row (P:=prog) _ (w.heap.size+1) _ 164 _ _ _ (B7 hz rfl) Tryz.underlying164 rfl (by kernel_rfl)
theorem zC {f:FuncId} {zL:List (AV D.E)->St D.E->C ah} {pre:ah->Prop} {res:ah->ah} (h:Ok (cq f ah zL pre (λy=>[.agg (D.bm 15 y)]) λy=>.agg (D.bm 15 (res y)))) {y:ah} (q:pre y) {M:Pm D} {w:World} {A:Array Value} {a:Nat} (o:eP M H0 w) (p:TF M 0)
  (n:VR M (.agg (D.bm 15 y)) (.agg A)) (hz:w.heap[a]?=some (.cells z8 164 (0,0))):
  Calls prog f #[.agg A] w λe b=>∃(l:Pm D) (c:Option Addr) (g d:Nat) (i:Option Addr) (un k:Nat),
   e=.returned (.agg #[.int .i64 (res y).op,.slice c g d,.int .i64 (res y).mn,.int .i64 (res y).mx,.bool (res y).lz,.int .i64 (res y).cap,.int .i64 (res y).nk,.slice i un k])/\
   VR l (.agg (D.bm 15 (res y))) (.agg #[.int .i64 (res y).op,.slice c g d,.int .i64 (res y).mn,.int .i64 (res y).mx,.bool (res y).lz,.int .i64 (res y).cap,.int .i64 (res y).nk,.slice i un k])/\
   Qs [] M w l b/\b.heap[a]?=some (.cells z8 164 (0,0))/\(∀j,b.cell? ⟨a,j,none⟩=z8[j]?)/\∀j,b.frozen? ⟨a,j,none⟩=false:=by
 refine h.2 y q M #[.agg A] w (.cons n .nil) o p _ λm v u s hs=>?_
 obtain⟨c,g,d,i,un,k,rfl⟩:=Hg s;have r:Qs [] M w m u:=Qs.Il hs;have t:=(r.aS a (DW hz) (by simp)).trans hz;grind [jv,NB]
set_option maxHeartbeats 4000000 in
theorem Qia (g1:Ok Kw) (g2:Ok Kz) (g3:Ok KC):∀(n:Nat) (t:ah) (x:E8) (F:List Nat) (M:Pm D) (w:World),(aH t).length<=n->kZ t->dX t->TA M w t x F->F.Nodup->(∀c∈F,D.ng<=c/\∀o,M.sg c o=none)->eP M H0 w->TF M 0->
  Calls prog 68 #[.agg x.1.toArray] w λe w'=>∃M' v',e=.returned v'/\VR M' (.agg (D.bm 15 (fB t))) v'/\Qs F M w M' w':=by
 intro n
 induction n with
 | zero=>
  intro t x F M w h
  cases t
  grind [aH]
 | succ n ih=>
  intro t x F M w hn hw ht E C hF hS hT
  obtain⟨op,r,mn,mx,lz,cap,nk,a⟩:=t
  have H:=hw
  rw[kZ] at hw
  obtain⟨_,rfl,hks⟩:=hw
  replace H:=Qoq H ht
  rw[aH] at hn
  rw[TA] at E
  obtain⟨vr,kv,l,G,hx,hvr,Y,ho,rfl,q⟩:=E
  obtain⟨ra,rn,rc,rfl⟩:=B6 hvr
  have hll:=KS q
  obtain⟨S,L,rfl,hrd,_⟩:=ho.rd
  rw[hll] at ho hF C hx ⊢
  rw[hx]
  have hL:a.length<=1000000:=ht.af.len
  have T:Hid (∀b∈iE (.slice S a.length L)++G,D.ng<=b/\b<w.heap.size):=Lib.hid λb hb=>⟨(hF b hb).1,(Zax.1 hb).elim (w9 ho b) (Yy _ _ _ q b)⟩
  have H1:=Lib.hid hx
  have H2:=Lib.hid ho
  have H3:=Lib.hid q
  have H4:=Lib.hid C
  have H5:=Lib.hid hF
  have H6:=Lib.hid H
  have H7:=Lib.hid ht
  have H8:=Lib.hid hll
  clear hx ho q C hF H ht hll hrd
  go_enter Tryz.func68,Tryz.ntmps68
  go_wp2_with fail
  have hzs:w.heap.size<w.heap.size+2:=ω
  go_loopg [3] a.length (λg i wr=>∃(k:Nat) (ld lr:List E8) (Gr:List Nat) (Mk:Pm D),k<=a.length/\g=a.length-k/\i=.int .i64 k/\
   wr.heap[w.heap.size]?=some (.cells #[.int .i64 op,.slice ra rn rc,.int .i64 mn,.int .i64 mx,.bool lz,.int .i64 cap,.int .i64 a.length,.slice S a.length L] 164 (0,0))/\
   wr.heap[w.heap.size+1]?=some (.cells #[.int .i64 0,.slice none 0 0,.int .i64 0,.int .i64 0,.bool false,.int .i64 0,.int .i64 0,.slice none 0 0] 164 (0,0))/\
   w.heap.size+2<=wr.heap.size/\SL M w a G (.slice S a.length L) k wr Mk ld lr Gr)
  case atStart=>
   refine⟨0,[],l,G,M,ω,rfl,rfl,?_,?_,by simp,?_⟩
   ·grind [Below.heap_alloc,heap_alloc_new]
   ·exact tT (by simp) _
   ·have hB:=((Below.refl w.heap.size w).alloc (Zah _) (.cells #[.int .i64 op,.slice ra rn rc,.int .i64 mn,.int .i64 mx,.bool lz,.int .i64 cap,.int .i64 a.length,.slice S a.length L] 164)).alloc (by simp) (.cells #[.int .i64 0,.slice none 0 0,.int .i64 0,.int .i64 0,.bool false,.int .i64 0,.int .i64 0,.slice none 0 0] 164)
    refine⟨n' H2.out λb _ hl=>hB.block b hl,rfl,⟨rfl,λi v v' e=>(by simp[Hf] at e)⟩,rr (mH M) _ _ _ H3.out λb _ hl=>hB.block b hl,⟨[],rfl⟩,λc p=>(H5.out c p).2,λo=>?_,Qs.Il (jS hS hB 0)⟩
    cases e:M.sg (w.heap.size+1) o with
    | none=>rfl
    | some u=>have:=hS.slt e;omega
  case round=>
   obtain⟨k,ld,lr,Gr,Mk,hk,rfl,rfl,X,hz,dF,sH⟩:=hrel
   have d7:wr.cell? ⟨w.heap.size,7,none⟩=some (.slice S a.length L):=jv X 7
   have d0:wr.cell? ⟨w.heap.size,0,none⟩=some (.int .i64 op):=jv X 0
   have H9:=Lib.hid X
   have B:=Lib.hid hz
   have d:=Lib.hid sH
   have H12:=Lib.hid hks
   clear X hz sH hks
   by_cases Z:k<a.length
   ·obtain⟨f,P⟩:∃f,a[k]?=some f:=⟨_,Zaf Z⟩
    have hdk:a.drop k=f::a.drop (k+1):=by rw[Zaq Z,(Zam.1 P).2]
    have q:=d.out.af
    rw[hdk,KA] at q
    obtain⟨x1,lr',F1,F2,rfl,rfl,E,q⟩:=q
    obtain⟨g,kc',ek,_,hgl,_⟩:=d.out.own.form (by simp)
    have s:(ld++x1::lr').length=a.length:=by
     grind
    rw[s] at ek
    cases ek
    obtain⟨qa,qn,qc,pa,pn,pc,ex⟩:=zm E
    have hgw:g<w.heap.size:=w9 H2.out g (ZaI.2 rfl)
    have hgn:g≠w.heap.size:=ω
    have hgm:w.heap.size≠g:=ω
    obtain⟨m,hfz,_⟩:=YH d.out.own s d.out.len
    have hcall:Calls prog 68 #[.agg #[.int .i64 f.op,.slice qa qn qc,.int .i64 f.mn,.int .i64 f.mx,.bool f.lz,.int .i64 f.cap,.int .i64 f.nk,.slice pa pn pc]] wr.drew λe A=>∃(M1:Pm D) (sa:Option Addr) (sn sc:Nat) (ua:Option Addr) (un uc:Nat),
      e=.returned (.agg #[.int .i64 (fB f).op,.slice sa sn sc,.int .i64 (fB f).mn,.int .i64 (fB f).mx,.bool (fB f).lz,.int .i64 (fB f).cap,.int .i64 (fB f).nk,.slice ua un uc])/\
      VR M1 (.agg (D.bm 15 (fB f))) (.agg #[.int .i64 (fB f).op,.slice sa sn sc,.int .i64 (fB f).mn,.int .i64 (fB f).mx,.bool (fB f).lz,.int .i64 (fB f).cap,.int .i64 (fB f).nk,.slice ua un uc])/\
      Qs F1 Mk wr M1 A/\A.cell? ⟨w.heap.size,7,none⟩=some (.slice (some ⟨g,0,none⟩) a.length L)/\(A.cell? ⟨g,k*8,none⟩=some (.int .i64 f.op)/\A.cell? ⟨g,k*8+1,none⟩=some (.slice qa qn qc)/\A.cell? ⟨g,k*8+2,none⟩=some (.int .i64 f.mn)/\A.cell? ⟨g,k*8+3,none⟩=some (.int .i64 f.mx)/\A.cell? ⟨g,k*8+4,none⟩=some (.bool f.lz)/\A.cell? ⟨g,k*8+5,none⟩=some (.int .i64 f.cap)/\A.cell? ⟨g,k*8+6,none⟩=some (.int .i64 f.nk)/\A.cell? ⟨g,k*8+7,none⟩=some (.slice pa pn pc))/\(∀o,A.frozen? ⟨g,o,none⟩=false)/\g<A.heap.size:=by
     have e1:(#[.int .i64 f.op,.slice qa qn qc,.int .i64 f.mn,.int .i64 f.mx,.bool f.lz,.int .i64 f.cap,.int .i64 f.nk,.slice pa pn pc]:Array Value)=x1.1.toArray:=by rw[ex]
     have hfl:aC a=aC (a.take k)++(aH f++aC (a.drop (k+1))):=by rw[<-fe,<-hdk,<-cU,ZaO]
     have htr:dX f:=by
      have:=H7.out.af.get Z
      rwa [show((ah.mk op r mn mx lz cap (a.length:Int) a).af.getD k bI)=f by show a.getD k bI=f;rw[fh Z];exact(Zam.1 P).2] at this
     obtain⟨Gd,U⟩:=d.out.sub
     have C:=H4.out
     rw[U] at C
     have hnF:=(ZbR.1 (ZbR.1 (ZbR.1 C).2.1).2.1).1
     have hgF:g ∉ F1:=λe=>(ZbR.1 C).2.2 g (ZaI.2 rfl) g (ZaC _ (Zay _ e)) rfl
     have hin1:∀c∈F1,D.ng<=c/\c<w.heap.size:=λc p=>T.out c (ZaC _ (by rw[U];exact ZaC _ (Zay _ p)))
     rw[e1]
     refine(ih f x1 F1 Mk wr.drew (by rw[Zae,hfl,Zab,Zab] at hn;omega) ((rj a).1 H12.out f (ZaJ P)) htr (w8 (mH Mk) _ _ _ E λ_ _ _=>rfl) hnF (λc p=>⟨(hin1 c p).1,d.out.un c (ZaC _ (Zay _ p))⟩) (dq.wF d.out.qs.gv 0).gv λb hb=>(d.out.qs.pl b).trans (hT b hb)).mono ?_
     rintro e A ⟨M1,v',rfl,hv,O⟩
     have hq':Qs F1 Mk wr M1 A:=⟨O.le,O.gv,O.pl,O.sb,O.size,O.aS,O.os,O.tape,O.output⟩
     obtain⟨sa,sn,sc,ua,un,uc,rfl⟩:=Hg hv
     have hown:rP A (.slice (some ⟨g,0,none⟩) a.length L) (ld++x1::lr'):=n' d.out.own λb hb' hl=>hq'.aS b hl (by rw[ZaI.1 hb'];exact hgF)
     obtain⟨r1,r2,r3⟩:=YH hown s d.out.len
     refine⟨M1,sa,sn,sc,ua,un,uc,rfl,hv,hq',?_,⟨r1 0 _ ω (by rw[ex];rfl),r1 1 _ ω (by rw[ex];rfl),r1 2 _ ω (by rw[ex];rfl),r1 3 _ ω (by rw[ex];rfl),r1 4 _ ω (by rw[ex];rfl),r1 5 _ ω (by rw[ex];rfl),r1 6 _ ω (by rw[ex];rfl),r1 7 _ ω (by rw[ex];rfl)⟩,r2,r3⟩
     rw[jv ((hq'.aS w.heap.size ω λe=>by have:=(hin1 _ e).2;omega).trans H9.out)]
     rfl
    have c0:=m 0 _ ω (by rw[ex];rfl)
    have c1:=m 1 _ ω (by rw[ex];rfl)
    have c2:=m 2 _ ω (by rw[ex];rfl)
    have c3:=m 3 _ ω (by rw[ex];rfl)
    have c4:=m 4 _ ω (by rw[ex];rfl)
    have c5:=m 5 _ ω (by rw[ex];rfl)
    have c6:=m 6 _ ω (by rw[ex];rfl)
    have c7:=m 7 _ ω (by rw[ex];rfl)
    have b0:(0:Int)<=(k:Int):=ω
    have b1:(k:Int)<(a.length:Int):=ω
    have H13:=Lib.hid q
    have H14:=Lib.hid E
    have H15:=Lib.hid P
    have H16:=Lib.hid ex
    have H17:=Lib.hid s
    clear q E P m hdk s
    simp only[Zbn] at c0
    go_wp2_with fail
    go_region_with
     (first | (go_at_call 68;refine hcall.mono ?_;rintro e A ⟨M1,sa,sn,sc,ua,un,uc,rfl,hv1,hq1,m0,⟨e0,e1,e2,e3,e4,e5,e6,e7⟩,m2,m3⟩))
    all_goals
     go_wp2_with fail
     go_roundg (a.length-(k+1))
     case measure=>omega
     case rel=>
      have hF1:∀c,w.heap.size<=c->c ∉ F1:=λc p e=>by
       obtain⟨Gd,U⟩:=d.out.sub
       have:=(T.out c (ZaC _ (by rw[U];exact ZaC _ (Zay _ e)))).2
       omega
      refine⟨k+1,_,lr',F2,M1,ω,rfl,by go_num,?_,?_,?_,SL.round d.out H13.out H15.out H17.out H4.out T.out dF hq1 hv1 (by simp[Value.oneCell'])⟩
      ·exact(mI hgm).trans ((hq1.aS _ ω (hF1 _ ω)).trans H9.out)
      ·exact(mI ω).trans ((hq1.aS _ ω (hF1 _ ω)).trans B.out)
      ·exact Zav dF (Zav hq1.size kt.size)
   ·obtain rfl:k=a.length:=ω
    obtain⟨R,V,Qor⟩:∃R,Qs (iE (.slice S a.length L)) Mk wr R wr/\VR R (.list 15 (dp a)) (.slice S a.length L):=by
     have hk0:=d.out.af
     rw[ZbH,KA] at hk0
     obtain⟨rfl,rfl⟩:=hk0
     have ho:=d.out.own
     have hr:=d.out.rows
     rw[Zaw] at ho
     rw[ZaA (by rw[o5];exact Zah _)] at hr
     exact YG d.out.qs.gv ho hr (λc p=>d.out.un c (Zay _ p)) (by rw[d.out.len,o5])
    have hq2:Qs (iE (.slice S a.length L)++G) M w R wr:=d.out.qs.trans V λc p=>.inl (Zay _ p)
    have hu2:∀o,R.sg (w.heap.size+1) o=none:=λo=>by
     cases e:R.sg (w.heap.size+1) o with
     | none=>rfl
     | some u=>
      rcases V.sb _ o (by rw[e];simp) with K | K | K
      ·exact absurd (d.out.un2 o) K
      ·omega
      ·have:=(T.out _ (Zay _ K)).2;omega
    have hu3:∀(I:Pm D) (w3:World),Qs [] R wr I w3->∀o,I.sg (w.heap.size+1) o=none:=λI w3 O o=>by
     cases e:I.sg (w.heap.size+1) o with
     | none=>rfl
     | some u=>
      rcases O.sb _ o (by rw[e];simp) with K | K | K
      ·exact absurd (hu2 o) K
      ·omega
      ·cases K
    have hT2:TF R 0:=λb hb=>(hq2.pl b).trans (hT b hb)
    have hA:VR R (.agg (D.bm 15 (.mk op r mn mx lz cap (a.length:Int) (dp a)))) (.agg #[.int .i64 op,.slice ra rn rc,.int .i64 mn,.int .i64 mx,.bool lz,.int .i64 cap,.int .i64 a.length,.slice S a.length L]):=by
     simp only[ZaW] at Y
     obtain⟨⟨⟨⟨i0,i2⟩,i3⟩,i5⟩,i6⟩:=Y
     exact VR.Ek (.cons (.int i0) (.cons (hvr.mono hq2.le) (.cons (.int i2) (.cons (.int i3) (.cons (.bool lz) (.cons (.int i5) (.cons (.int i6) (.cons Qor .nil))))))))
    have QW:=hS.mZ.1.1
    have hcb:∀j,wr.cell? ⟨w.heap.size,j,none⟩=(#[.int .i64 op,.slice ra rn rc,.int .i64 mn,.int .i64 mx,.bool lz,.int .i64 cap,.int .i64 a.length,.slice S a.length L]:Array Value)[j]?:=λj=>jv H9.out j
    have hcz:∀j,wr.cell? ⟨w.heap.size+1,j,none⟩=z8[j]?:=λj=>jv B.out j
    have hfz:∀j,wr.frozen? ⟨w.heap.size+1,j,none⟩=false:=NB B.out
    have I1:=Lib.hid V
    have I2:=Lib.hid hq2
    have I3:=Lib.hid hu2
    have I4:=Lib.hid hu3
    have I5:=Lib.hid hA
    have I6:=Lib.hid Y
    have I7:=Lib.hid hT2
    clear V hq2 hu2 hu3 hA Y Qor hT2 hvr d0 d7
    have hD:fB (.mk op r mn mx lz cap (a.length:Int) a)=byD (.mk op r mn mx lz cap (a.length:Int) (dp a)):=by rw[fB]
    have I8:=Lib.hid hD
    clear hD
    by_cases h3:op=3
    ·subst h3
     have p:=zC g1 (H6.out.1 rfl) I2.out.gv I7.out I5.out B.out
     have N:=I8.out.trans ((Zac rfl).trans (az (Kv _)).symm)
     have J:=Lib.hid N
     clear N
     go_wp2_with (go_at_call 103;go_must (refine p.mono ?_;rintro e w3 ⟨I,sa,sn,sc,ua,un,uc,rfl,z,y,Q,Qos,Qot⟩))
     obtain⟨W,hW,hQ,hl⟩:=xa (I2.out.trans y (λc p=>nomatch p)) Q (I4.out I w3 y) QW z
     rw[<-hW]
     refine bodyPost_ret (rv rfl _ rfl hl) rfl ⟨I,_,rfl,?_,hQ⟩
     rw[J.out]
     exact z
    ·by_cases K:op=4
     ·subst K
      have p:=zC g2 (H6.out.2.1 rfl) I2.out.gv I7.out I5.out B.out
      have N:=I8.out.trans ((Zaa h3).trans ((Zac rfl).trans (az (Ky _)).symm))
      have J:=Lib.hid N
      clear N
      go_wp2_with (go_at_call 104;go_must (refine p.mono ?_;rintro e w3 ⟨I,sa,sn,sc,ua,un,uc,rfl,z,y,Q,Qos,Qot⟩))
      obtain⟨W,hW,hQ,hl⟩:=xa (I2.out.trans y (λc p=>nomatch p)) Q (I4.out I w3 y) QW z
      rw[<-hW]
      refine bodyPost_ret (rv rfl _ rfl hl) rfl ⟨I,_,rfl,?_,hQ⟩
      rw[J.out]
      exact z
     ·by_cases h5:op=5
      ·subst h5
       have p:=zC g3 (H6.out.2.2 rfl) I2.out.gv I7.out I5.out B.out
       have N:=I8.out.trans (((Zaa h3).trans (Zaa K)).trans ((Zac rfl).trans (az (dn _)).symm))
       have J:=Lib.hid N
       clear N
       go_wp2_with (go_at_call 105;go_must (refine p.mono ?_;rintro e w3 ⟨I,sa,sn,sc,ua,un,uc,rfl,z,y,Q,Qos,Qot⟩))
       obtain⟨W,hW,hQ,hl⟩:=xa (I2.out.trans y (λc p=>nomatch p)) Q (I4.out I w3 y) QW z
       rw[<-hW]
       refine bodyPost_ret (rv rfl _ rfl hl) rfl ⟨I,_,rfl,?_,hQ⟩
       rw[J.out]
       exact z
      ·have N:=I8.out.trans (((Zaa h3).trans (Zaa K)).trans (Zaa h5))
       have J:=Lib.hid N
       clear N
       go_wp2_with fail
       obtain⟨W,hW,hQ,hl⟩:=xa I2.out B.out I3.out QW I5.out
       rw[<-hW]
       refine bodyPost_ret (rv rfl _ rfl hl) rfl ⟨R,_,rfl,?_,hQ⟩
       rw[J.out]
       exact I5.out
end sx
namespace sx
open Go Go.RowKit cls syn sl
variable {M:Pm D} {w:World} {y:List Nd}
def Qs.Qfi {a:Pm D} {d:World} (h:Qs [] M w a d):dq H0 M w H0 a d 0 0:=
 ⟨h.gv,λb _=>h.pl b,h.le.2,λb o e=>(h.sb b o e).imp_right (λk=>k.elim .inl λk=>(nomatch k)),h.size,λc f _=>h.aS c f (by simp),λ_ _ _ e=>(by cases e),λ_ e=>absurd rfl e,h.os,h.tape,h.output,Zah _⟩
def NM {f:FuncId} {Y:Type} {zL:List (AV D.E)->St D.E->C Y} {pre:Y->Prop} {a r:Y->AV D.E} (h:Ok (cq f Y zL pre (λy=>[a y]) r)) {y:Y} (j:pre y) {v:Value} (g:eP M H0 w) (i:TF M 0) (d:VR M (a y) v):
  Calls prog f #[v] w λe m=>∃(b:Pm D) (u:Value),e=.returned u/\VR b (r y) u/\Qs [] M w b m:=
 h.2 y j M #[v] w (.cons d .nil) g i _ λc l _ k hs=>⟨c,l,rfl,k,Qs.Il hs⟩
def QcA {t:ah} (h1:kZ t) (q:y=aH t) (v:y.length<=480) {m:Option Addr} {n vc:Nat} (s:VR M (.list 7 y) (.slice m n vc)) (r:eP M H0 w):
  Calls prog 66 #[.slice m n vc,.int .i64 0] w λe p=>∃(x:E8) (F:List Nat) (g:Option Addr) (k j:Nat) (d:Option Addr) (f pc:Nat) (i:Int),
   e=.returned (.tuple #[.agg #[.int .i64 t.op,.slice g k j,.int .i64 t.mn,.int .i64 t.mx,.bool t.lz,.int .i64 t.cap,.int .i64 t.nk,.slice d f pc],.int .i64 i])/\
   (x.1=[.int .i64 t.op,.slice g k j,.int .i64 t.mn,.int .i64 t.mx,.bool t.lz,.int .i64 t.cap,.int .i64 t.nk,.slice d f pc])/\TA M p t x F/\F.Nodup/\(∀c∈F,w.heap.size<=c)/\Below w.heap.size w p:=by
 have a:1<=y.length:=by rw[q];exact tI t
 generalize hu:(Value.slice m n vc)=u at s;have h:∃(b o cap:Nat),u=.slice (some ⟨b,o,none⟩) y.length cap/\y.length<=cap/\Rd M w b o (aX (D:=D) 7 y)/\b<w.heap.size:=by
  cases s with
  | @list c b o cap xs hs C l=>exact⟨b,o,cap,rfl,l,qL iX r hs,r.slt (hs 0 a 0 _ rfl)⟩
  | fw=>exact absurd a (by decide)
 obtain⟨b,o,cap,e,l,z,A⟩:=h;rw[e];refine(Qcu (Zav v (by decide)) l (aH t).length t 0 [] w (Zah _) h1 (by rw[Zaw,<-q];rfl) z A).mono ?_;rintro B p ⟨x,F,rfl,k1,k2,k3,k4⟩;obtain⟨g,k,j,d,f,pc,ex⟩:=zm k1;exact⟨x,F,g,k,j,d,f,pc,_,by rw[ex],ex,k1,k2,k3,k4⟩
def QcB {t:ah} {A:List Value} (h1:kZ t) (n:dX t) {x:E8} {F:List Nat} {a:World} {o:Obj} (ex:x.1=A) (j:TA M a t x F) (i:F.Nodup) (f:∀c∈F,w.heap.size<=c) (k:Below w.heap.size w a) (g:eP M H0 w) (p:TF M 0):
  Calls prog 68 #[.agg A.toArray] (a.alloc o) λe m=>∃(b:Pm D) (v:Value),e=.returned v/\VR b (.agg (D.bm 15 (fB t))) v/\Qs [] M w b m:=by
 subst ex;have hs:=k.size;have h:Below w.heap.size w (a.alloc o):=k.alloc hs o;have l:Qs [] M w M (a.alloc o):=Qs.Il (jS g h 0);refine(Qia QnP QnT QnU _ t x F M (a.alloc o) (Zah _) h1 n (w8 (mH M) _ _ _ j λc _ hl=>Below.heap_alloc _ _ _ hl) i (λc d=>⟨Zav g.mZ.1.1 (f c d),λo=>?_⟩) l.gv p).mono ?_
 ·cases e:M.sg c o with
  | none=>rfl
  | some u=>have:=g.slt e;have:=f c d;omega
 ·rintro e m ⟨b,v,rfl,k1,k2⟩;exact⟨b,v,rfl,k1,l.trans k2 λc d=>.inr (f c d)⟩
set_option maxHeartbeats 4000000 in
theorem QcC (hm:Ok lI) (H:pf y) {v:Value} (C:eP M H0 w) (E:TF M 0) (q:VR M (.list 7 y) v):
  Calls prog 28 #[v] w λe w'=>∃(S:Pm D) (W:Value),e=.returned W/\VR S (.list 7 (lk (cO y))) W/\Qs [] M w S w':=by
 have G:Calls prog 65 #[v] w λe X=>∃(z:Pm D) (u:Value),e=.returned u/\VR z (.bool (dG y)) u/\Qs [] M w z X:=NM (f:=65) (Qey hm) (y:=y) H C E q
 obtain⟨va,vn,vc,rfl⟩:=B6 q
 by_cases d:dG y=true
 ·obtain⟨t,h1,A,B⟩:=jU d
  have k:cO y=aH (fB t):=by
   unfold cO
   rw[Zac d,A,qm h1,B_ h1]
  have I:=Lib.hid k
  have r:=Lib.hid h1
  rw[d] at G
  have hlen:=B
  have V:1<=y.length:=by rw[A];exact tI t
  have O:=Lib.hid A
  have Y:=Lib.hid H
  have Z:=Lib.hid q
  have H5:=Lib.hid C
  have H6:=Lib.hid E
  clear k h1 A H q C E d
  go_enter Tryz.func28,Tryz.ntmps28
  go_wp2_with (go_at_call 65;go_must (refine G.mono ?_;rintro e w1 ⟨s,u,rfl,hu,a⟩;obtain rfl:=oZ hu;clear hu))
  have m:TF s 0:=λb L=>(a.pl b).trans (H6.out b L)
  have P:=Lib.hid m
  have Q:=Lib.hid a
  have J:=QcA r.out O.out B (Z.out.mono a.le) a.gv
  refine J.mono ?_
  rintro e w2 ⟨x,F,qa,qn,qc,pa,pn,pc,i,rfl,ex,k1,k2,k3,k4⟩
  have g:dX t:=by
   have h:=O.out
   have U:=Y.out
   rw[h] at U B
   exact⟨Zav B (by decide),U⟩
  have K4:=QcB (o:=.cells #[.int .i64 t.op,.slice qa qn qc,.int .i64 t.mn,.int .i64 t.mx,.bool t.lz,.int .i64 t.cap,.int .i64 t.nk,.slice pa pn pc] 164) r.out g ex k1 k2 k3 k4 Q.out.gv P.out
  have R:=Lib.hid g
  have K6:=Lib.hid J
  clear k1 k2 k3 k4 ex m a g J
  go_wp2_with (go_at_call 68;go_must (refine K4.mono ?_;rintro e X ⟨z,u,rfl,hu,j⟩))
  have K:TF z 0:=λb L=>(j.pl b).trans (P.out b L)
  have hk:dX (fB t):=by
   have a1:=B_ r.out
   have a2:=(ri t (Gm t r.out) ⟨Zah _,R.out.2⟩).2
   rw[<-a1] at a2
   exact⟨Zav a2.1 R.out.1,a2.2⟩
  have hl:=NM Qe9 hk j.gv K hu
  refine hl.mono ?_
  rintro e w4 ⟨T,u4,rfl,p,N⟩
  have K7:=Lib.hid p
  clear p hl hk
  go_wp2_with fail
  go_ret
  refine⟨T,_,rfl,?_,(Q.out.trans j λc d=>(nomatch d)).trans N λc d=>(nomatch d)⟩
  have e:dD (fB t)=lk (cO y):=by rw[az,I.out];unfold dD;rw[az]
  have hz:∀l:List Nd,dD (fB t)=l->VR T (.list 7 l) u4:=λl h=>by subst h;exact K7.out
  exact hz _ e
 ·have n:dG y=false:=by simpa using d
  rw[n] at G
  have hs:cO y=[]:=by unfold cO;rw[Zaa d]
  have I:=Lib.hid hs
  clear hs d n q C E H
  go_enter Tryz.func28,Tryz.ntmps28
  go_wp2_with (go_at_call 65;go_must (refine G.mono ?_;rintro e w1 ⟨s,u,rfl,hu,a⟩;obtain rfl:=oZ hu;clear hu))
  go_ret
  refine⟨s,_,rfl,?_,a⟩
  have hz:∀l:List Nd,l=[]->VR s (.list 7 l) (.slice none 0 0):=λl h=>by subst h;exact .fw
  exact hz _ ((az _).trans I.out)
def Qou (i:Ok lI):Ok Qcf:=by
 refine⟨⟨f28,_,by kernel_rfl,dB (by kernel_rfl)⟩,λy k M A w c f g R d=>?_⟩;obtain⟨v,rfl,j⟩:=yp c;exact(QcC i k f g j).mono λe m ⟨a,l,h,h1,b⟩=>by rw[h];exact d a l m h1 b.Qfi
end sx
namespace sx
open Go Go.RowKit Go.Maps cls syn
set_option maxRecDepth 100000
variable {M:Pm D} {w:World} {b o i:Nat} {v:Value} {E:DataW Unit} {Z:a7}
theorem tZ {xs:List (D.E b)} (hz:∀x:D.E b,∃u,(D.bm b x)[0]?=some u) (d:eP M H0 w) (h:VR M (.list b xs) v):
  ∃a cap,v=.slice a xs.length cap/\(0<xs.length->∃c o,a=some ⟨c,o,none⟩/\Rd M w c o (aX (D:=D) b xs)/\c<w.heap.size):=by
 cases h with
 | @list b c o cap xs hs g f=>exact⟨_,cap,rfl,λe=>let ⟨u,hu⟩:=hz xs[0];⟨c,o,rfl,qL iX d hs,d.slt (hs 0 e 0 u hu)⟩⟩
 | fw=>exact⟨_,_,rfl,λh=>absurd h (Nat.lt_irrefl 0)⟩
theorem Qib {p:iY} (h:VR M (Fj p) v):∃c s,v=.agg #[c,s]/\VR M (.list 8 p.ag) c/\VR M (.list 5 p.ai) s:=by
 cases h with | @agg _ A h1 a=>?_
 obtain⟨l⟩:=A;obtain⟨c,s,e,b,d⟩:=FI ⟨h1,a⟩;grind
def QcD {l:db} (h:VR M (.agg (D.bm 2 l)) v):∃t,v=.agg #[.bool l.done,.int .i64 l.c0,.int .i64 l.c1,.int .i64 l.c2,.int .i64 l.c3,.int .i64 l.c4,.int .i64 l.c5,.int .i64 l.c6,.int .i64 l.c7,.int .i64 l.c8,.int .i64 l.c9,t]/\VR M (.list 1 l.aU) t:=by
 cases h with | @agg _ A h1 g=>?_
 obtain⟨A⟩:=A;have h:LR M (D.bm 2 l) A:=⟨h1,g⟩;cases l;obtain⟨i,A,rfl,a0,h⟩:=h.bJ;obtain⟨j,A,rfl,c,h⟩:=h.bJ;obtain⟨k,A,rfl,a2,h⟩:=h.bJ;obtain⟨v3,A,rfl,a3,h⟩:=h.bJ;obtain⟨m,A,rfl,a4,h⟩:=h.bJ;obtain⟨v5,A,rfl,a5,h⟩:=h.bJ;obtain⟨n,A,rfl,d,h⟩:=h.bJ;obtain⟨o,A,rfl,e,h⟩:=h.bJ;obtain⟨p,A,rfl,f,h⟩:=h.bJ;obtain⟨v9,A,rfl,a9,h⟩:=h.bJ;obtain⟨v10,A,rfl,a,h⟩:=h.bJ;obtain⟨v11,A,rfl,b,h⟩:=h.bJ;obtain rfl:=h.mj;obtain rfl:=oZ a0;obtain rfl:=gb c;obtain rfl:=gb a2;obtain rfl:=gb a3;obtain rfl:=gb a4;obtain rfl:=gb a5;obtain rfl:=gb d;obtain rfl:=gb e;obtain rfl:=gb f;obtain rfl:=gb a9;obtain rfl:=gb a;exact⟨_,rfl,b⟩
def NN {f:FuncId} {Y:Type} {zL:List (AV D.E)->St D.E->C Y} {pre:Y->Prop} {a b r:Y->AV D.E} (h:Ok (cq f Y zL pre (λy=>[a y,b y]) r)) {y:Y} (l:pre y) {u:Value} (j:eP M H0 w) (k:TF M 0) (g:VR M (a y) v) (i:VR M (b y) u):
  Calls prog f #[v,u] w λe o=>∃(c:Pm D) (z:Value),e=.returned z/\VR c (r y) z/\Qs [] M w c o:=
 h.2 y l M #[v,u] w (.cons g (.cons i .nil)) j k _ λd n _ m hs=>⟨d,n,rfl,m,Qs.Il hs⟩
def Qov {ag:List a8} (h:Rd M w b o (aX (D:=D) 8 ag)) (hi:i<ag.length):w.cell? ⟨b,o+i*4,none⟩=some (.int .i64 (ag.getD i ⟨0,0,0,[]⟩).op):=by
 obtain⟨v,h1,a⟩:=kX iX h hi 0 _ rfl;obtain rfl:=gb a;rw[Zag,Zaf hi];exact h1
def Qow {a:List Bool} (h:Rd M w b o (aX (D:=D) 17 a)) (hi:i<a.length):w.cell? ⟨b,o+i,none⟩=some (.bool (a.getD i false)):=by
 obtain⟨v,h1,c⟩:=kX iX h hi 0 _ rfl;obtain rfl:=oZ c;rw[Zag,Zaf hi];rw[show o+i=o+i*D.size 17+0 by show _=o+i*1+0;omega];exact h1
def Qox {xs:List Int} {x:Int} (h:Rd M w b o (aX (D:=D) 5 xs)) (d:xs[i]?=some x):w.cell? ⟨b,o+i,none⟩=some (.int .i64 x)/\lf .i64 x:=by
 obtain⟨hi,rfl⟩:=Zam.1 d;obtain⟨v,h1,a⟩:=kX iX h hi 0 _ rfl;obtain⟨rfl,c⟩:=eO a;rw[show o+i=o+i*D.size 5+0 by show _=o+i*1+0;omega];exact⟨h1,c⟩
def KW {H:Type} {P:Program} (w:World) {ops:Array Oper} {rest:List Oper} {o:Oper} {a:Act} {Q:Exit->Act->World->Prop} (r:o.guard=none) (m x v:Operand) (t:TypeId) (l:o.op=Op.insert t m x v)
  (k e:TypeId) (K:Keyed P k) (ht:P.underlying t=some (.map k e)) (R:Value->Option (DataW H×List MemPlace)) (b n:Nat) (D:DataW H) (s:a.eval m=.map (some b)) (f:w.ownsMap P k R b n D) (u:n<maxLen) (key val:Value) (p:Lit)
  (z:a.eval x=key) (y:a.eval v=val) (c:keyOf P k key=some p) (d:DataW H) (A:List MemPlace) (h:R val=some (d,A))
  (q:∀i,i.ownsMap P k R b (n+1) (D.put p d)->w.grownBy i (some b)->wpList P ops Q rest (a.put o.dst Go.undef) i):wpList P ops Q (o::rest) a w:=by
 refine wpList_plain r λE j=>?_
 obtain⟨i,g,B,C⟩:=f.update K ht u c h;unfold Oper.wp;simp[execOp,l,s,z,y,g,Result.andThen];exact j _ _ (q i B C)
def Mp (E:DataW Unit) (F:Int->Bool):Prop:=IsMap E/\∀j:Int,E.atKey (.int .i64 j) (.lit (.int .i64 0))=.lit (.int .i64 (if F j=true then 1 else 0))
theorem Mp.nil:Mp (.map []) λ_=>false:=⟨⟨_,rfl⟩,λ_=>rfl⟩
theorem Mp.put {F:Int->Bool} (h:Mp E F) (j:Int) (b:Bool):Mp (E.put (.int .i64 j) (.lit (.int .i64 (if b=true then 1 else 0)))) λk=>if k=j then b else F k:=by
 refine⟨h.1.put _ _,λk=>?_⟩;by_cases e:k=j
 ·subst e;simp only[Zbv];exact atKey_put_same h.1 (by simp[WideAt.IsKeyLit]) _ _
 ·rw[atKey_put_other (by grind),h.2 k];grind
def Qoy {xs:List a7} (h:Rd M w b o (aX (D:=D) 1 xs)) (ht:xs[i]?=some Z):
  w.cell? ⟨b,o+i*11,none⟩=some (.int .i64 Z.pc)/\w.cell? ⟨b,o+i*11+1,none⟩=some (.int .i64 Z.c0)/\w.cell? ⟨b,o+i*11+2,none⟩=some (.int .i64 Z.c1)/\w.cell? ⟨b,o+i*11+3,none⟩=some (.int .i64 Z.c2)/\w.cell? ⟨b,o+i*11+4,none⟩=some (.int .i64 Z.c3)/\
  w.cell? ⟨b,o+i*11+5,none⟩=some (.int .i64 Z.c4)/\w.cell? ⟨b,o+i*11+6,none⟩=some (.int .i64 Z.c5)/\w.cell? ⟨b,o+i*11+7,none⟩=some (.int .i64 Z.c6)/\w.cell? ⟨b,o+i*11+8,none⟩=some (.int .i64 Z.c7)/\w.cell? ⟨b,o+i*11+9,none⟩=some (.int .i64 Z.c8)/\w.cell? ⟨b,o+i*11+10,none⟩=some (.int .i64 Z.c9)/\
  lf .i64 Z.pc/\∀x∈qA Z,lf .i64 x:=by
 obtain⟨hi,rfl⟩:=Zam.1 ht;have k:=kX iX h hi;obtain⟨G,a0,j⟩:=k 0 _ rfl;obtain⟨H,d,b1⟩:=k 1 _ rfl;obtain⟨I,a2,l⟩:=k 2 _ rfl;obtain⟨v3,a3,m⟩:=k 3 _ rfl;obtain⟨J,a4,n⟩:=k 4 _ rfl;obtain⟨v5,a5,p⟩:=k 5 _ rfl;obtain⟨K,e,q⟩:=k 6 _ rfl;obtain⟨L,f,r⟩:=k 7 _ rfl;obtain⟨N,g,b8⟩:=k 8 _ rfl;obtain⟨v9,a9,s⟩:=k 9 _ rfl;obtain⟨v10,a,c⟩:=k 10 _ rfl;obtain⟨rfl,u⟩:=eO j;obtain⟨rfl,v⟩:=eO b1;obtain⟨rfl,y⟩:=eO l;obtain⟨rfl,z⟩:=eO m;obtain⟨rfl,A⟩:=eO n;obtain⟨rfl,B⟩:=eO p;obtain⟨rfl,C⟩:=eO q;obtain⟨rfl,E⟩:=eO r;obtain⟨rfl,d8⟩:=eO b8;obtain⟨rfl,F⟩:=eO s;obtain⟨rfl,d10⟩:=eO c;exact⟨a0,d,a2,a3,a4,a5,e,f,g,a9,a,u,by simp[qA];exact⟨v,y,z,A,B,C,E,d8,F,d10⟩⟩
def QcE (ht:∀x∈qA Z,lf .i64 x):VR M (.agg [.int .i64 Z.c0,.int .i64 Z.c1,.int .i64 Z.c2,.int .i64 Z.c3,.int .i64 Z.c4,.int .i64 Z.c5,.int .i64 Z.c6,.int .i64 Z.c7,.int .i64 Z.c8,.int .i64 Z.c9])
  (.agg #[.int .i64 Z.c0,.int .i64 Z.c1,.int .i64 Z.c2,.int .i64 Z.c3,.int .i64 Z.c4,.int .i64 Z.c5,.int .i64 Z.c6,.int .i64 Z.c7,.int .i64 Z.c8,.int .i64 Z.c9]):=by
 simp only[qA,Zbf,Zds,Zdt,forall_eq_or_imp,forall_eq] at ht;obtain⟨h0,h1,a,b,c,d,e,f,g,i⟩:=ht;have h:LR M [.int .i64 Z.c0,.int .i64 Z.c1,.int .i64 Z.c2,.int .i64 Z.c3,.int .i64 Z.c4,.int .i64 Z.c5,.int .i64 Z.c6,.int .i64 Z.c7,.int .i64 Z.c8,.int .i64 Z.c9] [.int .i64 Z.c0,.int .i64 Z.c1,.int .i64 Z.c2,.int .i64 Z.c3,.int .i64 Z.c4,.int .i64 Z.c5,.int .i64 Z.c6,.int .i64 Z.c7,.int .i64 Z.c8,.int .i64 Z.c9]:=
  .cons (.int h0) <| .cons (.int h1) <| .cons (.int a) <| .cons (.int b) <| .cons (.int c) <| .cons (.int d) <| .cons (.int e) <| .cons (.int f) <| .cons (.int g) <| .cons (.int i) .nil
 exact .agg h.1 h.2
def Cc {a:World} {k:TypeId} {R:Value->Option (DataW Unit×List MemPlace)} (h:w.ownsMap prog k R b o E) (e:a.heap[b]?=w.heap[b]?):a.ownsMap prog k R b o E:=by
 obtain⟨es,clock,c,r⟩:=h;exact⟨es,clock,e.trans c,r⟩
def QC:Keyed prog 3:=int_keyed Tryz.underlying3
def YI (w:World):(zeroValue 3).run prog w=.ok (.int .i64 0) w:=by kernel_rfl
set_option maxHeartbeats 4000000 in
theorem QcF {p:iY} {l:db} {m st:Int} (hr:b<p.ai.length) (hst:p.ai[b]?=some st) (pv:TT (p.ag,st)) (hn:l.aU.length<=1000000) {lv:Value} (hS:eP M H0 w) (hT:TF M 0)
  (hm:lf .i64 m=true) (hp:VR M (Fj p) v) (hl:VR M (.agg (D.bm 2 l)) lv):
  Calls prog 120 #[v,.int .i64 b,lv,.int .i64 m] w λe w'=>∃(M':Pm D),e=.returned (.bool (sA ⟨p,b,l,m⟩))/\Qs [] M w M' w':=by
 obtain⟨cv,sv,rfl,hcv,hsv⟩:=Qib hp
 obtain⟨tv,rfl,htv⟩:=QcD hl
 obtain⟨sa,X,rfl,P⟩:=tZ (λx=>⟨_,rfl⟩) hS hsv
 obtain⟨sb,so,rfl,hsr,hsb⟩:=P (Nat.lt_of_le_of_lt (Zaj _) hr)
 have hcs:=Qox hsr hst
 obtain⟨hcs,hin⟩:=hcs
 obtain⟨ca,A,rfl,hc2⟩:=tZ (λx=>⟨_,rfl⟩) hS hcv
 have hb0:(0:Int)<=(b:Int):=ω
 have l8:(b:Int)<(p.ai.length:Int):=ω
 obtain⟨ta,Qoz,rfl,ht2⟩:=tZ (λx=>⟨_,rfl⟩) hS htv
 have G8:=Lib.hid ht2
 have hpos:0<p.ag.length:=by have h1:0<=st:=pv.2.1;have Q:st<p.ag.length:=pv.2.2;omega
 obtain⟨cb,co,rfl,hcr,hcb⟩:=hc2 hpos
 have hcall:∀W:World,Below w.heap.size w W->Calls prog 149 #[.slice (some ⟨cb,co,none⟩) p.ag.length A,.int .i64 st] W λe w3=>∃(M3:Pm D) (z:Value),e=.returned z/\VR M3 (.list 17 (se p.ag st)) z/\Qs [] M W M3 w3:=
  λW hb=>NN Qd4 (y:=(p.ag,st)) pv (jS hS hb 0).gv hT hcv (.int hin)
 have hcl:p.ag.length<=1000:=pv.1.1
 have hs0:0<=st:=pv.2.1
 have hs9:st<1000:=by have h1:=pv.1.1;have Q:=pv.2.2;simp only at h1 Q;omega
 have hkey:keyOf prog 3 (.int .i64 st)=some (.int .i64 st):=keyOf_int_mk Tryz.underlying3 (WalkArith.wf_i64 ω)
 have G1:=Lib.hid hcv
 have G2:=Lib.hid htv
 have G3:=Lib.hid hS
 have G4:=Lib.hid hT
 have G5:=Lib.hid pv
 have G6:=Lib.hid hcr
 have G7:=Lib.hid hst
 have hgs:wtS ⟨p,b,l,m⟩=st:=by show p.ai.getD (Int.toNat b) 0=st;rw[Zad,Zag,hst];rfl
 have GS:=Lib.hid hgs
 clear hgs
 clear hcv htv ht2 hS hT pv hc2 hcr P hp hl hsv hst hsr
 go_enter Tryz.func120,Tryz.ntmps120
 go_wp2_with fail
 go_region_with (go_at_call 149;refine(hcall _ (((Below.refl _ _).alloc (Zah _) _).alloc (by simp) _).drew).mono ?_;rintro e f ⟨M1,z,rfl,hz,s⟩)
 all_goals
  have hmm:=@run_makeMap prog
  obtain⟨za,QzI,hzv,hz2⟩:=tZ (λx=>⟨_,rfl⟩) s.gv hz
  rw[show List.length (α:=D.E 17) (se p.ag st)=p.ag.length from tp _ _] at hzv
  obtain⟨zb,zo,rfl,hzr,hzb⟩:=hz2 (show 0<(se p.ag st).length by rw[tp];exact hpos)
  subst hzv
  have T:∀c,c<w.heap.size+2->f.heap[c]?=((w.alloc (Obj.cells #[Value.slice (some ⟨cb,co,none⟩) p.ag.length A,Value.slice (some { block:=sb,off:=so }) p.ai.length X] 69)).alloc (Obj.cells #[Value.bool l.done,Value.int IntKind.i64 l.c0,Value.int IntKind.i64 l.c1,Value.int IntKind.i64 l.c2,Value.int IntKind.i64 l.c3,Value.int IntKind.i64 l.c4,Value.int IntKind.i64 l.c5,Value.int IntKind.i64 l.c6,Value.int IntKind.i64 l.c7,Value.int IntKind.i64 l.c8,Value.int IntKind.i64 l.c9,.slice ta (List.length (α:=D.E 1) l.aU) Qoz] 113)).heap[c]?:=λc pv=>s.aS c (by simpa using pv) (by simp)
  have hs1:w.heap.size+2<=f.heap.size:=by have:=s.size;simpa using this
  have P:w.heap.size<f.heap.size:=ω
  have hs3:sb<f.heap.size:=ω
  have k0:f.heap[w.heap.size]?=some (Obj.cells #[Value.slice (some ⟨cb,co,none⟩) p.ag.length A,Value.slice (some { block:=sb,off:=so }) p.ai.length X] 69):=(T _ ω).trans (by rw[Below.heap_alloc _ _ _ (by simp)];exact heap_alloc_new _ _)
  have k1:f.cell? ⟨w.heap.size,1,none⟩=some (.slice (some ⟨sb,so,none⟩) p.ai.length X):=by rw[jv k0];rfl
  have k2:f.cell? ⟨sb,so+b,none⟩=some (.int .i64 st):=(gL ((T sb ω).trans (by grind [Below.heap_alloc]))).trans hcs
  have hk4:∀c,c<w.heap.size->f.heap[c]?=w.heap[c]?:=λc pv=>(T c ω).trans (by grind [Below.heap_alloc])
  have K4:=Lib.hid hk4
  have hfin:∀Z,Below f.heap.size f Z->Qs [] M w M1 Z:=λZ hb=>((Qs.Il (F:=[]) (jS G3.out ((((Below.refl _ _).alloc (Zah _) _).alloc (by simp) _).drew) 0)).trans s λc pv=>nomatch pv).trans (Qs.Il (F:=[]) (jS s.gv hb 0)) λc pv=>nomatch pv
  have KF:=Lib.hid hfin
  have hpl:∀(t:a7) (Z:World),(∀x∈qA t,lf .i64 x=true)->Below f.heap.size f Z->Calls prog 119 #[.agg #[.int .i64 t.c0,.int .i64 t.c1,.int .i64 t.c2,.int .i64 t.c3,.int .i64 t.c4,.int .i64 t.c5,.int .i64 t.c6,.int .i64 t.c7,.int .i64 t.c8,.int .i64 t.c9],.int .i64 m] Z λe w3=>e=.returned (.bool (gU t m))/\Below Z.heap.size Z w3:=λt Z ht hb=>by
   refine(NN Qfg (y:=(t,m)) trivial (jS s.gv hb 0).gv (λr hb=>(s.pl r).trans (G4.out r hb)) (QcE ht) (.int hm)).mono ?_
   ·rintro e w3 ⟨M3,u,rfl,hu,hq⟩
    exact⟨by rw[oZ hu],hq.os,hq.tape,hq.output,hq.size,λc pv=>hq.aS c pv (by simp)⟩
  have KP:=Lib.hid hpl
  have K1:=Lib.hid T
  have K2:=Lib.hid hzr
  have K3:=Lib.hid s
  clear T hk4 hfin hpl hz s hz2 hzr
  go_wp2_with (refine KW (H:=Unit) _ rfl _ _ _ 251 rfl 3 3 QC Tryz.underlying251 (plainElem prog 3) f.heap.size 0 _ rfl (World.ownsMap_made _ _ _ _) (by unfold maxLen;omega) _ _ _ rfl rfl hkey _ [] (plainElem_int Tryz.underlying3 (WalkArith.wf_i64 ω)) ?_;intro w2 hown2 I)
  generalize hB:f.heap.size=B at*
  have KB:=Lib.hid hB
  have QwT:Below B f w2:=((Below.refl _ _).alloc (Zd1 hB.symm) _).grown I (by simp;omega) λj hj=>by grind
  clear hB I k1 k2
  have QwU:f.cell? ⟨w.heap.size,0,none⟩=some (.slice (some ⟨cb,co,none⟩) p.ag.length A):=by rw[jv k0];rfl
  clear k0
  go_loopg [32] p.ag.length (λg i wr=>∃(k:Nat) (E:DataW Unit) (a:Nat),k<=p.ag.length/\g=p.ag.length-k/\i=.int .i64 k/\wr.ownsMap prog 3 (plainElem prog 3) B a E/\a<=k+1/\
   Mp E (wtG p.ag (se p.ag st) k λj=>if j=st then true else false)/\Below B f wr)
  case atStart=>exact⟨0,_,1,Zaj _,ω,rfl,hown2,Zah _,Mp.nil.put st true,QwT⟩
  case round=>
   obtain⟨k,E,a,hk,rfl,rfl,C,hcnt,U,S⟩:=hrel
   have J1:=Lib.hid C
   have J2:=Lib.hid U
   have Y:=Lib.hid S
   clear C U S
   by_cases hlt:k<p.ag.length
   ·have z1:wr.cell? ⟨zb,zo+k,none⟩=some (.bool ((se p.ag st).getD k false)):=(Y.out.cell (by exact hzb)).trans (Qow K2.out (by rw[tp];exact hlt))
    have z2:wr.cell? ⟨w.heap.size,0,none⟩=some (.slice (some ⟨cb,co,none⟩) p.ag.length A):=(Y.out.cell (by exact P)).trans QwU
    have z3:wr.cell? ⟨cb,co+k*4,none⟩=some (.int .i64 (p.ag.getD k ⟨0,0,0,[]⟩).op):=(Y.out.cell (show cb<B from Nat.lt_trans hcb P)).trans ((gL (K4.out cb hcb)).trans (Qov G6.out hlt))
    have c1:(0:Int)<=(k:Int):=ω
    have c2:(k:Int)<(p.ag.length:Int):=ω
    cases O:(se p.ag st).getD k false with
    | false=>
     rw[O] at z1
     have J4:=Lib.hid O
     clear O
     go_wp2_with fail
     go_roundg (p.ag.length-(k+1))
     case measure=>omega
     case rel=>exact⟨k+1,E,a,ω,rfl,by go_num,J1.out,ω,by rw[wtG,Zaa (by rw[J4.out];simp)];exact J2.out,Y.out⟩
    | true=>
     rw[O] at z1
     have J4:=Lib.hid O
     clear O
     by_cases L:(p.ag.getD k ⟨0,0,0,[]⟩).op=1
     ·rw[L] at z3
      have J5:=Lib.hid L
      clear L
      have QoA:keyOf prog 3 (.int .i64 ((k:Int)+1))=some (.int .i64 ((k:Int)+1)):=keyOf_int_mk Tryz.underlying3 (WalkArith.wf_i64 ω)
      go_wp2_with (at_mapUpdate;refine wpList_mapUpdate_own (H:=Unit) _ rfl _ _ _ 251 rfl 3 3 QC Tryz.underlying251 (plainElem prog 3) B a E rfl J1.out (by unfold maxLen;omega) _ _ _ rfl rfl QoA _ [] (plainElem_int Tryz.underlying3 (WalkArith.wf_i64 ω)) ?_;intro w3 hown3 hgrow3)
      go_roundg (p.ag.length-(k+1))
      case measure=>omega
      case rel=>exact⟨k+1,_,a+1,ω,rfl,by go_num,hown3,ω,by rw[wtG,Zac ⟨J4.out,J5.out⟩];exact J2.out.put ((k:Int)+1) true,Y.out.grown hgrow3 (Zav (Zd1 KB.out.symm) Y.out.size) (λj hj=>by grind)⟩
     ·generalize hg:(p.ag.getD k ⟨0,0,0,[]⟩).op=q at z3 L
      have J5:=Lib.hid hg
      have q1:(q==1)=false:=by simpa using L
      have q2:decide (q=1)=false:=by assumption
      clear hg
      go_wp2_with fail
      go_roundg (p.ag.length-(k+1))
      case measure=>omega
      case rel=>exact⟨k+1,E,a,ω,rfl,by go_num,J1.out,ω,by rw[wtG,Zaa (by rw[J5.out];exact λh=>L h.2)];exact J2.out,Y.out⟩
   ·obtain rfl:k=p.ag.length:=ω
    have k5:wr.cell? ⟨w.heap.size+1,11,none⟩=some (.slice ta (List.length (α:=D.E 1) l.aU) Qoz):=(Y.out.cell (show w.heap.size+1<B by omega)).trans (by rw[jv ((K1.out _ ω).trans (tT (by simp) _))];rfl)
    have c2:¬((p.ag.length:Int)<(p.ag.length:Int)):=ω
    go_wp2_with fail
    clear k5
    go_loopg [54] l.aU.length (λg i wr=>∃(q:Nat) (E:DataW Unit) (a:Nat) (F:Int->Bool),q<=l.aU.length/\g=l.aU.length-q/\i=.int .i64 q/\wr.ownsMap prog 3 (plainElem prog 3) B a E/\a<=1001+q/\
     Mp E F/\Below B f wr/\wtT m (l.aU.drop q) F=sA ⟨p,b,l,m⟩)
    case atStart=>exact⟨0,E,a,_,Zaj _,ω,rfl,J1.out,ω,J2.out,Y.out,by rw[ZbQ,sA,show wtS ⟨p,b,l,m⟩=st from GS.out]⟩
    case round=>
     obtain⟨q,E2,d,F,hq,rfl,rfl,C,hcnt2,U,S,hwt⟩:=hrel
     have N1:=Lib.hid C
     have N2:=Lib.hid U
     have N3:=Lib.hid S
     have N4:=Lib.hid hwt
     clear C U S hwt
     by_cases J:q<l.aU.length
     ·obtain⟨t,ht⟩:∃t,l.aU[q]?=some t:=⟨_,Zaf J⟩
      obtain⟨tb,tO,rfl,htr,htb⟩:=G8.out (Nat.lt_of_le_of_lt (Zaj _) J)
      obtain⟨e0,e1,e2,e3,e4,e5,e6,e7,e8,e9,e10,f0,f1⟩:=Qoy htr ht
      have tw:∀o,(wr.cell? ⟨tb,o,none⟩)=w.cell? ⟨tb,o,none⟩:=λo=>(N3.out.cell (show tb<B from Nat.lt_trans htb P)).trans (gL (K4.out tb htb))
      rw[<-tw] at e0 e1 e2 e3 e4 e5 e6 e7 e8 e9 e10
      have c3:(0:Int)<=(q:Int):=ω
      have c4:(q:Int)<(l.aU.length:Int):=ω
      have hns:B<wr.heap.size:=by obtain⟨es,clock,hb,_⟩:=N1.out;exact(ZbU.1 hb).1
      have P1:=Lib.hid ht
      have wfp:(Lit.int .i64 t.pc).wf=true:=WalkArith.wf_i64 (cY.1 f0)
      have n:keyOf prog 3 (.int .i64 t.pc)=some (.int .i64 t.pc):=keyOf_int_mk Tryz.underlying3 wfp
      have V:∀o,(wr.alloc o).ownsMap prog 3 (plainElem prog 3) B d E2:=λo=>Cc N1.out (Below.heap_alloc _ _ _ hns)
      have hbX:∀o,Below B f (wr.alloc o):=λo=>N3.out.alloc (Zcx hns) o
      have QoB:sA ⟨p,b,l,m⟩=(F t.pc&&gU t m&&wtT m (l.aU.drop (q+1)) λk=>if k=t.pc then false else F k):=by
       rw[<-N4.out,Zaq J,wtT]
       have:l.aU[q]=t:=by rw[Zaf J] at ht;exact ZbN ht
       rw[this]
      have P3:=Lib.hid f1
      have P4:=Lib.hid V
      have P5:=Lib.hid hbX
      have P6:=Lib.hid QoB
      clear ht f0 f1 tw htr V hbX QoB
      cases hF:F t.pc with
      | false=>
       have Q1:=Lib.hid hF
       clear hF
       go_wp2_with (at_lookup;refine wpList_lookup_own_int (H:=Unit) _ rfl _ _ 251 rfl 3 3 .i64 QC Tryz.underlying251 Tryz.underlying3 (YI _) B d E2 rfl (P4.out _) _ _ rfl n ?_;intro c R hwc;obtain rfl:c=0:=by(have Q:=N2.out.2 t.pc;rw[R,Q1.out] at Q;simpa using Q))
       go_ret
       refine⟨M1,?_,KF.out _ (P5.out _)⟩
       rw[P6.out,Q1.out]
       rfl
      | true=>
       have Q1:=Lib.hid hF
       clear hF
       have G:=KP.out t _ P3.out (P5.out (Obj.cells #[.int .i64 t.pc,.int .i64 t.c0,.int .i64 t.c1,.int .i64 t.c2,.int .i64 t.c3,.int .i64 t.c4,.int .i64 t.c5,.int .i64 t.c6,.int .i64 t.c7,.int .i64 t.c8,.int .i64 t.c9] 240))
       cases N:gU t m with
       | false=>
        rw[N] at G
        have Q2:=Lib.hid N
        clear N
        go_wp2_with (first | (at_lookup;refine wpList_lookup_own_int (H:=Unit) _ rfl _ _ 251 rfl 3 3 .i64 QC Tryz.underlying251 Tryz.underlying3 (YI _) B d E2 rfl (P4.out _) _ _ rfl n ?_;intro c R hwc;obtain rfl:c=1:=by(have Q:=N2.out.2 t.pc;rw[R,Q1.out] at Q;simpa using Q)) | (go_at_call 119;refine G.mono ?_;rintro e w3 ⟨rfl,K⟩))
        go_ret
        refine⟨M1,?_,KF.out _ ((P5.out _).trans (K.mono (by simp;omega)))⟩
        rw[P6.out,Q1.out,Q2.out]
        rfl
       | true=>
        rw[N] at G
        have Q2:=Lib.hid N
        clear N
        go_wp2_with (first | (at_lookup;refine wpList_lookup_own_int (H:=Unit) _ rfl _ _ 251 rfl 3 3 .i64 QC Tryz.underlying251 Tryz.underlying3 (YI _) B d E2 rfl (P4.out _) _ _ rfl n ?_;intro c R hwc;obtain rfl:c=1:=by(have Q:=N2.out.2 t.pc;rw[R,Q1.out] at Q;simpa using Q)) | (go_at_call 119;refine G.mono ?_;rintro e w3 ⟨rfl,K⟩;have w3c:w3.cell? ⟨wr.heap.size,0,none⟩=some (.int .i64 t.pc):=(K.cell (by simp)).trans (by rw[jv (tT rfl _)];rfl)) | (at_mapUpdate;refine wpList_mapUpdate_own (H:=Unit) _ rfl _ _ _ 251 rfl 3 3 QC Tryz.underlying251 (plainElem prog 3) B d E2 rfl (Cc (P4.out _) (K.block B (by simp;omega))) (by unfold maxLen;omega) _ _ _ rfl rfl n _ [] (plainElem_int Tryz.underlying3 (WalkArith.wf_i64 ω)) ?_;intro w4 hown4 hgrow4))
        go_roundg (l.aU.length-(q+1))
        case measure=>omega
        case rel=>
         have hb4:Below B f w4:=((P5.out _).trans (K.mono (by simp;omega))).grown hgrow4 (by have:=K.size;simp at this;omega) λj hj=>by cases hj;exact Zah _
         exact⟨q+1,_,d+1,_,ω,rfl,by go_num,hown4,ω,N2.out.put t.pc false,hb4,by rw[P6.out,Q1.out,Q2.out];rfl⟩
     ·obtain rfl:q=l.aU.length:=ω
      have c4:¬((l.aU.length:Int)<(l.aU.length:Int)):=ω
      go_wp2_with fail
      go_ret
      refine⟨?_,M1,KF.out _ N3.out⟩
      have e:sA ⟨p,b,l,m⟩=true:=by rw[<-N4.out,ZbH];rfl
      rw[e]
      rfl
theorem QoC:Ok Qoo:=by
 refine⟨⟨f120,_,by kernel_rfl,dB (by kernel_rfl)⟩,λy t M A w a i j R h=>?_⟩;obtain⟨p,r,l,m⟩:=y;obtain⟨k,h0,h1,g⟩:=t;obtain⟨A⟩:=A;obtain⟨v,A,rfl,a0,a⟩:=LR.bJ a;obtain⟨x,A,rfl,f,a⟩:=a.bJ;obtain⟨z,A,rfl,a2,a⟩:=a.bJ;obtain⟨v3,A,rfl,a3,a⟩:=a.bJ;obtain rfl:=a.mj;obtain rfl:=gb f;obtain⟨rfl,q⟩:=eO a3;obtain⟨n,rfl⟩:=Zau h0;have b:n<p.ai.length:=Zd0.1 h1;have c:p.ai[n]?=some (wtS ⟨p,n,l,m⟩):=by
  show _=some (p.ai.getD (Int.toNat n) 0)
  grind
 exact(QcF b c k g i j q a0 a2).mono λe u ⟨d,o,s⟩=>by rw[o];exact h d _ u (.bool _) s.Qfi
end sx
set_option maxRecDepth 100000
set_option maxHeartbeats 4000000
namespace sx
noncomputable section
open Go Go.RowKit cls syn
structure mJ where
 p:iY
 m:Int
 L:List db
def Zn (l:db):a7:=⟨0,l.c0,l.c1,l.c2,l.c3,l.c4,l.c5,l.c6,l.c7,l.c8,l.c9⟩
def wlN (l:db):Bool:=(qA (Zn l)).all λx=>decide (x= -1)
def Cd (y:mJ) (i:Nat):Bool:=!(!(y.L.getD i pB).done&&!wlN (y.L.getD i pB))&&gU (Zn (y.L.getD i pB)) y.m&&sA ⟨y.p,i,y.L.getD i pB,y.m⟩
def iV (y:mJ):Nat->Bool
 | 0=>true
 | k+1=>iV y k&&Cd y k
def jX (y:mJ):Bool:=lk (decide (0<=y.m)&&decide (y.m<=1099511627776)&&decide (y.L.length=y.p.ai.length)&&iV y y.L.length)
def Hh (y:mJ):Prop:=pb y.p/\y.L.length<=1000/\∀l∈y.L,l.aU.length<=1000000
def mcA (y:mJ):AV D.E:=.agg [.int .i64 y.m,.list 2 y.L]
def QwV (v:AV D.E) (s:St D.E):C (Int×List db):=aB (asAgg v) λcs=>match cs with
 | [m,l]=>aP (cQ m) λ_ m=>aB (aW D s 2 l) λl=>.ret (m,(l:List db))
 | _=>.fail
def QoE (a:List (AV D.E)) (s:St D.E):C mJ:=match a with
 | [p,m]=>aB (IJ p s) λp=>aP (QwV m s) λm l=>.ret ⟨p,m,l⟩
 | _=>.fail
def QE:bp D:=cq 84 mJ QoE Hh (λy=>[Fj y.p,mcA y]) λy=>.bool (jX y)
def QwW (y:QE.Y):dj D:=⟨[],[],[(58,⟨Nat,[30,31],λk=>[(2,.ptr 0 0),(3,.ptr 1 0),(32,Qyy k)],[],λ_=>[pgO (mJ.p y),(1,.cells [Qyy (mJ.m y),.list 2 (mJ.L y)] 42 false)],2,λk=>k<=(mJ.L y).length/\iV y k,λk=>(mJ.L y).length-k⟩)],[],1,[]⟩
def YJ (y:mJ):Prop:=let d:=ab y.L;let q1:=y.L.length;let k:=aD 1099511627776 y.m;let l:=!(aE d (ab y.p.ai));let e:=λp:Prop=>RAP y.L d p;let f:=λp:Prop=>RAP y.m y.L (RA2 y.p p);let n:Prop:=(RAO y.m (false=jX y/\True));Iv (pb y.p)/\RA2 y.p (aj (aD y.m 0) (false=jX y/\True) (aj k (false=jX y/\True) (aj l (false=jX y/\True) ((∃z:Nat,e (0=(z:Int)/\f ((Iv (z<=q1/\iV y z)))))/\(∀x:Nat,let a:=gt (db.mk false 0 0 0 0 0 0 0 0 0 0 []) y.L (x:Int).toNat;let c:=Yt.mk y.p (x:Int) a y.m;let h:=!(gU (a7.mk 0 a.c0 a.c1 a.c2 a.c3 a.c4 a.c5 a.c6 a.c7 a.c8 a.c9) y.m);let g:=!((aE a.c0 (-1))&&((aE a.c1 (-1))&&((aE a.c2 (-1))&&((aE a.c3 (-1))&&((aE a.c4 (-1))&&((aE a.c5 (-1))&&((aE a.c6 (-1))&&((aE a.c7 (-1))&&((aE a.c8 (-1))&&(aE a.c9 (-1)))))))))));let b:=λp:Prop=>aa [a.c0,a.c1,a.c2,a.c3,a.c4,a.c5,a.c6,a.c7,a.c8,a.c9,y.m] p;let i:Prop:=(b (false=jX y/\True));let j:Prop:=(aa [a.c0,a.c1,a.c2,a.c3,a.c4,a.c5,a.c6,a.c7,a.c8,a.c9,y.m] (aa [y.p.ag] (aa [y.p.ai] (aa [a.done] (aa [a.c0,a.c1,a.c2,a.c3,a.c4,a.c5,a.c6,a.c7,a.c8,a.c9] (aa [a.aU] (aa [y.m] (aj (!(sA c)) (false=jX y/\True) (∃z:Nat,e (ay .i64 (x:Int) 1=(z:Int)/\f ((Iv ((z<=q1/\iV y z)/\(q1-z)<(q1-x))))))))))))));(Iv (x<=q1/\iV y x))->aj (aD (x:Int) d) (aM 0 (x:Int)/\aD (x:Int) d/\aj (!a.done) (Iv True/\aj g (aa [a.done] (aa [a.c0,a.c1,a.c2,a.c3,a.c4,a.c5,a.c6,a.c7,a.c8,a.c9,a.c0,a.c1,a.c2,a.c3,a.c4,a.c5,a.c6,a.c7,a.c8,a.c9] (false=jX y/\True))) (Iv True/\b (aj h (aa [a.done] (aa [a.c0,a.c1,a.c2,a.c3,a.c4,a.c5,a.c6,a.c7,a.c8,a.c9,a.c0,a.c1,a.c2,a.c3,a.c4,a.c5,a.c6,a.c7,a.c8,a.c9,a.c0,a.c1,a.c2,a.c3,a.c4,a.c5,a.c6,a.c7,a.c8,a.c9,y.m] (false=jX y/\True))) (Iv (wtP c)/\aa [y.p.ag] (aa [y.p.ai] (aa [(x:Int)] (aa [a.done] (aa [a.c0,a.c1,a.c2,a.c3,a.c4,a.c5,a.c6,a.c7,a.c8,a.c9] (aa [a.aU] (aa [y.m] (aa [a.done] (aa [a.c0,a.c1,a.c2,a.c3,a.c4,a.c5,a.c6,a.c7,a.c8,a.c9,a.c0,a.c1,a.c2,a.c3,a.c4,a.c5,a.c6,a.c7,a.c8,a.c9,a.c0,a.c1,a.c2,a.c3,a.c4,a.c5,a.c6,a.c7,a.c8,a.c9,y.m] (aa [y.p.ag] (aa [y.p.ai] (aa [a.done] (aa [a.c0,a.c1,a.c2,a.c3,a.c4,a.c5,a.c6,a.c7,a.c8,a.c9] (aa [a.aU] (aa [y.m] (aj (!(sA c)) (false=jX y/\True) (∃z:Nat,e (ay .i64 (x:Int) 1=(z:Int)/\f ((Iv ((z<=q1/\iV y z)/\(q1-z)<(q1-x))))))))))))))))))))))))) (Iv True/\b (aj h (aa [a.done] (aa [a.c0,a.c1,a.c2,a.c3,a.c4,a.c5,a.c6,a.c7,a.c8,a.c9,y.m] (false=jX y/\True))) (Iv (wtP c)/\aa [y.p.ag] (aa [y.p.ai] (aa [(x:Int)] (aa [a.done] (aa [a.c0,a.c1,a.c2,a.c3,a.c4,a.c5,a.c6,a.c7,a.c8,a.c9] (aa [a.aU] (aa [y.m] (aa [a.done] (aa [a.c0,a.c1,a.c2,a.c3,a.c4,a.c5,a.c6,a.c7,a.c8,a.c9,y.m] (aa [y.p.ag] (aa [y.p.ai] (aa [a.done] (aa [a.c0,a.c1,a.c2,a.c3,a.c4,a.c5,a.c6,a.c7,a.c8,a.c9] (aa [a.aU] (aa [y.m] (aj (!(sA c)) (false=jX y/\True) (∃z:Nat,e (ay .i64 (x:Int) 1=(z:Int)/\f ((Iv ((z<=q1/\iV y z)/\(q1-z)<(q1-x))))))))))))))))))))))))) (true=jX y/\True))))))
theorem Hi {y:mJ}:∀{n k:Nat},k<=n->iV y n->iV y k
 | 0,k,h,e=>by
  obtain rfl:k=0:=ω;exact e
 | n+1,k,h,e=>by
  rw[iV,ZaW] at e;by_cases hk:k=n+1
  ·grind [iV]
  ·exact Hi ω e.1
theorem rA (y:mJ):jX y=(decide (0<=y.m)&&decide (y.m<=1099511627776)&&decide (y.L.length=y.p.ai.length)&&iV y y.L.length):=az _
theorem Qic {y:mJ} {x:Nat} (a:x<y.L.length) (h:Cd y x=false):false=jX y:=by
 rw[rA];cases e:iV y y.L.length with
 | false=>simp
 | true=>
  have:=Hi (show x+1<=y.L.length by omega) e;grind [iV]
def Qid (l:db):wlN l=decide (l.c0= -1/\l.c1= -1/\l.c2= -1/\l.c3= -1/\l.c4= -1/\l.c5= -1/\l.c6= -1/\l.c7= -1/\l.c8= -1/\l.c9= -1):=by simp[wlN,Zn,qA]
theorem QwY (y:mJ) (j:Hh y):YJ y:=by
 unfold YJ;have⟨h,q,i⟩:=j;have⟨s,u,v,w,k,l⟩:=h;simp only[bN,bj,aw,dL,Zad,Zan,Zao];refine⟨h,λk1=>?_,λk1=>⟨λk2=>?_,λk2=>⟨λk3=>?_,λk3=>⟨⟨0,rfl,Zaj _,rfl⟩,λx r=>⟨λk4=>?_,λk4=>?_⟩⟩⟩⟩⟩
 ·grind [rA]
 ·grind [rA]
 ·grind [rA]
 ·have b:x<y.L.length:=ω;have d:x<y.p.ai.length:=ω;have ht:y.L.getD x pB∈y.L:=by grind
  have hw:wtP ⟨y.p,↑x,y.L.getD x pB,y.m⟩:=by
   have⟨n,o,_⟩:=l x d;exact⟨⟨k,n,o⟩,ZaF _,Zd0.2 d,i _ ht⟩
  have hi:ay .i64 ↑x 1=((x+1:Nat):Int):=bA ω ω;have g:Cd y x->iV y (x+1):=λe=>by grind [iV]
  have f:(⟨false,0,0,0,0,0,0,0,0,0,0,[]⟩:db)=pB:=rfl;have c:∀e:Cd y x,∃z:Nat,ay .i64 ↑x 1=↑z/\(z<=y.L.length/\iV y z)/\y.L.length-z<y.L.length-x:=λe=>⟨x+1,hi,⟨b,g e⟩,ω⟩
  have a:=Qic b;simp only[f];have hu:Cd y x=(!(!(y.L.getD x pB).done&&!wlN (y.L.getD x pB))&&gU (Zn (y.L.getD x pB)) y.m&&sA ⟨y.p,x,y.L.getD x pB,y.m⟩):=rfl;rw[Qid] at hu;unfold Zn at hu;generalize sA ⟨y.p,x,y.L.getD x pB,y.m⟩=W at*
  generalize gU ⟨0,(y.L.getD x pB).c0,(y.L.getD x pB).c1,(y.L.getD x pB).c2,(y.L.getD x pB).c3,(y.L.getD x pB).c4,(y.L.getD x pB).c5,(y.L.getD x pB).c6,(y.L.getD x pB).c7,(y.L.getD x pB).c8,(y.L.getD x pB).c9⟩ y.m=PP at*
  generalize y.L.getD x pB=t at*
  refine⟨ω,ω,λk5=>⟨λk6=>a ?_,λk6=>⟨λk7=>a ?_,λk7=>⟨hw,λk8=>a ?_,λk8=>c ?_⟩⟩⟩,λk5=>⟨λk7=>a ?_,λk7=>⟨hw,λk8=>a ?_,λk8=>c ?_⟩⟩⟩
  all_goals rw[hu]
  all_goals simp_all [aE]
 ·grind [rA]
def Qfj (a:Ok cW):Ok QE:=okZ [OY,OL,Qcp,Qoo] f84 QwW ⟨Qd5 a,To,Qfg,QoC⟩ QwY
def YK:bp D:=⟨85,List db,λa s=>match a with
 | [l]=>aB (aW D s 2 l) λl=>.ret (l:List db)
 | _=>.fail,zN,λy=>[.list 2 y],λ_=>[],λy=>.own 0 12 (ab y),λy=>[lsO 0 y],0,1⟩
def QwZ (y:YK.Y):dj D:=⟨[],[6],[(58,⟨Nat,[6,7],λk=>[(3,.own 0 12 (ab (List.take k (y:List db)))),(8,Qyy k)],[],λk=>[lsO 0 (List.take k (y:List db))],1,λk=>k<=List.length (y:List db),λk=>List.length (y:List db) -k⟩)],[],1,[]⟩
def QoF (y:mJ):iB:=⟨y.p,y.m,y.L,⟨rE y.p.ag.length,gI⟩⟩
def QoG (y:mJ):Prop:=Hh y/\jX y
def QcH:bp D:=⟨45,mJ,QoE,QoG,λy=>[Fj y.p,mcA y],λ_=>[],λ_=>.tuple [.ptr 0 0,.num .i64 0],λy=>CY 0 3 5 (QoF y),0,6⟩
structure qD where
 v:mJ
 h:By
def swA (y:qD):AV D.E:=.agg [.list 0 y.h,.int .i64 y.v.m,.list 2 y.v.L]
def QoH (p v:AV D.E) (s:St D.E):C qD:=aB (IJ p s) λp=>aB (asAgg v) λcs=>match cs with
 | [h,m,l]=>aB (aW D s 0 h) λh=>aP (cQ m) λ_ m=>aB (aW D s 2 l) λl=>.ret ⟨⟨p,m,(l:List db)⟩,(h:By)⟩
 | _=>.fail
def QoI (a:List (AV D.E)) (s:St D.E):C qD:=match a with
 | [p,v]=>QoH p v s
 | _=>.fail
def Qw3 (h:By):Prop:=(h=[]\/gy h)/\h.length<=4
def NO (y:qD):Prop:=Hh y.v/\Qw3 y.h
def QcI:bp D:=cq 82 qD QoI NO (λy=>[Fj y.v.p,swA y]) λy=>.bool (jX y.v)
def o6 (y:qD):Prop:=NO y/\jX y.v
def Qie (y:qD):im:=⟨uoF y.h,QoF y.v⟩
def QcJ:bp D:=⟨20,qD,QoI,o6,λy=>[Fj y.v.p,swA y],λ_=>[],λ_=>.tuple [.ptr 0 0,.num .i64 0],λy=>FT 0 5 7 (Qie y),0,8⟩
def u0 (y:qD×Int):Bool:=jX y.1.v&&aE (ay .i64 y.1.v.m (ab y.1.h)) y.2
def QcK:bp D:=cq 41 (qD×Int) (λa s=>match a with
 | [p,v,n]=>aB (QoH p v s) λy=>aP (cQ n) λ_ n=>.ret (y,n)
 | _=>.fail) (λy=>NO y.1) (λy=>[Fj y.1.v.p,swA y.1,Qyy y.2]) λy=>.bool (u0 y)
end
end sx
end Go.Proofs.YtfkmlhnhkdbjeaaGreat
