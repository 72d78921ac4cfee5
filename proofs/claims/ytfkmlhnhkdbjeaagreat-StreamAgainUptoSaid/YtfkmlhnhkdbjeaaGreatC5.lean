/- StreamAgain: a part of the proof. -/
import Derived.Test.YtfkmlhnhkdbjeaaGreatC4
import Derived.Test.YtfkmlhnhkdbjeaaGreatC3
set_option linter.all false
namespace Go.Proofs.YtfkmlhnhkdbjeaaGreat
open Go.Proofs.Tryz
set_option maxRecDepth 100000
set_option maxHeartbeats 4000000
namespace sx
noncomputable section
open Go Go.RowKit cls syn
variable {y:PS} {G:List Gt} {l:List Rg}
def ϩ (y:PS) (x:cm×List Rg×Bool):Prop:=bF (y.1,x.1)/\(nn x.1).an=(nn y.2).an/\x.2.1.length<=8*(nn x.1).i+(if x.1.au=0 then 0 else 8)/\∃n,(x.1.au=0->y.1.length+2<=n+(nn x.1).i)/\
 eh y.1 (nn y.2).i n (nn x.1) x.2.1 x.2.2=eh y.1 (nn y.2).i (y.1.length+2-(bt y.1 (nn y.2).next 94).i) (bt y.1 (nn y.2).next 94) [] true
def QgT (y:PS) (x:cm×List Rg×Bool):Nat:=2*(y.1.length-(nn x.1).i)+(if x.1.au=0 then 1 else 0)
def Jl:bp D:=yq 174 PS (λy=>y) O6 HD (λ_=>[]) (λy=>zz (tg y.1 (nn y.2)).1) λy=>.list 7 (tg y.1 (nn y.2)).2
def QsI (y:Jl.Y):dj D:=⟨[],[],[(508,⟨cm×List Rg×Bool,[0,3,4],λx=>[(5,.grow 6 x.2.1 1),(6,.bool x.2.2)],[],λx=>psO y.1 x.1++[(1,.tok 6 278)],2,ϩ y,QgT y⟩)],[],1,[]⟩
def qf (y:PS):Ps×By×Bool:=
 if gZ y.1 (nn y.2).next/\bd y.1 (dK y.1 (nn y.2).next) 44=true then(dK y.1 (dK y.1 (nn y.2).next).next,ie y.1 (dK y.1 (nn y.2).next).next,!gZ y.1 (dK y.1 (nn y.2).next).next)
 else(dK y.1 (nn y.2).next,ie y.1 (nn y.2).next,false)
def Jm:bp D:=yq 152 PS (λy=>y) O6 HD (λ_=>[]) (λy=>zz (gP y.1 (nn y.2)).1) λy=>.tuple [Qyy (gP y.1 (nn y.2)).2.1,Qyy (gP y.1 (nn y.2)).2.2]
def QsK (y:Jm.Y):dj D:=⟨[],[],[],[(63,⟨Unit,[0,4,5,6],λ_=>[(7,.str (qf y).2.1),(8,.bool (qf y).2.2)],[],λ_=>psO y.1 (zz (qf y).1),1,λ_=>True,λ_=>0⟩)],1,[]⟩
def Ux (y:(List (Int×Int))×cm):Prop:=let b:=tg y.1 (nn y.2);let q1:=ay .i64 y.2.i 1;let o:=((b.1.i:Nat):Int);let s:=((b.1.an:Nat):Int);let t:=((b.1.ae:Nat):Int);let q:=cm.mk q1 y.2.an y.2.ae y.2.au y.2.wh;let k:=bt y.1 (nn q) 94;let r:=bd y.1 (nn q) 94;let l:=λp:Prop=>aa [y.1] (aa [bU y.1] p);let u:Prop:=(0<=y.2.i/\(y.2.i<(y.1.length:Int)));Iv (bF (y.1,q)/\True)/\aa ([94]:List Int) (aa [y.1] (aa [bU y.1] (aa [q1,y.2.an,y.2.ae,y.2.au,y.2.wh] ((∃z:cm×(List (Int×Int))×Bool,aa [y.2.i] (aa [r] ([]=z.2.1/\true=z.2.2/\l (((k.i:Nat):Int)=z.1.i/\((k.an:Nat):Int)=z.1.an/\((k.ae:Nat):Int)=z.1.ae/\k.au=z.1.au/\k.wh=z.1.wh/\(Iv (ϩ y z))))))/\(∀x:cm×(List (Int×Int))×Bool,let d:=aY x.2.1;let e:=aE x.1.au 0;let a:=eD y.1 (nn x.1);let m:=aM (ab y.1) x.1.i;let n:=!(bd y.1 (nn x.1) 93);let c:=Ps.aA y.1 (nn x.1) y.2.i.toNat 4;let f:Prop:=(x.1.an=s/\x.1.ae=t/\x.1.au=b.1.au/\x.1.wh=b.1.wh/\True);let g:Prop:=(l (ay .i64 x.1.i 1=o/\f));let h:Prop:=(Iv (bF (y.1,x.1)/\u)/\aa ([y.2.i,4]:List Int) (aa [y.1] (aa [bU y.1] (aa [x.1.i,x.1.an,x.1.ae,x.1.au,x.1.wh] ([]=b.2/\l (((c.i:Nat):Int)=o/\((c.an:Nat):Int)=s/\((c.ae:Nat):Int)=t/\c.au=b.1.au/\c.wh=b.1.wh/\True))))));let j:Prop:=(aj (!e) ([]=b.2/\l (x.1.i=o/\f)) (aj x.2.2 (h) (Iv (x.2.1.length<=100000000)/\aa [x.2.1] (aj r (Iv (d.length<=1000000)/\aa [d] (([Nd.mk 2 (l9 d) 0 0 false 0 0]:List Nd)=b.2/\g)) (([Nd.mk 2 d 0 0 false 0 0]:List Nd)=b.2/\g)))));(Iv (ϩ y x))->aj e (Iv (bF (y.1,x.1)/\True)/\aa ([93]:List Int) (aa [y.1] (aa [bU y.1] (aa [x.1.i,x.1.an,x.1.ae,x.1.au,x.1.wh] (aj n (aa [x.1.i] (aa [y.1] (aj m (h) (Iv (bF (y.1,x.1)/\HD (y.1,x.1))/\aa [y.1] (aa [bU y.1] (aa [x.1.i,x.1.an,x.1.ae,x.1.au,x.1.wh] (ba (ab (bn x.2.1 a.2)) 8/\∃z:cm×(List (Int×Int))×Bool,aa [y.2.i] (aa [r] (bn x.2.1 a.2=z.2.1/\false=z.2.2/\l (((a.1.i:Nat):Int)=z.1.i/\((a.1.an:Nat):Int)=z.1.an/\((a.1.ae:Nat):Int)=z.1.ae/\a.1.au=z.1.au/\a.1.wh=z.1.wh/\(Iv (ϩ y z/\QgT y z<QgT y x)))))))))))) (j)))))) (j))))))
def Uy (y:(List (Int×Int))×cm):Prop:=let f:=(qf y).1;let q1:=y.2.i.toNat;let R:=y.1.length;let H:=(qf y).2.2;let A:=(qf y).2.1;let U:=((y.2.ae.toNat:Nat):Int);let V:=((y.2.an.toNat:Nat):Int);let L:=((f.an:Nat):Int);let M:=((f.i:Nat):Int);let N:=((f.ae:Nat):Int);let a:=gP y.1 (nn y.2);let m:=ay .i64 y.2.i 1;let n:=((a.1.an:Nat):Int);let o:=((a.1.ae:Nat):Int);let q:=((a.1.i:Nat):Int);let D:=cm.mk m y.2.an y.2.ae y.2.au y.2.wh;let b:=ie y.1 (nn D);let E:=gZ y.1 (nn D);let g:=cm.mk M L N f.au f.wh;let F:=((cB y.1 (R-m.toNat) m.toNat []).1:Int);let c:=bt y.1 (nn g) 125;let S:=!(bd y.1 (nn g) 125);let r:=((c.an:Nat):Int);let s:=((c.ae:Nat):Int);let t:=((c.i:Nat):Int);let h:=Ps.aA y.1 (nn g) q1 4;let G:=cm.mk F V U y.2.au y.2.wh;let d:=bt y.1 (nn G) 44;let T:=bd y.1 (nn G) 44;let u:=((d.an:Nat):Int);let v:=((d.ae:Nat):Int);let j:=((d.i:Nat):Int);let w:=cm.mk t r s c.au c.wh;let k:=Ps.aA y.1 (nn w) q1 4;let l:=Ps.aA y.1 (nn w) q1 2;let I:=cm.mk j u v d.au d.wh;let e:=λp:Prop=>aa [y.1] (aa [bU y.1] p);let K:=λp:Prop=>aa [y.2.i] (aa [b] (aa [E] p));let J:Prop:=(0<=y.2.i/\(y.2.i<(R:Int)));let O:Prop:=(d.au=f.au/\d.wh=f.wh/\(Iv True));let B:Prop:=(e (t=q/\r=n/\s=o/\c.au=a.1.au/\c.wh=a.1.wh/\True));let C:Prop:=(Iv (bF (y.1,w)/\J)/\aa ([y.2.i,2]:List Int) (aa [y.1] (aa [bU y.1] (aa [t,r,s,c.au,c.wh] (0=a.2.1/\0=a.2.2/\e (((l.i:Nat):Int)=q/\((l.an:Nat):Int)=n/\((l.ae:Nat):Int)=o/\l.au=a.1.au/\l.wh=a.1.wh/\True))))));let P:Prop:=(Iv (bF (y.1,w)/\J)/\aa ([y.2.i,4]:List Int) (aa [y.1] (aa [bU y.1] (aa [t,r,s,c.au,c.wh] (0=a.2.1/\0=a.2.2/\e (((k.i:Nat):Int)=q/\((k.an:Nat):Int)=n/\((k.ae:Nat):Int)=o/\k.au=a.1.au/\k.wh=a.1.wh/\True))))));let Q:Prop:=(Iv (lJ b)/\aa [b] (aj H (Iv (lJ [])/\aa ([[]]:List (List UInt8)) (aj (!(e_ b).2) (C) (aj (!(decide (iy []<=30))) (C) (aj H ((e_ b).1=a.2.1/\(-1)=a.2.2/\B) ((e_ b).1=a.2.1/\iy []=a.2.2/\B))))) (Iv (lJ A)/\aa [A] (aj (!(e_ b).2) (C) (aj (!(e_ A).2) (C) (aj H ((e_ b).1=a.2.1/\(-1)=a.2.2/\B) ((e_ b).1=a.2.1/\(e_ A).1=a.2.2/\B)))))));Iv (bF (y.1,D)/\True)/\aa [y.1] (aa [bU y.1] (aa [m,y.2.an,y.2.ae,y.2.au,y.2.wh] ((aj E (Iv (bF (y.1,G)/\True)/\aa ([44]:List Int) (aa [y.1] (aa [bU y.1] (aa [F,V,U,y.2.au,y.2.wh] (aj T (Iv (bF (y.1,I)/\True)/\aa [y.1] (aa [bU y.1] (aa [j,u,v,d.au,d.wh] (∃z:Unit,K (ie y.1 (nn I)=A/\(!(gZ y.1 (nn I)))=H/\e (((cB y.1 (R-j.toNat) j.toNat []).1:Int)=M/\((u.toNat:Nat):Int)=L/\((v.toNat:Nat):Int)=N/\O)))))) (∃z:Unit,K (b=A/\false=H/\e (j=M/\u=L/\v=N/\O)))))))) (∃z:Unit,K (b=A/\false=H/\e (F=M/\V=L/\U=N/\y.2.au=f.au/\y.2.wh=f.wh/\(Iv True)))))/\(∀x:Unit,(Iv True)->aj (!E) (Iv (bF (y.1,g)/\J)/\aa ([y.2.i,4]:List Int) (aa [y.1] (aa [bU y.1] (aa [M,L,N,f.au,f.wh] (0=a.2.1/\0=a.2.2/\e (((h.i:Nat):Int)=q/\((h.an:Nat):Int)=n/\((h.ae:Nat):Int)=o/\h.au=a.1.au/\h.wh=a.1.wh/\True)))))) (Iv (bF (y.1,g)/\True)/\aa ([125]:List Int) (aa [y.1] (aa [bU y.1] (aa [M,L,N,f.au,f.wh] (aj S (P) (aj (!H) (Iv True/\aa [A] (aa [b] (aj (iS A b) (P) (Q)))) (Q)))))))))))
def dz (G:List Gt) (i o g e w:Int):nn ⟨((cB G (G.length-i.toNat) i.toNat []).1:Nat),(o.toNat:Nat),(g.toNat:Nat),e,w⟩=dK G (nn ⟨i,o,g,e,w⟩):=rfl
def pno (s:cm):s.an.toNat=(nn s).an:=rfl
def png (s:cm):s.ae.toNat=(nn s).ae:=rfl
def nne (s:cm):(nn s).au=s.au:=rfl
def nnw (s:cm):(nn s).wh=s.wh:=rfl
@[simp] theorem nxw (s:Ps):s.next.wh=s.wh:=rfl
def dgo (G:List Gt) (s:Ps):(dK G s).an=s.an:=rfl
def dgg (G:List Gt) (s:Ps):(dK G s).ae=s.ae:=rfl
def dge (G:List Gt) (s:Ps):(dK G s).au=s.au:=rfl
def dgw (G:List Gt) (s:Ps):(dK G s).wh=s.wh:=rfl
def dzi (G:List Gt) (s:Ps):(cB G (G.length-s.i) s.i []).1=(dK G s).i:=rfl
def pni (s:cm):s.i.toNat=(nn s).i:=rfl
def bF.Ϭ (h:bF y) (hi:y.2.i<y.1.length):ay .i64 y.2.i 1=y.2.i+1/\nn ⟨y.2.i+1,y.2.an,y.2.ae,y.2.au,y.2.wh⟩=(nn y.2).next/\(nn y.2).i<y.1.length/\gJ y.1 (nn y.2) (nn y.2).next/\bF (y.1,⟨y.2.i+1,y.2.an,y.2.ae,y.2.au,y.2.wh⟩):=by
 obtain⟨a,a2,a3,a4,b⟩:=id h;have hl:(nn y.2).i<y.1.length:=by show y.2.i.toNat<_;omega
 have c:((y.1,(⟨y.2.i+1,y.2.an,y.2.ae,y.2.au,y.2.wh⟩:cm)):PS).1.length=y.1.length:=rfl;exact⟨bA ω ω,tu a2.1,hl,h.adv.next hl,a,⟨show 0<=y.2.i+1 by omega,show y.2.i+1<=(y.1.length:Int) by omega⟩,a3,a4,b⟩
theorem yz:∀(n i:Nat) (b:By),lJ b->lJ (cB G n i b).2
 | 0,_,_,h=>h
 | n+1,i,b,h=>by
  unfold cB;split
  ·rename_i e
   refine yz n _ _ ?_;split
   ·intro c a;rcases Zax.1 a with d | d
    ·exact h c d
    ·grind [UInt8.toNat_ofNat']
   ·exact h
  ·exact h
theorem q_ (G:List Gt) (s:Ps):lJ (ie G s):=yz _ _ _ λc h=>by cases h
theorem QgU (y:PS):gP y.1 (nn y.2)=oz y.1 (nn y.2).i (qf y).1 (ie y.1 (nn y.2).next) (qf y).2.1 (gZ y.1 (nn y.2).next) (qf y).2.2:=by
 grind [gP,qf]
theorem QsO (y:PS) (n:Jm.pre y):Uy y:=by
 obtain⟨h0,hi⟩:bF y/\y.2.i<y.1.length:=n;obtain⟨l,f,hl,k,o1⟩:=h0.Ϭ hi;have i0:0<=y.2.i:=h0.2.1.1;have c:=(ti k).1;have g:=c.skip 44;have q:=h0.of c;have os:=h0.of g;have e:gJ y.1 (nn y.2) (qf y).1:=by
  unfold qf;split
  ·rename_i h
   exact(ti (c.next (dy h.2))).1
  ·exact c
 have r:=h0.of e;have d:=h0.of (e.skip 125);have g1:=q_ y.1 (nn y.2).next;have g2:lJ (qf y).2.1:=by grind [qf,q_]
 have w:iy []=0:=rfl;have g0:lJ []:=λ_ h=>nomatch h
 have o:gZ y.1 (nn y.2).next->bd y.1 (dK y.1 (nn y.2).next) 44->qf y=(dK y.1 (dK y.1 (nn y.2).next).next,ie y.1 (dK y.1 (nn y.2).next).next,!gZ y.1 (dK y.1 (nn y.2).next).next):=λa b=>Zac ⟨a,b⟩
 have p:¬(gZ y.1 (nn y.2).next/\bd y.1 (dK y.1 (nn y.2).next) 44)->qf y=(dK y.1 (nn y.2).next,ie y.1 (nn y.2).next,false):=λa=>Zaa a
 have k1:bd y.1 (dK y.1 (nn y.2).next) 44->bt y.1 (dK y.1 (nn y.2).next) 44=(dK y.1 (nn y.2).next).next:=λh=>Zac h
 have k2:bd y.1 (dK y.1 (nn y.2).next) 44=false->bt y.1 (dK y.1 (nn y.2).next) 44=dK y.1 (nn y.2).next:=λh=>Zaa (by grind)
 have s:(cB y.1 (y.1.length-(y.2.i+1).toNat) (y.2.i+1).toNat []).1=(dK y.1 (nn y.2).next).i:=by rw[<-f];rfl
 have v:(nn y.2).next.wh=y.2.wh:=rfl;have z2:nn ⟨(dK y.1 (nn y.2).next).i,(nn y.2).an,(nn y.2).ae,y.2.au,y.2.wh⟩=dK y.1 (nn y.2).next:=rfl;unfold Uy;simp only[bj,l,f,dz,ez,ZaX,ZaY,ZaZ,s,z2,Zad,dzi,pni,pno,png,QgU];refine⟨o1,?_,?_⟩
 ·clear r d g1 g2
  with_reducible repeat' first | apply And.intro | intro _
  all_goals first
   | assumption
   | (simp_all [dgo,dgg,dge,dgw,nne,nnw];done)
 ·clear o p k1 k2 q os c g;generalize qf y=j at*
  have t:bd y.1 j.1 125->bt y.1 j.1 125=j.1.next:=λh=>Zac h
  have u:bd y.1 j.1 125=false->bt y.1 j.1 125=j.1:=λh=>Zaa (by grind)
  generalize gZ y.1 (nn y.2).next=ok at*
  generalize ie y.1 (nn y.2).next=m at*
  with_reducible repeat' first | apply And.intro | intro _
  all_goals first
   | assumption
   | (simp_all [oz,e_];done)
def Qlc (a:Ok yy):Ok Jm:=okZ [yy,uE,rH,O5,Je] f152 QsK ⟨a,Bp,vG,QkS,QkV⟩ QsO
theorem Jn {a n:Nat} {s:Ps} {b:Bool} (h:s.au≠0\/bd G s 93):eh G a n s l b=(s,l,b,false):=by
 cases n with
 | zero=>rfl
 | succ n=>
  grind [eh]
theorem O9 {one:Bool} {b:Nat} {s:Ps}:(kG G l one b s).1.au≠0->(kG G l one b s).2=[]:=by
 grind [kG]
theorem ϭ {G:List Gt} {s:Ps} (h:(eD G s).1.au≠0):(eD G s).2=[]:=by
 grind [eD,O9]
theorem QsP (y:PS) (B:Jl.pre y):Ux y:=by
 obtain⟨h0,hi⟩:bF y/\y.2.i<y.1.length:=B;obtain⟨r,u,hl,v,o1⟩:=h0.Ϭ hi;have i0:0<=y.2.i:=h0.2.1.1;have e:=v.skip 94;have os:=h0.of e;unfold Ux;simp only[bN,bj,r,u,dz,ez,ZaX,ZaY,ZaZ,pni,aw,a_,bq];refine⟨o1,⟨⟨zz (bt y.1 (nn y.2).next 94),[],true⟩,rfl,rfl,rfl,rfl,rfl,rfl,rfl,os,e.op,by simp,_,λ_=>?_,rfl⟩,λx A=>?_⟩
 ·have:=e.len;show _<=_+(bt y.1 (nn y.2).next 94).i
  omega
 ·obtain⟨s,l,b⟩:=x;obtain⟨c,k,D,n,d,g⟩:=A;simp only at*
  have a2:gJ y.1 (nn s) (nn s):=c.adv;obtain⟨b1,o,p,q,_⟩:y.1.length<=4096/\(0<=s.i/\s.i<=y.1.length)/\(0<=s.an/\s.an<=20)/\(0<=s.ae/\s.ae<=4)/\_:=id c;have E:(nn s).i<=y.1.length:=a2.len;have zi:((nn s).i:Int)=s.i:=Zby o.1;have zo:((nn s).an:Int)=s.an:=Zby p.1;have zg:((nn s).ae:Int)=s.ae:=Zby q.1;have w:tg y.1 (nn y.2)=(if (eh y.1 (nn y.2).i n (nn s) l b).2.2.2 then((eh y.1 (nn y.2).i n (nn s) l b).1,[]) else if (eh y.1 (nn y.2).i n (nn s) l b).1.au≠0 then((eh y.1 (nn y.2).i n (nn s) l b).1,[]) else if (eh y.1 (nn y.2).i n (nn s) l b).2.2.1 then((eh y.1 (nn y.2).i n (nn s) l b).1.aA y.1 (nn y.2).i 4,[])
   else((eh y.1 (nn y.2).i n (nn s) l b).1.next,[xZ (if bd y.1 (nn y.2).next 94 then l9 (aY (eh y.1 (nn y.2).i n (nn s) l b).2.1) else aY (eh y.1 (nn y.2).i n (nn s) l b).2.1)])):=by rw[g];rfl
  have cs:s.au≠0\/bd y.1 (nn s) 93->eh y.1 (nn y.2).i n (nn s) l b=(nn s,l,b,false):=λh=>Jn h
  have f:s.au=0->∃m,n=m+1:=λh=>⟨n-1,ω⟩
  have F:y.1.length<=4096:=b1;have G:(aY l).length<=2*l.length:=qR l;have b8:l.length<=40000:=by grind
  have H:bd y.1 (nn s) 93->ay .i64 s.i 1=s.i+1:=λh=>bA ω ω
  refine⟨λa=>⟨c,λz=>⟨λt=>⟨⟨c,i0,hi⟩,?_⟩,λt=>⟨⟨c,t⟩,?_⟩⟩,λz=>?_⟩,λa=>?_⟩
  ·obtain⟨m,rfl⟩:=f a;have:eh y.1 (nn y.2).i (m+1) (nn s) l b=((nn s).aA y.1 (nn y.2).i 4,l,b,true):=by
    unfold eh;rw[Zac ⟨a,by grind⟩,Zac ω]
   grind
  ·obtain⟨m,rfl⟩:=f a;have j:(nn s).i<y.1.length:=ω;obtain⟨c1,c2,c3⟩:=kY a2 j;have c4:(nn s).i<=(eD y.1 (nn s)).1.i:=c1.le;have c5:=c1.len;have c6:=@ϭ y.1 (nn s);have C:(l++(eD y.1 (nn s)).2).length<=8*(eD y.1 (nn s)).1.i+(if (eD y.1 (nn s)).1.au=0 then 0 else 8):=by
    grind
   have hlen:(l++(eD y.1 (nn s)).2).length<=40000:=by grind
   refine⟨ω,⟨zz (eD y.1 (nn s)).1,l++(eD y.1 (nn s)).2,false⟩,rfl,rfl,rfl,rfl,rfl,rfl,rfl,⟨c.of c1,c1.op.trans k,C,m,λh=>?_,?_⟩,?_⟩
   ·have:=c2 h;have:=d a;show _<=m+(eD y.1 (nn s)).1.i;omega
   ·rw[<-g]
    conv=>rhs;unfold eh
    rw[Zac ⟨a,by grind⟩,Zaa ω];rfl
   ·show 2*(y.1.length-(eD y.1 (nn s)).1.i)+(if (eD y.1 (nn s)).1.au=0 then 1 else 0)<2*(y.1.length-(nn s).i)+(if s.au=0 then 1 else 0)
    grind
  all_goals
   rw[cs (by first | exact .inl a | exact .inr (by grind))] at w;clear g cs f D d u r e os b1 o p q
   with_reducible repeat' first | apply And.intro | intro _
   all_goals first
    | assumption
    | omega
    | (simp_all [nne,nnw,xZ,nd,vD];done)
    | (simp_all [nne,nnw,xZ,nd,vD];omega)
def Qld (a:Ok cW):Ok Jl:=okZ [uE,Zl,rH,Us,cW,IT] f174 QsI ⟨Bp,isOk,vG,Qk6 a,a,Qd1 a⟩ QsP
def iF (y:PS):Ps->Ps×List Nd:=r6 y.1 (20-(nn y.2).an)
def lvl (y:PS):Nat:=5*(20-(nn y.2).an)
def Uz (f:FuncId) (pre:PS->Prop) (F:PS->Ps×List Nd):bp D:=yq f PS (λy=>y) O6 pre (λ_=>[]) (λy=>zz (F y).1) λy=>.list 7 (F y).2
def sf (y:PS):Ps×List Nd:=r6 y.1 (21-(nn y.2).an) (nn y.2)
def nM (y:PS):Ps×List Nd:=nw y.1 (iF y) (nn y.2)
def Af (y:PS):Ps×List Nd:=fR y.1 (iF y) (nn y.2)
def ec (y:PS):Ps×List Nd:=jG y.1 (iF y) (nn y.2)
def nN (y:PS):Ps×List Nd:=iH y.1 (iF y) (nn y.2)
def Jo:bp D:=Uz 51 (λ_=>True) sf
def O':bp D:=Uz 89 (λ_=>True) nM
def O_:bp D:=Uz 125 HD Af
def UA:bp D:=Uz 151 HD ec
def UB:bp D:=Uz 173 HD nN
def fmT (n:Nat):vU:=[Jo.under (λy=>lvl y+4) n,O'.under (λy=>lvl y+3) n,O_.under (λy=>lvl y+2) n,UA.under (λy=>lvl y+1) n,UB.under (λy=>lvl y) n]
def fmW (l:vU) (i:Nat) (fn:Func) (k:bp D) (a:k.Y->dj D) (n:Nat) (y:k.Y):Prop:=vc (fmT (n+i)++l) fn k a y
def Qek (G:List Gt) (s:cm):List (Nat×AO D.E):=psO G s++[(1,.tok 9 87)]
def Ϯ (y:PS) (x:cm×List (List Nd)):Prop:=bF (y.1,x.1)/\(nn x.1).an=(nn y.2).an/\(nn y.2).i<=(nn x.1).i/\0<x.2.length/\total x.2+2*x.2.length<=3*((nn x.1).i-(nn y.2).i)+3/\∃n,(x.1.au=0->y.1.length+2<=n+(nn x.1).i)/\
 gQ y.1 (iF y) n (nn x.1) x.2=gQ y.1 (iF y) (y.1.length+2-(nM y).1.i) (nM y).1 [(nM y).2]
def FL (y:PS) (x:cm×List (List Nd)):Nat:=2*(y.1.length-(nn x.1).i)+(if x.1.au=0 then 1 else 0)
def Qlf (y:Jo.Y):dj D:=⟨[],[],[(28,⟨cm×List (List Nd),[0],λx=>[(3,.grow 9 x.2 1)],[],λx=>Qek y.1 x.1,2,Ϯ y,FL y⟩)],[],1,[]⟩
def QsQ (y:Jo.Y):Prop:=fmW [uE,Ad] 4 f51 Jo Qlf (lvl y) y
def UC (y:PS) (x:cm×List (List Nd)):Prop:=bF (y.1,x.1)/\(nn x.1).an=(nn y.2).an/\(nn y.2).i<=(nn x.1).i/\total x.2<=3*((nn x.1).i-(nn y.2).i)/\x.2.length<=(nn x.1).i-(nn y.2).i+(if x.1.au=0 then 0 else 1)/\∃n,(x.1.au=0->y.1.length+2<=n+(nn x.1).i)/\
 ff y.1 (iF y) n (nn x.1) x.2=ff y.1 (iF y) (y.1.length+2-(nn y.2).i) (nn y.2) []
def Qlg (y:O'.Y):dj D:=⟨[],[],[(28,⟨cm×List (List Nd),[0],λx=>[(3,.grow 9 x.2 1)],[],λx=>Qek y.1 x.1,2,UC y,FL y⟩)],[],1,[]⟩
def QsR (y:O'.Y):Prop:=fmW [Zl,Ad] 3 f89 O' Qlg (lvl y) y
def qg (y:PS):Ps×Int×Int:=if bd y.1 (ec y).1 42 then((ec y).1.next,0,-1) else if bd y.1 (ec y).1 43 then((ec y).1.next,1,-1) else if bd y.1 (ec y).1 63 then((ec y).1.next,0,1) else gP y.1 (ec y).1
def vY (y:PS):Prop:=(ec y).1.au=0/\(bd y.1 (ec y).1 42\/bd y.1 (ec y).1 43\/bd y.1 (ec y).1 63\/bd y.1 (ec y).1 123)
def Qlh (y:O_.Y):dj D:=⟨[],[],[],[(31,⟨Unit,[0,3],λ_=>[(4,.ptr 1 0)],[],λ_=>psO y.1 (zz (qg y).1)++[(1,.cells [Qyy 5,.dc,Qyy (qg y).2.1,Qyy (qg y).2.2,.bool false,Qyy 0,Qyy 1] 149 false)],2,λ_=>vY y,λ_=>0⟩)],1,[]⟩
def QsS (y:O_.Y):Prop:=fmW [uE,Zl,Jm] 2 f125 O_ Qlh (lvl y) y
def QsT (y:UA.Y):Prop:=fmW [Ac,rH,Jl,Ae,Uc,FJ] 1 f151 UA (λ_=>dk ()) (lvl y) y
def QsU (y:UB.Y):Prop:=fmW [uE,rH] 0 f173 UB (λ_=>dk ()) (lvl y) y
def UD (y:(List (Int×Int))×cm):Prop:=let c:=(sf y).1;let q1:=((c.i:Nat):Int);let o:=((c.an:Nat):Int);let q:=((c.ae:Nat):Int);let n:=(y.1,y.2);let g:=ff y.1 (iF n) ((y.1.length+2) -y.2.i.toNat) (nn y.2) [];let m:=λp:Prop=>aa [y.1] (aa [bU y.1] p);Iv ((bF n/\True)/\(lvl n+3)<(lvl y+4))/\aa [y.1] (aa [bU y.1] (aa [y.2.i,y.2.an,y.2.ae,y.2.au,y.2.wh] ((∃z:cm×(List (List Nd)),([b9 3 g.2]:List (List Nd))=z.2/\m (((g.1.i:Nat):Int)=z.1.i/\((g.1.an:Nat):Int)=z.1.an/\((g.1.ae:Nat):Int)=z.1.ae/\g.1.au=z.1.au/\g.1.wh=z.1.wh/\(Iv (Ϯ y z))))/\(∀x:cm×(List (List Nd)),let b:=bt y.1 (nn x.1) 124;let r:=bd y.1 (nn x.1) 124;let l:=((b.i:Nat):Int);let d:=((b.ae:Nat):Int);let e:=((b.an:Nat):Int);let h:=cm.mk l e d b.au b.wh;let f:=(y.1,h);let a:=ff y.1 (iF f) ((y.1.length+2) -l.toNat) (nn h) [];let j:=bn x.2 [b9 3 a.2];let k:=λp:Prop=>aa ([4]:List Int) (aa [x.2] p);(Iv (Ϯ y x))->aj (aE x.1.au 0) (Iv (bF (y.1,x.1)/\True)/\aa ([124]:List Int) (aa [y.1] (aa [bU y.1] (aa [x.1.i,x.1.an,x.1.ae,x.1.au,x.1.wh] (aj r (Iv ((bF f/\True)/\(lvl f+3)<(lvl y+4))/\aa [y.1] (aa [bU y.1] (aa [l,e,d,b.au,b.wh] (ba (ab j) 24/\∃z:cm×(List (List Nd)),j=z.2/\m (((a.1.i:Nat):Int)=z.1.i/\((a.1.an:Nat):Int)=z.1.an/\((a.1.ae:Nat):Int)=z.1.ae/\a.1.au=z.1.au/\a.1.wh=z.1.wh/\(Iv (Ϯ y z/\FL y z<FL y x))))))) (Iv (total x.2<=100000/\x.2.length<=100000)/\k (b9 4 x.2=(sf y).2/\m (l=q1/\e=o/\d=q/\b.au=c.au/\b.wh=c.wh/\True)))))))) (Iv (total x.2<=100000/\x.2.length<=100000)/\k (b9 4 x.2=(sf y).2/\m (x.1.i=q1/\x.1.an=o/\x.1.ae=q/\x.1.au=c.au/\x.1.wh=c.wh/\True)))))))
def ϯ:∀y,UD y=QsQ y:=λy=>by kernel_rfl
def UE (y:(List (Int×Int))×cm):Prop:=let e:=ff y.1 (iF y) ((y.1.length+2) -y.2.i.toNat) (nn y.2) [];let q1:=((e.1.an:Nat):Int);let k:=((e.1.ae:Nat):Int);let l:=((e.1.i:Nat):Int);let m:=b9 3 e.2;let j:=λp:Prop=>aa [y.1] (aa [bU y.1] p);(∃z:cm×(List (List Nd)),[]=z.2/\j (y.2.i=z.1.i/\y.2.an=z.1.an/\y.2.ae=z.1.ae/\y.2.au=z.1.au/\y.2.wh=z.1.wh/\(Iv (UC y z))))/\(∀x:cm×(List (List Nd)),let n:=!(aD 0 x.1.an);let o:=aD x.1.i (ab y.1);let c:=(y.1,x.1);let q:=bd y.1 (nn x.1) 41;let h:=!(bd y.1 (nn x.1) 124);let a:=(Af c).1;let f:=bn x.2 [(Af c).2];let d:=λp:Prop=>aa [x.1.au,x.1.i] (aa [y.1] p);let b:Prop:=(Iv (total x.2<=100000/\x.2.length<=100000)/\aa ([3]:List Int) (aa [x.2] (b9 3 x.2=m/\j (x.1.i=l/\x.1.an=q1/\x.1.ae=k/\x.1.au=e.1.au/\x.1.wh=e.1.wh/\True))));let g:Prop:=(Iv ((bF c/\HD c)/\(lvl c+2)<(lvl y+3))/\aa [y.1] (aa [bU y.1] (aa [x.1.i,x.1.an,x.1.ae,x.1.au,x.1.wh] (ba (ab f) 24/\∃z:cm×(List (List Nd)),f=z.2/\j (((a.i:Nat):Int)=z.1.i/\((a.an:Nat):Int)=z.1.an/\((a.ae:Nat):Int)=z.1.ae/\a.au=z.1.au/\a.wh=z.1.wh/\(Iv (UC y z/\FL y z<FL y x)))))));(Iv (UC y x))->aj (aE x.1.au 0) (aj o (Iv (bF c/\True)/\aa ([124]:List Int) (aa [y.1] (aa [bU y.1] (aa [x.1.i,x.1.an,x.1.ae,x.1.au,x.1.wh] (aj h (Iv (bF c/\True)/\aa ([41]:List Int) (aa [y.1] (aa [bU y.1] (aa [x.1.i,x.1.an,x.1.ae,x.1.au,x.1.wh] (aj q (aa [x.1.au,x.1.i] (aa [y.1] (aa [x.1.an] (aj n (g) (b))))) (d (g))))))) (d (b))))))) (d (b))) (aa [x.1.au] (b)))
def ϰ:∀y,UE y=QsR y:=λy=>by kernel_rfl
def UF (y:(List (Int×Int))×cm):Prop:=let O:=(Af y).2;let q1:=(Af y).1;let e:=(qg y).1;let M:=(qg y).2.2;let P:=((q1.an:Nat):Int);let Q:=((q1.i:Nat):Int);let R:=((q1.ae:Nat):Int);let N:=(qg y).2.1;let J:=((e.an:Nat):Int);let K:=((e.ae:Nat):Int);let f:=((e.i:Nat):Int);let h:=(y.1,y.2);let b:=(ec h).1;let s:=(ec h).2;let t:=((b.ae:Nat):Int);let u:=((b.i:Nat):Int);let v:=((b.an:Nat):Int);let w:=cm.mk f J K e.au e.wh;let j:=bt y.1 (nn w) 63;let A:=cm.mk u v t b.au b.wh;let L:=bn [Nd.mk 5 [] N M (bd y.1 (nn w) 63) 0 1] s;let S:=bd y.1 (nn A) 42;let c:=bt y.1 (nn A) 42;let B:=((c.an:Nat):Int);let C:=((c.ae:Nat):Int);let D:=((c.i:Nat):Int);let E:=cm.mk D B C c.au c.wh;let d:=bt y.1 (nn E) 43;let T:=bd y.1 (nn E) 43;let F:=((d.ae:Nat):Int);let G:=((d.an:Nat):Int);let H:=((d.i:Nat):Int);let I:=cm.mk H G F d.au d.wh;let a:=bt y.1 (nn I) 63;let U:=bd y.1 (nn I) 63;let k:=((a.an:Nat):Int);let l:=((a.ae:Nat):Int);let m:=((a.i:Nat):Int);let n:=cm.mk m k l a.au a.wh;let g:=gP y.1 (nn n);let V:=bd y.1 (nn n) 123;let o:=λp:Prop=>aa [y.1] (aa [bU y.1] p);let q:=λp:Prop=>aa ([0,1]:List Int) (aa [y.1] (aa [bU y.1] p));let r:=λp:Prop=>aa [s] (aa ([5]:List Int) p);Iv ((bF h/\HD h)/\(lvl h+1)<(lvl y+2))/\aa [y.1] (aa [bU y.1] (aa [y.2.i,y.2.an,y.2.ae,y.2.au,y.2.wh] (aj (!(aE b.au 0)) ([]=O/\o (u=Q/\v=P/\t=R/\b.au=q1.au/\b.wh=q1.wh/\True)) ((Iv (bF (y.1,A)/\True)/\aa ([42]:List Int) (aa [y.1] (aa [bU y.1] (aa [u,v,t,b.au,b.wh] (aj S (∃z:Unit,r (0=N/\(-1)=M/\false=false/\q (D=f/\B=J/\C=K/\c.au=e.au/\c.wh=e.wh/\(Iv (vY y))))) (Iv (bF (y.1,E)/\True)/\aa ([43]:List Int) (aa [y.1] (aa [bU y.1] (aa [D,B,C,c.au,c.wh] (aj T (∃z:Unit,r (1=N/\(-1)=M/\false=false/\q (H=f/\G=J/\F=K/\d.au=e.au/\d.wh=e.wh/\(Iv (vY y))))) (Iv (bF (y.1,I)/\True)/\aa ([63]:List Int) (aa [y.1] (aa [bU y.1] (aa [H,G,F,d.au,d.wh] (aj U (∃z:Unit,r (0=N/\1=M/\false=false/\q (m=f/\k=J/\l=K/\a.au=e.au/\a.wh=e.wh/\(Iv (vY y))))) (Iv (bF (y.1,n)/\True)/\aa ([123]:List Int) (aa [y.1] (aa [bU y.1] (aa [m,k,l,a.au,a.wh] (aj V (Iv (bF (y.1,n)/\HD (y.1,n))/\aa [y.1] (aa [bU y.1] (aa [m,k,l,a.au,a.wh] (∃z:Unit,r (g.2.1=N/\g.2.2=M/\false=false/\q (((g.1.i:Nat):Int)=f/\((g.1.an:Nat):Int)=J/\((g.1.ae:Nat):Int)=K/\g.1.au=e.au/\g.1.wh=e.wh/\(Iv (vY y)))))))) (s=O/\o (m=Q/\k=P/\l=R/\a.au=q1.au/\a.wh=q1.wh/\True))))))))))))))))))))))/\(∀x:Unit,(Iv (vY y))->aj (!(aE e.au 0)) ([]=O/\o (f=Q/\J=P/\K=R/\e.au=q1.au/\e.wh=q1.wh/\True)) (Iv (bF (y.1,w)/\True)/\aa ([63]:List Int) (aa [y.1] (aa [bU y.1] (aa [f,J,K,e.au,e.wh] (ba (ab L) 72/\L=O/\o (((j.i:Nat):Int)=Q/\((j.an:Nat):Int)=P/\((j.ae:Nat):Int)=R/\j.au=q1.au/\j.wh=q1.wh/\True)))))))))))
def ϱ:∀y,UF y=QsS y:=λy=>by kernel_rfl
def UG (y:(List (Int×Int))×cm):Prop:=let e:=(ec y).1;let q1:=(ec y).2;let s:=y.2.i.toNat;let n:=((e.i:Nat):Int);let o:=((e.ae:Nat):Int);let q:=((e.an:Nat):Int);let k:=eC y.1 (nn y.2);let l:=tg y.1 (nn y.2);let d:=(y.1,y.2);let r:=(nN d).1;let f:=Ps.aA y.1 (nn y.2) s 4;let a:=(gt (0,0) y.1 s).1;let j:=λp:Prop=>aa [y.1] (aa [bU y.1] (aa [y.2.i,y.2.an,y.2.ae,y.2.au,y.2.wh] p));let g:=λp:Prop=>aa [y.1] (aa [bU y.1] p);let h:Prop:=(g (ay .i64 y.2.i 1=n/\y.2.an=q/\y.2.ae=o/\y.2.au=e.au/\y.2.wh=e.wh/\True));let m:Prop:=(g (((k.1.i:Nat):Int)=n/\((k.1.an:Nat):Int)=q/\((k.1.ae:Nat):Int)=o/\k.1.au=e.au/\k.1.wh=e.wh/\True));let c:Prop:=(Iv True/\aa [a] (([Nd.mk 2 (eL a) 0 0 false 0 0]:List Nd)=q1/\h));let b:Prop:=(Iv (bF d/\0<=y.2.i/\y.2.i<(y.1.length:Int))/\aa ([y.2.i,4]:List Int) (aa [y.1] (aa [bU y.1] (aa [y.2.i,y.2.an,y.2.ae,y.2.au,y.2.wh] ([]=q1/\g (((f.i:Nat):Int)=n/\((f.an:Nat):Int)=q/\((f.ae:Nat):Int)=o/\f.au=e.au/\f.wh=e.wh/\True))))));Iv (bF d/\0<=y.2.i/\y.2.i<(y.1.length:Int))/\aa [y.2.i] (aa [y.1] (aa [bU y.1] (aa [y.2.i,y.2.an,y.2.ae,y.2.au,y.2.wh] (aj (fI y.1 s) (b) (aM 0 y.2.i/\aD y.2.i (ab y.1)/\aj (aE a 40) (Iv ((bF d/\HD d)/\lvl d<(lvl y+1))/\j ((nN d).2=q1/\g (((r.i:Nat):Int)=n/\((r.an:Nat):Int)=q/\((r.ae:Nat):Int)=o/\r.au=e.au/\r.wh=e.wh/\True))) (aj (aE a 91) (Iv (bF d/\HD d)/\j (l.2=q1/\g (((l.1.i:Nat):Int)=n/\((l.1.an:Nat):Int)=q/\((l.1.ae:Nat):Int)=o/\l.1.au=e.au/\l.1.wh=e.wh/\True))) (aj (aE a 92) (aj (FK d) (Iv (bF d/\Jf (d,true))/\j (([Nd.mk 2 [] 0 0 false 0 0]:List Nd)=q1/\m)) (Iv (bF d/\Jf (d,false))/\j (([Nd.mk 2 k.2.1 0 0 false 0 0]:List Nd)=q1/\m))) (aj (aE a 46) (Iv True/\([Nd.mk 2 ZY 0 0 false 0 0]:List Nd)=q1/\h) (aj (aE a 94) (([Nd.mk 7 [] 0 0 false 0 0]:List Nd)=q1/\h) (aj (aE a 36) (([Nd.mk 8 [] 0 0 false 0 0]:List Nd)=q1/\h) (aj (aE a 42) (aj (aE a 42) (b) (c)) (aj (aE a 43) (aj (aE a 43) (b) (c)) (aj (aE a 63) (aj (aE a 63) (b) (c)) (aj (aE a 41) (aj (aE a 41) (b) (c)) (aj (aE a 93) (aj (aE a 93) (b) (c)) (aj (aE a 123) (aj (aE a 123) (b) (c)) (aj (aE a 125) (aj (aE a 125) (b) (c)) (aj (aE a 124) (b) (c)))))))))))))))))))
def ϲ:∀y,UG y=QsT y:=λy=>by kernel_rfl
def UH (y:(List (Int×Int))×cm):Prop:=let b:=(nN y).1;let q1:=(nN y).2;let V:=y.2.i.toNat;let A:=((b.an:Nat):Int);let B:=((b.i:Nat):Int);let C:=((b.ae:Nat):Int);let q6:=ay .i64 y.2.i 1;let q7:=cm.mk q6 y.2.an y.2.ae y.2.au y.2.wh;let j:=bt y.1 (nn q7) 63;let q9:=bd y.1 (nn q7) 63;let k:=((j.ae:Nat):Int);let l:=((j.an:Nat):Int);let m:=((j.i:Nat):Int);let G:=ay .i64 k 1;let W:=ay .i64 l 1;let h:=cm.mk m l k j.au j.wh;let a:=bt y.1 (nn h) 58;let q17:=!(bd y.1 (nn h) 58);let o:=((a.ae:Nat):Int);let q:=((a.an:Nat):Int);let r:=((a.i:Nat):Int);let s:=Ps.aA y.1 (nn h) V 10;let t:=Ps.aA y.1 (nn h) V 13;let X:=ay .i64 q 1;let D:=(y.1,cm.mk m W G j.au j.wh);let c:=(sf D).1;let H:=((c.i:Nat):Int);let I:=((c.ae:Nat):Int);let J:=dE .i64 ((c.an:Nat):Int) 1;let E:=bn [Nd.mk 6 [] 0 0 false G 1] (sf D).2;let F:=cm.mk r q o a.au a.wh;let u:=(y.1,cm.mk r X o a.au a.wh);let v:=Ps.aA y.1 (nn F) V 4;let w:=Ps.aA y.1 (nn F) V 10;let d:=(sf u).1;let K:=((d.ae:Nat):Int);let L:=((d.i:Nat):Int);let M:=dE .i64 ((d.an:Nat):Int) 1;let N:=cm.mk H J I c.au c.wh;let f:=bt y.1 (nn N) 41;let q40:=!(bd y.1 (nn N) 41);let O:=((f.ae:Nat):Int);let P:=((f.an:Nat):Int);let Q:=((f.i:Nat):Int);let R:=cm.mk L M K d.au d.wh;let g:=bt y.1 (nn R) 41;let q46:=!(bd y.1 (nn R) 41);let S:=((g.i:Nat):Int);let T:=((g.an:Nat):Int);let U:=((g.ae:Nat):Int);let Y:=cm.mk Q P O f.au f.wh;let x:=Ps.aA y.1 (nn Y) V 4;let Z:=cm.mk S T U g.au g.wh;let z:=Ps.aA y.1 (nn Z) V 4;let e:=λp:Prop=>aa [y.1] (aa [bU y.1] p);let n:Prop:=(0<=y.2.i/\(y.2.i<(y.1.length:Int)));Iv (bF (y.1,q7)/\True)/\aa ([63]:List Int) (aa [y.1] (aa [bU y.1] (aa [q6,y.2.an,y.2.ae,y.2.au,y.2.wh] (aj q9 (Iv (bF (y.1,h)/\True)/\aa ([58]:List Int) (aa [y.1] (aa [bU y.1] (aa [m,l,k,j.au,j.wh] (aj q17 (Iv (bF (y.1,F)/\n)/\aa ([y.2.i,4]:List Int) (aa [y.1] (aa [bU y.1] (aa [r,q,o,a.au,a.wh] ([]=q1/\e (((v.i:Nat):Int)=B/\((v.an:Nat):Int)=A/\((v.ae:Nat):Int)=C/\v.au=b.au/\v.wh=b.wh/\True)))))) (aj (aM 20 q) (Iv (bF (y.1,F)/\n)/\aa ([y.2.i,10]:List Int) (aa [y.1] (aa [bU y.1] (aa [r,q,o,a.au,a.wh] ([]=q1/\e (((w.i:Nat):Int)=B/\((w.an:Nat):Int)=A/\((w.ae:Nat):Int)=C/\w.au=b.au/\w.wh=b.wh/\True)))))) (Iv ((bF u/\True)/\(lvl u+4)<(lvl y+0))/\aa [y.1] (aa [bU y.1] (aa [r,X,o,a.au,a.wh] (aj (aE d.au 0) (Iv (bF (y.1,R)/\True)/\aa ([41]:List Int) (aa [y.1] (aa [bU y.1] (aa [L,M,K,d.au,d.wh] (aj q46 (Iv (bF (y.1,Z)/\n)/\aa ([y.2.i,4]:List Int) (aa [y.1] (aa [bU y.1] (aa [S,T,U,g.au,g.wh] ([]=q1/\e (((z.i:Nat):Int)=B/\((z.an:Nat):Int)=A/\((z.ae:Nat):Int)=C/\z.au=b.au/\z.wh=b.wh/\True)))))) ((sf u).2=q1/\e (S=B/\T=A/\U=C/\g.au=b.au/\g.wh=b.wh/\True))))))) ((sf u).2=q1/\e (L=B/\M=A/\K=C/\d.au=b.au/\d.wh=b.wh/\True)))))))))))) (aj (aM 20 l) (Iv (bF (y.1,h)/\n)/\aa ([y.2.i,10]:List Int) (aa [y.1] (aa [bU y.1] (aa [m,l,k,j.au,j.wh] ([]=q1/\e (((s.i:Nat):Int)=B/\((s.an:Nat):Int)=A/\((s.ae:Nat):Int)=C/\s.au=b.au/\s.wh=b.wh/\True)))))) (aj (aM 4 k) (Iv (bF (y.1,h)/\n)/\aa ([y.2.i,13]:List Int) (aa [y.1] (aa [bU y.1] (aa [m,l,k,j.au,j.wh] ([]=q1/\e (((t.i:Nat):Int)=B/\((t.an:Nat):Int)=A/\((t.ae:Nat):Int)=C/\t.au=b.au/\t.wh=b.wh/\True)))))) (Iv ((bF D/\True)/\(lvl D+4)<(lvl y+0))/\aa [y.1] (aa [bU y.1] (aa [m,W,G,j.au,j.wh] (aj (aE c.au 0) (Iv (bF (y.1,N)/\True)/\aa ([41]:List Int) (aa [y.1] (aa [bU y.1] (aa [H,J,I,c.au,c.wh] (aj q40 (Iv (bF (y.1,Y)/\n)/\aa ([y.2.i,4]:List Int) (aa [y.1] (aa [bU y.1] (aa [Q,P,O,f.au,f.wh] ([]=q1/\e (((x.i:Nat):Int)=B/\((x.an:Nat):Int)=A/\((x.ae:Nat):Int)=C/\x.au=b.au/\x.wh=b.wh/\True)))))) (ba (ab E) 72/\E=q1/\e (Q=B/\P=A/\O=C/\f.au=b.au/\f.wh=b.wh/\True))))))) (ba (ab E) 72/\E=q1/\e (H=B/\J=A/\I=C/\c.au=b.au/\c.wh=b.wh/\True))))))))))))
def ϳ:∀y,UH y=QsU y:=λy=>by kernel_rfl
theorem UI {s:cm} (h:(nn s).an=(nn y.2).an):iF (y.1,s)=iF y:=by grind [iF]
theorem UJ {s:cm} (h:(nn s).an=(nn y.2).an):lvl (y.1,s)=lvl y:=by grind [lvl]
def yB (y:PS):nz y.1 (iF y):=wL _
structure PsF (G:List Gt) (s:cm):Prop where
 ok:bF (G,s)
 a:gJ G (nn s) (nn s)
 zi:((nn s).i:Int)=s.i
 zo:((nn s).an:Int)=s.an
 zg:((nn s).ae:Int)=s.ae
 len:G.length<=4096
 il:(nn s).i<=G.length
 ol:(nn s).an<=20
 gl:(nn s).ae<=4
variable {G:List Gt} {Z:Nat} {s:Ps} {Y:cm} {y:PS} {A:Ps->Ps×List Nd} {l:List (List Nd)}
def bF.f {s:cm} (h:bF (G,s)):PsF G s:=by
 obtain⟨b1,a,b,c,_⟩:G.length<=4096/\(0<=s.i/\s.i<=G.length)/\(0<=s.an/\s.an<=20)/\(0<=s.ae/\s.ae<=4)/\_:=id h;exact⟨h,h.adv,Zby a.1,Zby b.1,Zby c.1,b1,by show s.i.toNat<=_;omega,by show s.an.toNat<=_;omega,by show s.ae.toNat<=_;omega⟩
theorem Jp (h:s.au≠0\/bd G s 124=false):gQ G A Z s l=(s,l):=by
 cases Z with
 | zero=>rfl
 | succ Z=>
  grind [gQ]
def ϵ (h:bF y):sf y=E3 y.1 (iF y) (nn y.2):=by
 have:=(bF.f (G:=y.1) (s:=y.2) h).ol;unfold sf iF;rw[show 21-(nn y.2).an=(20-(nn y.2).an)+1 by omega];rfl
theorem QsX (y:PS) (C:Jo.pre y):UD y:=by
 obtain⟨h0,_⟩:bF y/\True:=C;have f:=bF.f (G:=y.1) (s:=y.2) h0;have⟨c1,c2⟩:=nA (yB y) f.il f.gl;have u:=ϵ h0;have q:sf y=((gQ y.1 (iF y) (y.1.length+2-(nM y).1.i) (nM y).1 [(nM y).2]).1,b9 4 (gQ y.1 (iF y) (y.1.length+2-(nM y).1.i) (nM y).1 [(nM y).2]).2):=u;unfold UD;simp only[bj,ez,aw,a_,bq,ib,iA];refine⟨⟨h0,by grind⟩,⟨(zz (nM y).1,[(nM y).2]),rfl,rfl,rfl,rfl,rfl,rfl,h0.of c1,c1.op,c1.le,by simp,?_,_,λ_=>?_,rfl⟩,λx B=>?_⟩
 ·show total [(nM y).2]+2*1<=_
  have e:total [(nM y).2]=(nM y).2.length:=by simp[total]
  have c3:(nM y).2.length<=3*((nM y).1.i-(nn y.2).i)+1:=c2;show _<=3*((nM y).1.i-(nn y.2).i)+3
  omega
 ·have:(nM y).1.i<=y.1.length:=c1.len;show _<=_+(nM y).1.i
  omega
 ·have⟨s,b⟩:=x;have⟨p,c,D,H,I,n,z,r⟩:=B;simp only at*
  have g:=p.f;rw[<-r] at q;have A:b.length<=10000/\total b<=20000:=by have:=g.il;have:=g.len;omega
  have cs:s.au≠0\/bd y.1 (nn s) 124=false->sf y=(nn s,b9 4 b):=λh=>by rw[q,Jp h]
  refine⟨λl=>⟨p,λj=>?_,λj=>?_⟩,λl=>?_⟩
  ·have o:=dy j;have a3:=g.a.next o;have hs:bt y.1 (nn s) 124=(nn s).next:=Zac j;have t:bF (y.1,⟨(nn s).next.i,(nn s).next.an,(nn s).next.ae,(nn s).next.au,(nn s).next.wh⟩):=p.of a3;have d:(nn s).next.an=(nn y.2).an:=c;have v:=UI (y:=y) (s:=⟨(nn s).next.i,(nn s).next.an,(nn s).next.ae,(nn s).next.au,(nn s).next.wh⟩) d;have w:=UJ (y:=y) (s:=⟨(nn s).next.i,(nn s).next.an,(nn s).next.ae,(nn s).next.au,(nn s).next.wh⟩) d;have⟨k,E⟩:=nA (yB y) (s:=(nn s).next) a3.len a3.gm;rw[hs,v,w];have F:(nn s).next.i<=(nw y.1 (iF y) (nn s).next).1.i:=k.le;have J:(nn s).next.i=(nn s).i+1:=rfl;refine⟨⟨t,ω⟩,?_,(zz (nw y.1 (iF y) (nn s).next).1,b++[(nw y.1 (iF y) (nn s).next).2]),rfl,rfl,rfl,rfl,rfl,rfl,⟨t.of k,k.op.trans c,?_,by simp,?_,?_⟩,?_⟩
   ·grind
   ·show _<=(nw y.1 (iF y) (nn s).next).1.i;omega
   ·show total (b++[_])+2*(b++[_]).length<=3*((nw y.1 (iF y) (nn s).next).1.i-_)+3
    grind [gR]
   ·obtain⟨m,rfl⟩:∃m,n=m+1:=⟨n-1,ω⟩;refine⟨m,λ_=>by show _<=m+(nw y.1 (iF y) (nn s).next).1.i;omega,?_⟩;rw[<-r]
    conv=>rhs;unfold gQ
    rw[Zac ⟨l,j⟩];rfl
   ·show 2*(y.1.length-(nw y.1 (iF y) (nn s).next).1.i)+(if (nw y.1 (iF y) (nn s).next).1.au=0 then 1 else 0)<2*(y.1.length-(nn s).i)+(if s.au=0 then 1 else 0)
    grind
  ·grind [bt]
  ·rw[cs (.inl l)];exact⟨⟨ω,ω⟩,rfl,g.zi.symm,g.zo.symm,g.zg.symm,rfl,rfl⟩
theorem si {r:Int} (h:bd G s r):bt G s r=s.next:=Zac h
theorem sj {r:Int} (h:bd G s r=false):bt G s r=s:=Zaa (by grind)
theorem Jq (h:¬(s.au=0/\s.i<G.length/\bd G s 124=false/\¬(bd G s 41/\0<s.an))):ff G A Z s l=(s,l):=by
 cases Z with
 | zero=>rfl
 | succ Z=>unfold ff;rw[Zaa h]
theorem QsY (y:PS) (A:O'.pre y):UE y:=by
 obtain⟨h0,_⟩:bF y/\True:=A;unfold UE;simp only[bN,bj,ez,aw,a_,bq,Zan,Zao];refine⟨⟨(y.2,[]),rfl,rfl,rfl,rfl,rfl,rfl,h0,rfl,Zah _,by simp[total],by simp,_,λ_=>?_,rfl⟩,λx w=>?_⟩
 ·grind
 ·have⟨s,a⟩:=x;have⟨e,b,B,H,I,n,u,o⟩:=w;simp only at*
  have g:=e.f;have F:=g.il;have G:=g.len;have zi:=g.zi;have zo:=g.zo;have v:a.length<=10000/\total a<=20000:=by grind
  rw[pni,<-o];have E:=UI (y:=y) (s:=s) b;have q:=UJ (y:=y) (s:=s) b;have r:Af (y.1,s)=fR y.1 (iF y) (nn s):=by grind [Af]
  rw[r,q];have stop:¬((nn s).au=0/\(nn s).i<y.1.length/\bd y.1 (nn s) 124=false/\¬(bd y.1 (nn s) 41/\0<(nn s).an))->(total a<=100000/\a.length<=100000)/\b9 3 a=b9 3 (ff y.1 (iF y) n (nn s) a).2/\s.i=((ff y.1 (iF y) n (nn s) a).1.i:Int)/\s.an=((ff y.1 (iF y) n (nn s) a).1.an:Int)/\s.ae=((ff y.1 (iF y) n (nn s) a).1.ae:Int)/\s.au=(ff y.1 (iF y) n (nn s) a).1.au/\s.wh=(ff y.1 (iF y) n (nn s) a).1.wh:=λh=>by
   rw[Jq h];exact⟨⟨ω,ω⟩,rfl,zi.symm,zo.symm,g.zg.symm,rfl,rfl⟩
  have go:s.au=0->s.i<y.1.length->bd y.1 (nn s) 124=false->¬(bd y.1 (nn s) 41/\0<s.an)->((bF (y.1,s)/\HD (y.1,s))/\lvl y+2<lvl y+3)/\((a++[(fR y.1 (iF y) (nn s)).2]).length:Int)*(24:Nat)<=140737488355328/\∃z:cm×List (List Nd),a++[(fR y.1 (iF y) (nn s)).2]=z.2/\((fR y.1 (iF y) (nn s)).1.i:Int)=z.1.i/\((fR y.1 (iF y) (nn s)).1.an:Int)=z.1.an/\((fR y.1 (iF y) (nn s)).1.ae:Int)=z.1.ae/\(fR y.1 (iF y) (nn s)).1.au=z.1.au/\(fR y.1 (iF y) (nn s)).1.wh=z.1.wh/\UC y z/\FL y z<FL y (s,a):=λh1 c d j=>by
   have hl:(nn s).i<y.1.length:=ω;have⟨l,p,C⟩:=x6 (yB y) hl g.gl;have D:(nn s).i<=(fR y.1 (iF y) (nn s)).1.i:=l.le;refine⟨⟨⟨e,c⟩,ω⟩,?_,(zz (fR y.1 (iF y) (nn s)).1,a++[(fR y.1 (iF y) (nn s)).2]),rfl,rfl,rfl,rfl,rfl,rfl,⟨e.of l,l.op.trans b,?_,?_,?_,?_⟩,?_⟩
   ·grind
   ·show _<=(fR y.1 (iF y) (nn s)).1.i;omega
   ·show total (a++[_])<=3*((fR y.1 (iF y) (nn s)).1.i-_)
    rw[gR];omega
   ·show(a++[_]).length<=(fR y.1 (iF y) (nn s)).1.i-_+(if (fR y.1 (iF y) (nn s)).1.au=0 then 0 else 1)
    grind
   ·obtain⟨m,rfl⟩:∃m,n=m+1:=⟨n-1,ω⟩;refine⟨m,λh=>by have:=p h;show _<=m+(fR y.1 (iF y) (nn s)).1.i;omega,?_⟩;rw[<-o]
    conv=>rhs;unfold ff
    rw[Zac ⟨h1,hl,d,λh=>j ⟨h.1,ω⟩⟩];rfl
   ·show 2*(y.1.length-(fR y.1 (iF y) (nn s)).1.i)+(if (fR y.1 (iF y) (nn s)).1.au=0 then 1 else 0)<2*(y.1.length-(nn s).i)+(if s.au=0 then 1 else 0)
    grind
  refine⟨λh1=>⟨λc=>⟨e,λd=>⟨e,λj=>⟨λt=>go h1 c d ω,λt=>stop λk=>k.2.2.2 ⟨j,ω⟩⟩,λj=>go h1 c d λk=>?_⟩,λd=>stop λk=>?_⟩,λc=>stop λk=>?_⟩,λh1=>stop λk=>h1 k.1⟩
  ·grind
  ·grind
  ·omega
def ez2 (a b c:Nat) (e w:Int):nn ⟨a,b,c,e,w⟩=⟨a,b,c,e,w⟩:=rfl
theorem QgV {y:PS} (h:vY y):Af y=oA y.1 (qg y).1 (qg y).2.1 (qg y).2.2 (ec y).2:=by
 have⟨h1,a⟩:=h;show fR y.1 (iF y) (nn y.2)=_
 unfold fR qg;grind [ec]
theorem QgW {y:PS} (h1:(ec y).1.au=0) (a:bd y.1 (ec y).1 42=false) (b:bd y.1 (ec y).1 43=false) (c:bd y.1 (ec y).1 63=false) (d:bd y.1 (ec y).1 123=false):Af y=ec y:=by
 show fR y.1 (iF y) (nn y.2)=_
 grind [fR,ec]
theorem Ϸ {y:PS} (h1:(ec y).1.au≠0):Af y=((ec y).1,[]):=by
 show fR y.1 (iF y) (nn y.2)=_
 grind [fR,ec]
theorem QsZ (y:PS) (e:O_.pre y):UF y:=by
 obtain⟨h0,hi⟩:bF y/\y.2.i<y.1.length:=e;have f:=bF.f (G:=y.1) (s:=y.2) h0;have zi:=f.zi;obtain⟨a,a2,a3⟩:gJ y.1 (nn y.2) (ec y).1/\((ec y).1.au=0->(nn y.2).i<(ec y).1.i)/\(ec y).2.length<=3*((ec y).1.i-(nn y.2).i):=A' (yB y) ω f.gl;have o1:=h0.of a;have a4:=a.len;have len:=f.len;have j:vY y->bF (y.1,⟨(qg y).1.i,(qg y).1.an,(qg y).1.ae,(qg y).1.au,(qg y).1.wh⟩):=λ⟨_,h⟩=>h0.of (by
  unfold qg;split
  ·exact a.next (dy ‹_›)
  ·split
   ·exact a.next (dy ‹_›)
   ·split
    ·exact a.next (dy ‹_›)
    ·refine(x5 a ?_).1;rcases h with h | h | h | h<;>exact dy h)
 have i2:∀r,bd y.1 (ec y).1 r->(ec y).1.i<y.1.length:=λr h=>dy h
 have L:lvl y+1<lvl y+2:=ω;unfold UF;simp only[bj,ez,aw,a_,bq,ib,iA,ZaZ,ZaY,Zan,Zao];have m:=@QgW y;have n:=@Ϸ y;have g:=@QgV y;refine⟨⟨⟨h0,hi⟩,L⟩,λb=>?_,λb=>⟨?_,λc=>?_⟩⟩
 ·grind
 ·have o:bd y.1 (ec y).1 42->vY y:=λh=>⟨b,.inl h⟩
  have p:bd y.1 (ec y).1 43->vY y:=λh=>⟨b,.inr (.inl h)⟩
  have q:bd y.1 (ec y).1 63->vY y:=λh=>⟨b,.inr (.inr (.inl h))⟩
  have t:bd y.1 (ec y).1 123->vY y:=λh=>⟨b,.inr (.inr (.inr h))⟩
  have l:qg y=if bd y.1 (ec y).1 42 then((ec y).1.next,0,-1) else if bd y.1 (ec y).1 43 then((ec y).1.next,1,-1) else if bd y.1 (ec y).1 63 then((ec y).1.next,0,1) else gP y.1 (ec y).1:=rfl
  grind [HD,si,sj]
 ·rw[g c];have d:=j c;unfold oA;refine⟨λk=>by grind,λk=>?_⟩;rw[Zaa ω];exact⟨d,by grind,rfl,rfl,rfl,rfl,rfl,rfl⟩
theorem Qs0 (y:PS) (j:UA.pre y):UG y:=by
 obtain⟨h0,hi⟩:bF y/\y.2.i<y.1.length:=j;have⟨d,m,hl,k,o1⟩:=h0.Ϭ hi;have f:=bF.f (G:=y.1) (s:=y.2) h0;have i0:0<=y.2.i:=h0.2.1.1;have zi:=f.zi;have b:y.2.i+1=((nn y.2).next.i:Int):=by simp_all
 have zo:=f.zo;have zg:=f.zg;have a:ec y=jG y.1 (iF y) (nn y.2):=rfl;unfold jG at a;have g:(y.1.getD (nn y.2).i (0,0)).1=aN y.1 (nn y.2).i:=rfl;have l:iH y.1 (iF y) (nn y.2)=nN y:=rfl;have c:FK y=decide ((eC y.1 (nn y.2)).2.1=[]):=rfl;unfold UG;simp only[bN,bj,ez,aw,d,pni,dL,HD];rw[g];generalize aN y.1 (nn y.2).i=r at*
 generalize ec y=at_ at*
 cases e:fI y.1 (nn y.2).i with
 | true=>
  grind []
 | false=>
  simp only[e,ZaE,Za0] at a;simp only[reduceCtorEq,ZbV,ZaX,Zal];refine⟨⟨h0,i0,hi⟩,i0,hi,λk1=>?_,λk1=>⟨λk2=>?_,λk2=>⟨λk3=>?_,λk3=>⟨λk4=>?_,λk4=>⟨λk5=>?_,λk5=>⟨λk6=>?_,λk6=>?_⟩⟩⟩⟩⟩⟩
  ·grind
  ·grind
  ·simp only[k1,k2,k3,Zbv,Za0] at a;subst a;refine⟨λh=>⟨⟨h0,hi,h.symm⟩,?_,rfl,rfl,rfl,rfl,rfl⟩,λh=>⟨⟨h0,hi,h.symm⟩,rfl,rfl,rfl,rfl,rfl,rfl⟩⟩;rw[h] at c;have:=ZaH c.symm;simp only[this];rfl
  ·simp only[k1,k2,k3,k4,Zbv,Za0] at a;subst a;exact⟨rfl,b,zo.symm,zg.symm,rfl,rfl⟩
  ·simp only[k1,k2,k3,k4,k5,Zbv,Za0] at a;subst a;exact⟨rfl,b,zo.symm,zg.symm,rfl,rfl⟩
  ·simp only[k1,k2,k3,k4,k5,k6,Zbv,Za0] at a;subst a;exact⟨rfl,b,zo.symm,zg.symm,rfl,rfl⟩
  ·have w:(r=42\/r=43\/r=63\/r=41\/r=93\/r=123\/r=125\/r=124)->at_=((nn y.2).aA y.1 (nn y.2).i 4,[]):=λh=>by grind
   have n:¬(r=42\/r=43\/r=63\/r=41\/r=93\/r=123\/r=125\/r=124)->at_=((nn y.2).next,[xZ (eL r)]):=λh=>by grind
   with_reducible repeat' first | apply And.intro | intro _
   all_goals first
    | assumption
    | (exfalso;omega)
    | (rw[w ω];done)
    | (rw[n ω];done)
    | (rw[n ω];first | rfl | exact b | exact zo.symm | exact zg.symm)
theorem MB {s:cm} (h:(nn s).an=(nn y.2).an+1):sf (y.1,s)=iF y (nn s):=by
 unfold sf iF;grind
theorem UK (h:(nn Y).an=(nn y.2).an+1) (a:(nn y.2).an<20):lvl (y.1,Y)+4<lvl y:=by
 grind [lvl]
theorem MC {n:Nat} (h:n<=1000000):ay .i64 (n:Int) 1=((n+1:Nat):Int):=by grind
theorem Br (h:1<=Z) (a:Z<=1000000):dE .i64 (Z:Int) 1=((Z-1:Nat):Int):=by grind
structure Grp (y:PS) (s:Ps):Prop where
 a:gJ y.1 (nn y.2) s
 o:s.an<20
theorem Grp.Qlj {y:PS} {s:Ps} {g:Nat} (h0:bF y) (h:Grp y s) (f:g=s.ae\/g=s.ae+1/\s.ae<4):bF (y.1,⟨s.i,((s.an+1:Nat):Int),(g:Int),s.au,s.wh⟩):=by
 obtain⟨b1,c,d,e,b⟩:y.1.length<=4096/\(0<=y.2.i/\y.2.i<=y.1.length)/\(0<=y.2.an/\y.2.an<=20)/\(0<=y.2.ae/\y.2.ae<=4)/\Fx y.1:=h0;have:=h.a.len;have:=h.a.gm;have:=h.o;exact⟨b1,⟨ZaF _,by grind⟩,⟨ZaF _,by grind⟩,⟨ZaF _,by grind⟩,b⟩
theorem Grp.out {y:PS} {s:Ps} {g:Nat} (h0:bF y) (h:Grp y s) (j:g=s.ae\/g=s.ae+1/\s.ae<4):∀a,a=iF y ⟨s.i,s.an+1,g,s.au,s.wh⟩->a.1.an=s.an+1/\gJ y.1 (nn y.2) { a.1 with an:=a.1.an-1 }/\a.2.length<=20000:=λa b=>by
 have h1:=h.a.len;have c:=h.a.gm;have⟨c1,c2⟩:=yB y ⟨s.i,s.an+1,g,s.au,s.wh⟩ h1 (by grind);rw[<-b] at c1 c2;have c3:a.1.an=s.an+1:=c1.op;have c5:=c1.len;have c6:s.i<=a.1.i:=c1.le;have c7:g<=a.1.ae:=c1.gr;have c8:y.1.length<=4096:=h0.1;have d:=h.a.le;have e:=h.a.op;have f:=h.a.gr;exact⟨c3,⟨by grind,c5,by grind,by grind,c1.gm⟩,ω⟩
def Bs (G:List Gt) (c:Nat) (a:Ps×List Nd) (l:List Nd):Ps×List Nd:=
 let b:Ps:={ a.1 with an:=a.1.an-1 }
 if b.au=0/\bd G b 41=false then(b.aA G c 4,[]) else(if b.au=0 then b.next else b,l)
theorem Qs1 (y:PS) (Q:UB.pre y):UH y:=by
  obtain⟨h0,hi⟩:bF y/\y.2.i<y.1.length:=Q;have⟨M,P,hl,w,o1⟩:=h0.Ϭ hi;have i0:0<=y.2.i:=h0.2.1.1;have H:∀free,bd y.1 (nn y.2).next 63=free->nN y=
      (let A:=if free then(nn y.2).next.next else(nn y.2).next
       if free/\bd y.1 A 58=false then(A.aA y.1 (nn y.2).i 4,[])
       else
        let s3:=if free then A.next else A
        if 20<=s3.an then(s3.aA y.1 (nn y.2).i 10,[])
        else if free=false/\4<=s3.ae then(s3.aA y.1 (nn y.2).i 13,[])
        else
          let g:=if free then s3.ae else s3.ae+1
          let a:=iF y ⟨s3.i,s3.an+1,g,s3.au,s3.wh⟩
          Bs y.1 (nn y.2).i a (if free then a.2 else { nd 6 with cap:=g,af:=1 }::a.2)):=λfree h=>by
    show iH y.1 (iF y) (nn y.2)=_
    grind [iH,Bs]
  have v:∀(a:Ps) (b:Ps×List Nd),b.1=a->(a.i:Int)=b.1.i/\(a.an:Int)=b.1.an/\(a.ae:Int)=b.1.ae/\a.au=b.1.au/\a.wh=b.1.wh:=λa b h=>by grind
  
  have L:∀(s:Ps) (g:Nat) (a:Ps×List Nd) (r l:List Nd),Grp y s->(g=s.ae\/g=s.ae+1/\s.ae<4)->a=iF y ⟨s.i,s.an+1,g,s.au,s.wh⟩->nN y=Bs y.1 (nn y.2).i a l->r=l->
      dE .i64 (a.1.an:Int) 1=((a.1.an-1:Nat):Int)/\((r.length:Int)*(72:Nat)<=140737488355328\/a.2.length+1<r.length)/\
      (a.1.au=0->bF (y.1,⟨a.1.i,((a.1.an-1:Nat):Int),a.1.ae,a.1.au,a.1.wh⟩)/\
        (bd y.1 { a.1 with an:=a.1.an-1 } 41=false->[]=(nN y).2/\(nN y).1=Ps.aA y.1 { a.1 with an:=a.1.an-1 } (nn y.2).i 4)/\
        (bd y.1 { a.1 with an:=a.1.an-1 } 41->r=(nN y).2/\(nN y).1=Ps.next { a.1 with an:=a.1.an-1 }))/\
      (a.1.au≠0->r=(nN y).2/\(nN y).1={ a.1 with an:=a.1.an-1 }):=λs g a r l I z p O T=>by
    have⟨c1,c2,c3⟩:=I.out h0 z a p;have c4:=I.o;unfold Bs at O;refine⟨Br ω ω,ω,λk=>⟨h0.of c2,λk2=>?_,λk2=>?_⟩,λk=>?_⟩
    all_goals grind
  unfold UH;simp only[bN,bj,M,P,ez,pni,aw,a_,bq,Zan,Zao,Zbn];generalize (nn y.2).next=c at*
  refine⟨o1,λu=>?_,λu=>?_⟩
  · have e:=H true u;have a2:=w.next (dy u);have J:=h0.of a2;rw[si u];refine⟨J,λt=>?_,λt=>?_⟩
    · rw[sj t];rw[show nN y=(c.next.aA y.1 (nn y.2).i 4,[]) by rw[e];exact Zac ⟨rfl,t⟩];exact⟨⟨J,i0,hi⟩,rfl,rfl,rfl,rfl,rfl,rfl⟩
    · have a3:=a2.next (dy t);have R:=h0.of a3;have e:=e.trans (Zaa (λq=>by rw[Zac rfl,t] at q;cases q.2));rw[si t];refine⟨λm=>?_,λm=>?_⟩
      · rw[show nN y=(c.next.next.aA y.1 (nn y.2).i 10,[]) from e.trans (Zac (show 20<=c.next.next.an by omega))];exact⟨⟨R,i0,hi⟩,rfl,rfl,rfl,rfl,rfl,rfl⟩
      · have G:Grp y c.next.next:=⟨a3,ω⟩;have e:=(e.trans (Zaa (show ¬20<=c.next.next.an by omega))).trans (Zaa (λq=>by cases q.1));have op:c.next.next.an+1=(nn y.2).an+1:=by rw[a3.op]
        rw[MC ω,MB (y:=y) (s:=⟨(c.next.next.i:Nat),((c.next.next.an+1:Nat):Int),(c.next.next.ae:Nat),c.next.next.au,c.next.next.wh⟩) op,ez2];generalize p:iF y ⟨c.next.next.i,c.next.next.an+1,c.next.next.ae,c.next.next.au,c.next.next.wh⟩=a;have e:nN y=Bs y.1 (nn y.2).i a a.2:=by rw[e,<-p];rfl
        have⟨B,_,C,D⟩:=L _ _ a a.2 a.2 G (.inl rfl) p.symm e rfl;rw[B,ez2];refine⟨⟨G.Qlj h0 (.inl rfl),UK op ω⟩,λk=>?_,λk=>?_⟩
        · have⟨x,E,F⟩:=C k;refine⟨x,λj=>?_,λj=>?_⟩
          · rw[sj j];have⟨d,f⟩:=E j;exact⟨⟨x,i0,hi⟩,d,v _ _ f⟩
          · rw[si j];have⟨d,f⟩:=F j;exact⟨d,v _ _ f⟩
        · have⟨d,f⟩:=D k;exact⟨d,v _ _ f⟩
  · have e:=H false u;rw[sj u];refine⟨λm=>?_,λm=>⟨λN=>?_,λN=>?_⟩⟩
    · rw[show nN y=(c.aA y.1 (nn y.2).i 10,[]) from e.trans (Zac (show 20<=c.an by omega))];exact⟨⟨h0.of w,i0,hi⟩,rfl,rfl,rfl,rfl,rfl,rfl⟩
    · rw[show nN y=(c.aA y.1 (nn y.2).i 13,[]) from(e.trans (Zaa (show ¬20<=c.an by omega))).trans (Zac ⟨rfl,show 4<=c.ae by omega⟩)];exact⟨⟨h0.of w,i0,hi⟩,rfl,rfl,rfl,rfl,rfl,rfl⟩
    · have G:Grp y c:=⟨w,ω⟩;have e:=(e.trans (Zaa (show ¬20<=c.an by omega))).trans (Zaa (λq=>by have:4<=c.ae:=q.2;omega));have op:c.an+1=(nn y.2).an+1:=by rw[w.op]
      have z:c.ae+1=c.ae\/c.ae+1=c.ae+1/\c.ae<4:=.inr ⟨rfl,ω⟩;rw[MC (n:=c.an) ω,MC (n:=c.ae) ω,MB (y:=y) (s:=⟨(c.i:Nat),((c.an+1:Nat):Int),((c.ae+1:Nat):Int),c.au,c.wh⟩) op,ez2];generalize p:iF y ⟨c.i,c.an+1,c.ae+1,c.au,c.wh⟩=a;have e:nN y=Bs y.1 (nn y.2).i a ({ nd 6 with cap:=((c.ae+1:Nat):Int),af:=1 }::a.2):=by rw[e,<-p];rfl
      have⟨B,S,C,D⟩:=L _ _ a ([Nd.mk 6 [] 0 0 false ((c.ae+1:Nat):Int) 1]++a.2) _ G z p.symm e rfl;have K:((([Nd.mk 6 [] 0 0 false ((c.ae+1:Nat):Int) 1]++a.2).length:Nat):Int)*(72:Nat)<=140737488355328:=by
        rcases S with h | h
        · exact h
        · rw[Zab,ZbA] at h;omega
      rw[B,ez2];refine⟨⟨G.Qlj h0 z,UK op ω⟩,λk=>?_,λk=>?_⟩
      · have⟨x,E,F⟩:=C k;refine⟨x,λj=>?_,λj=>?_⟩
        · rw[sj j];have⟨d,f⟩:=E j;exact⟨⟨x,i0,hi⟩,d,v _ _ f⟩
        · rw[si j];have⟨d,f⟩:=F j;exact⟨K,d,v _ _ f⟩
      · have⟨d,f⟩:=D k;exact⟨K,d,v _ _ f⟩
inductive Fm where
 | ax | cat | rep | Ag | vZ
variable {G:List Gt}
def fmC:Fm->bp D
 | .ax=>Jo | .cat=>O' | .rep=>O_ | .Ag=>UA | .vZ=>UB
def Qs2:∀i,(fmC i).Y->Nat
 | .ax=>λy=>lvl y+4 | .cat=>λy=>lvl y+3 | .rep=>λy=>lvl y+2 | .Ag=>λy=>lvl y+1 | .vZ=>λy=>lvl y
def fmF:Fm->Func
 | .ax=>f51 | .cat=>f89 | .rep=>f125 | .Ag=>f151 | .vZ=>f173
def Qlk:Fm->vU
 | .ax=>[uE,Ad] | .cat=>[Zl,Ad] | .rep=>[uE,Zl,Jm] | .Ag=>[Ac,rH,Jl,Ae,Uc,FJ] | .vZ=>[uE,rH]
def fmO:∀i,(fmC i).Y->dj D
 | .ax=>Qlf | .cat=>Qlg | .rep=>Qlh | .Ag=>λ_=>dk () | .vZ=>λ_=>dk ()
def fmL:List Fm:=[.ax,.cat,.rep,.Ag,.vZ]
set_option maxRecDepth 100000 in
theorem Qs3 (b:Ok cW) (c:Ok yy):∀i,Ok (fmC i):=
 yb fmL fmC Qs2 (fn:=fmF) (tab:=Qlk) (jE:=fmO)
  (λi=>match i with
   | .ax=>⟨Bp,Qeh⟩ | .cat=>⟨isOk,Qeh⟩ | .rep=>⟨Bp,isOk,Qlc c⟩ | .Ag=>⟨Um,vG,Qld b,Qej b,okZ [IT] f176 (λ_=>dk ()) (Qd1 b) Qsv,Qeg b⟩ | .vZ=>⟨Bp,vG⟩)
  (λi=>match i with
   | .ax=>by kernel_rfl | .cat=>by kernel_rfl | .rep=>by kernel_rfl | .Ag=>by kernel_rfl | .vZ=>by kernel_rfl)
  (λi=>match i with
   | .ax=>by kernel_rfl | .cat=>by kernel_rfl | .rep=>by kernel_rfl | .Ag=>by kernel_rfl | .vZ=>by kernel_rfl)
  λi=>match i with
   | .ax=>λy a=>Eq.mp (ϯ y) (QsX y a) | .cat=>λy a=>Eq.mp (ϰ y) (QsY y a) | .rep=>λy a=>Eq.mp (ϱ y) (QsZ y a) | .Ag=>λy a=>Eq.mp (ϲ y) (Qs0 y a) | .vZ=>λy a=>Eq.mp (ϳ y) (Qs1 y a)
def cr (y:By):List Nd×Int×Int:=if 120<y.length then([],2,0) else x3 (bk y)
def Ah:bp D:=cq 23 By (λa _=>ϕ a) (λ_=>True) (λy=>[.str y]) λy=>.tuple [.list 7 (cr y).1,Qyy (cr y).2.1,Qyy (cr y).2.2]
def ϸ (y:By) (x:Nat):Prop:=x<=(bk y).length
def Qs4 (y:Ah.Y):dj D:=⟨[],[],[(250,⟨Nat,[21,22],λx=>[(5,.ptr 0 0),(6,Qyy (aq (bk y) x)),(23,Qyy x)],[],λx=>[(0,.cells [.list 13 (bk y),.grow 5 ((bU (bk y)).take x) 1,Qyy 0,Qyy 0,Qyy 0,Qyy 0,Qyy 0] 133 false),(1,.tok 5 3)],2,ϸ y,λx=>(bk y).length-x⟩)],[],1,[]⟩
def UL (y:List UInt8):Prop:=let a:=bk y;let q1:=bU a;let m:=a.length;let n:=ab a;let o:=(cr y).2.1;let q:=(cr y).2.2;let r:=ff a (r6 a 20) ((m+2) -0) (nn (cm.mk 0 0 0 0 0)) [];let b:=gQ a (r6 a 20) ((m+2) -r.1.i) r.1 [b9 3 r.2];let d:=((b.1.i:Nat):Int);let s:=((b.1.an:Nat):Int);let f:=((b.1.ae:Nat):Int);let g:=aE b.1.au 0;let h:=cm.mk d s f b.1.au b.1.wh;let c:=Ps.aA a (nn h) d.toNat 4;let e:=λp:Prop=>aa ([0,0,0,0,0]:List Int) p;let j:Prop:=(b9 4 b.2=(cr y).1/\0=o/\0=q/\True);let k:Prop:=(aj (!g) (RAP b.1.au b.1.wh ([]=(cr y).1/\b.1.au=o/\b.1.wh=q/\True)) (j));aj (aD 120 (fo y)) ([]=(cr y).1/\2=o/\0=q/\True) (Iv (y.length<=1000000)/\RAO y ((∃z:Nat,aa [a] (aa [n] (0=aq a z/\0=(z:Int)/\aa [a] ([]=List.take z q1/\e ((Iv (ϸ y z)))))))/\(∀x:Nat,let l:=bn (List.take x q1) [aq a x];(Iv (ϸ y x))->aj (aD (x:Int) n) (aM 0 (x:Int)/\aD (x:Int) n/\ba (ab l) 8/\∃z:Nat,aa [a] (aa [n] (ay .i64 (aq a x) (gt (0,0) a (x:Int).toNat).2=aq a z/\ay .i64 (x:Int) 1=(z:Int)/\aa [a] (l=List.take z q1/\e ((Iv (ϸ y z/\(m-z)<(m-x)))))))) (Iv (bF (a,cm.mk 0 0 0 0 0)/\True)/\aa [a] (List.take x q1=q1/\e (aj g (aa [b.1.au,d] (aa [a] (aj (aD d n) (Iv (bF (a,h)/\0<=d/\d<(m:Int))/\aa ([d,4]:List Int) (aa [a] (aa [q1] (aa [d,s,f,b.1.au,b.1.wh] (aj (!(aE c.au 0)) (aa [c.au,c.wh] ([]=(cr y).1/\c.au=o/\c.wh=q/\True)) (j)))))) (k)))) (aa [b.1.au] (k))))))))
theorem oJ:∀(n:Nat) (l:By),(jk n l).length<=l.length/\∀g∈jk n l,1<=g.2/\g.2<=4
 | 0,l=>⟨by grind [jk],λg h=>by grind [jk]⟩
 | n+1,l=>by
  by_cases h:l=[]
  ·grind [nF]
  ·have d:=Zbe.2 h;rcases jR l with h0 | ⟨m,a,h1,b,c⟩
   ·rw[nG h h0];obtain⟨i1,i2⟩:=oJ n (l.drop 1);grind
   ·rw[pY h a h1];obtain⟨i1,i2⟩:=oJ n (l.drop m);grind
def FM (y:By):(bk y).length<=y.length:=(oJ _ y).1
theorem iI {i:Nat} (h:i<G.length):aq G (i+1)=aq G i+(G.getD i (0,0)).2:=by
 grind [aq,List.take_succ]
theorem yC (a:∀g∈G,1<=g.2/\g.2<=4):∀i,i<=G.length->0<=aq G i/\aq G i<=4*i
 | 0,_=>by simp[aq]
 | i+1,h=>by
  have:=yC a i ω;grind [iI]
theorem Qs6 (y:By) (p:Ah.pre y):UL y:=by
 have hl:=FM y;have w:=(oJ y.length y).2;have m:=yC (G:=bk y) w;obtain⟨b,_⟩:=wL (G:=bk y) 21 QX (Zaj _) (Zaj _);have v:=IE y;unfold UL;simp only[bN,bj,ez,aw,my,a_,bq,Zad,Zan,Zao,dL];obtain⟨c,n⟩:∃c,ff (bk y) (r6 (bk y) 20) ((bk y).length+2-0) (nn ⟨0,0,0,0,0⟩) []=c:=⟨_,rfl⟩;rw[n];obtain⟨d,o⟩:∃d,gQ (bk y) (r6 (bk y) 20) ((bk y).length+2-c.1.i) c.1 [b9 3 c.2]=d:=⟨_,rfl⟩;rw[o];have u:r6 (bk y) 21 QX=(d.1,b9 4 d.2):=by rw[<-o,<-n];rfl
 rw[u] at b;have r:=b.len;have f:=b.op;have t:=b.gm;simp only at r f t;have f:d.1.an=0:=f;have B:120<y.length->cr y=([],2,0):=λh=>Zac h
 obtain⟨s,hs⟩:∃s,(if d.1.au=0/\d.1.i<(bk y).length then d.1.aA (bk y) d.1.i 4 else d.1)=s:=⟨_,rfl⟩;have k:¬120<y.length->cr y=if s.au≠0 then([],s.au,s.wh) else(b9 4 d.2,0,0):=λh=>by
  grind [cr,x3]
 have A:=fJ (G:=bk y) d.1 d.1.i (e:=4) (by decide);refine⟨λh=>by grind,λh=>⟨ω,⟨0,by rfl,rfl,by simp,Zaj _⟩,λx C=>⟨λl=>?_,λl=>?_⟩⟩⟩
 ·have a:x<(bk y).length:=ω;have b1:=m x ω;have q:=m (x+1) ω;rw[iI a] at q;have z:=yr (bk y);refine⟨ω,l,by simp;omega,x+1,?_,bA ω ω,?_,by assumption,ω⟩
  ·rw[bA ω ω,iI a]
  ·rw[ZbE,Zaf ω];have:=Mz a 0;grind
 ·have k:=k ω;have Zh:bF (bk y,⟨0,0,0,0,0⟩):=⟨by grind,⟨ZaQ _,by grind⟩,⟨ZaQ _,by grind⟩,⟨ZaQ _,by grind⟩,v⟩;have j:bF (bk y,⟨d.1.i,d.1.an,d.1.ae,d.1.au,d.1.wh⟩):=Zh.of b;refine⟨Zh,?_,λg=>⟨λhi=>⟨⟨j,ω,hi⟩,λhw=>?_,λhw=>absurd hw A⟩,λhi=>⟨λhw=>absurd g hw,λ_=>?_⟩⟩,λg=>⟨λ_=>?_,λhw=>absurd hw g⟩⟩
  ·grind [List.take_of_length_le,yr]
  ·grind
  ·grind
  ·grind
def Qel (b:Ok cW) (a:Ok yy):Ok Ah:=okZ [IH,Jo,rH] f23 Qs4 ⟨QjS,Qs3 b a .ax,vG⟩ Qs6
end
end sx
namespace syn
open Go Go.RowKit cls
def gz (x:Nd):Bool:=(x.op==2||x.r.length==0)&&(x.op==5||(x.mn==0&&x.mx==0&&!x.lz))&&(x.op==6||x.cap==0)
def bP (x:Nd) (g:Int):Int×Bool:=
 if gz x=false then(0,false)
 else if x.op=1\/x.op=7\/x.op=8 then(0,x.af==0)
 else if x.op=2 then(0,x.af==0&&decide (x.r=aY x.r))
 else if x.op=3\/x.op=4 then(x.af,decide (2<=x.af))
 else if x.op=5 then(1,x.af==1&&decide (0<=x.mn)&&decide (x.mn<=30)&&(x.mx==-1||(decide (x.mn<=x.mx)&&decide (x.mx<=30))))
 else if x.op=6 then(1,x.af==1&&x.cap==g+1&&decide (x.cap<=4))
 else(0,false)
def eF (f:Nat->Nat->Bool×Nat×Nat):Nat->Nat->Nat->Bool×Nat×Nat
 | 0,a,g=>(true,a,g)
 | k+1,a,g=>if (f a g).1=false then f a g else eF f k (f a g).2.1 (f a g).2.2
def fg (L:List Nd):Nat->Nat->Nat->Bool×Nat×Nat
 | 0,a,g=>(false,a,g)
 | n+1,a,g=>if L.length<=a then(false,a,g) else
  if (bP (L.getD a (nd 0)) g).2=false then(false,a,g) else eF (fg L n) (bP (L.getD a (nd 0)) g).1.toNat (a+1) (if (L.getD a (nd 0)).op=6 then g+1 else g)
section
variable {Z:Nat->Option Nat}
def oK (x:Nd):Option Int:=
 let bare:=λ(r:List Rg) (mn mx:Int) (lz:Bool) (cap af:Int)=>decide (x.af=af)&&decide (x.mn=mn)&&decide (x.mx=mx)&&decide (x.lz=lz)&&decide (x.cap=cap)&&decide (x.r.length=r.length)
 if x.op=1\/x.op=7\/x.op=8 then(if bare [] 0 0 false 0 0 then some 0 else none)
 else if x.op=2 then(if x.r=aY x.r then(if bare x.r 0 0 false 0 0 then some 0 else none) else none)
 else if x.op=3\/x.op=4 then(if x.af<2 then none else if bare [] 0 0 false 0 x.af then some x.af else none)
 else if x.op=5 then(if x.mn<0\/30<x.mn\/30<x.mx\/x.mx< -1\/(0<=x.mx/\x.mx<x.mn) then none else if bare [] x.mn x.mx x.lz 0 1 then some 1 else none)
 else if x.op=6 then(if x.cap<1\/4<x.cap then none else if bare [] 0 0 false x.cap 1 then some 1 else none)
 else none
def nO (f:Nat->Option Nat):Nat->Nat->Option Nat
 | 0,a=>some a
 | k+1,a=>match f a with
  | none=>none
  | some b=>nO f k b
def gT (L:List Nd):Nat->Nat->Option Nat
 | 0,_=>none
 | n+1,a=>if L.length<=a then none else match oK (L.getD a (nd 0)) with
  | none=>none
  | some k=>nO (gT L n) k.toNat (a+1)
def ij:List Nd->Nat->Option Nat
 | [],g=>some g
 | x::l,g=>if x.op=6 then(if x.cap=(g:Int)+1 then ij l (g+1) else none) else ij l g
def dG (L:List Nd):Bool:=decide (1<=L.length)&&decide (L.length<=480)&&(fg L 241 0 0).1&&(fg L 241 0 0).2.1==L.length
def Jr (L:List Nd):Bool:=decide (1<=L.length)&&decide (L.length<=480)&&(gT L 241 0==some L.length)&&(ij L 0).isSome
theorem Pb (x:Nd):gz x↔((x.op=2\/x.r=[])/\(x.op=5\/(x.mn=0/\x.mx=0/\x.lz=false))/\(x.op=6\/x.cap=0)):=by
 grind [gz]
theorem Pc (x:Nd) (g:Nat):((bP x g).2↔(∃k,oK x=some k)/\(x.op=6->x.cap=(g:Int)+1))/\((bP x g).2->oK x=some (bP x g).1):=by
 grind [bP,oK,gz]
theorem sk:∀(l m:List Nd) (g:Nat),ij (l++m) g=(ij l g).bind (ij m)
 | [],m,g=>rfl
 | x::l,m,g=>by
  rw[Za1,ij,ij];split
  ·split
   ·exact sk l m _
   ·rfl
  ·exact sk l m g
def hU (L:List Nd) (a b g:Nat):Option Nat:=ij ((L.drop a).take (b-a)) g
def tx (L:List Nd) (a g:Nat):hU L a a g=some g:=by simp[hU,ij]
theorem mA (L:List Nd) {a b c:Nat} (g:Nat) (h1:a<=b) (d:b<=c):hU L a c g=(hU L a b g).bind λg=>hU L b c g:=by
 unfold hU;rw[<-sk];congr 1;rw[show c-a=(b-a)+(c-b) by omega,ZdW,ZbZ,show a+(b-a)=b by omega]
def FN (L:List Nd) {a:Nat} (g:Nat) (h:a<L.length):hU L a (a+1) g=if (L.getD a (nd 0)).op=6 then(if (L.getD a (nd 0)).cap=(g:Int)+1 then some (g+1) else none) else some g:=by
 unfold hU;have e:(L.drop a).take (a+1-a)=[L.getD a (nd 0)]:=by
  rw[show a+1-a=1 by omega,Zaq h,Zag,Zaf h];rfl
 rw[e];rfl
theorem nP (L:List Nd) (e:∀a b,Z a=some b->a<b/\b<=L.length):∀(k a b:Nat),a<=L.length->nO Z k a=some b->a<=b/\b<=L.length
 | 0,a,b,d,h=>by cases(show some a=some b from h);exact⟨Zah _,d⟩
 | k+1,a,b,d,h=>by
  rw[nO] at h;split at h
  ·cases h
  ·rename_i c g
   have h1:=e a c g;have i:=nP L e k c b h1.2 h;omega
theorem nQ (L:List Nd):∀(n a b:Nat),gT L n a=some b->a<b/\b<=L.length
 | 0,a,b,h=>nomatch h
 | n+1,a,b,h=>by
  rw[gT] at h;split at h
  ·cases h
  ·split at h
   ·cases h
   ·rename_i hl _ _ _
    have:=nP L (nQ L n) _ _ _ ω h;omega
def Qll (L:List Nd) (f:Nat->Nat->Bool×Nat×Nat) (r:Nat->Option Nat):Prop:=∀a g,
 ((f a g).1->r a=some (f a g).2.1/\hU L a (f a g).2.1 g=some (f a g).2.2)/\(∀b c,r a=some b->hU L a b g=some c->f a g=(true,b,c))
theorem tz (L:List Nd) {f:Nat->Nat->Bool×Nat×Nat} (h:Qll L f Z) (l:∀a b,Z a=some b->a<b/\b<=L.length):∀(k a g:Nat),a<=L.length->
  ((eF f k a g).1->nO Z k a=some (eF f k a g).2.1/\hU L a (eF f k a g).2.1 g=some (eF f k a g).2.2)/\(∀b d,nO Z k a=some b->hU L a b g=some d->eF f k a g=(true,b,d))
 | 0,a,g,t=>⟨λ_=>⟨rfl,tx L a g⟩,λb d h1 i=>by
   cases(show some a=some b from h1);rw[tx] at i;cases i;rfl⟩
 | k+1,a,g,t=>by
  obtain⟨q,s⟩:=h a g;rw[eF,nO];constructor
  ·intro h1;by_cases m:(f a g).1=false
   ·grind
   ·rw[Zaa m] at h1 ⊢;obtain⟨q1,u⟩:=q (by grind);have j:=l _ _ q1;obtain⟨p1,p2⟩:=(tz L h l k (f a g).2.1 (f a g).2.2 j.2).1 h1;grind [nP,mA]
  ·intro b d h1 i;split at h1
   ·cases h1
   ·rename_i c m
    have j:=l _ _ m;have n:=nP L l _ _ _ j.2 h1;rw[mA L g (Zcx j.1) n.1] at i;obtain⟨g1,o,p⟩:=ZdC.1 i;have e:=s c g1 m o;rw[e];simp only[Zb0,Za0];exact(tz L h l k c g1 j.2).2 b d h1 p
theorem MD (L:List Nd):∀n,Qll L (fg L n) (gT L n)
 | 0=>λa g=>⟨λh=>(by cases h),λb l h=>(by cases h)⟩
 | n+1=>λa g=>by
  have o:=MD L n;rw[fg,gT];by_cases hl:L.length<=a
  ·grind
  rw[Zaa hl,Zaa hl];obtain⟨hs,j⟩:=Pc (L.getD a (nd 0)) g;have c:=FN L g (show a<L.length by omega);generalize L.getD a (nd 0)=x at hs j c ⊢;constructor
  ·intro h1;by_cases r:(bP x g).2=false
   ·grind
   ·rw[Zaa r] at h1 ⊢;have d:(bP x g).2:=by grind
    rw[j d];obtain⟨p1,p2⟩:=(tz L o (nQ L n) _ _ _ ω).1 h1;refine⟨p1,?_⟩;have f:=nP L (nQ L n) _ _ _ ω p1;rw[mA L g (ZcR a) f.1,c];grind
  ·intro b l h1 m;split at h1
   ·cases h1
   ·rename_i k hk
    have f:=nP L (nQ L n) _ _ _ ω h1;rw[mA L g (ZcR a) f.1,c] at m;obtain⟨g1,s,p⟩:=ZdC.1 m;have q:x.op=6->x.cap=(g:Int)+1:=λt=>by
     grind
    have d:=hs.2 ⟨⟨k,hk⟩,q⟩;have e:=j d;rw[hk] at e;cases e;rw[Zaa (by grind)];have i:(if x.op=6 then g+1 else g)=g1:=by
     grind
    rw[i];exact(tz L o (nQ L n) _ _ _ ω).2 b l h1 p
theorem Pd (L:List Nd):Jr L=dG L:=by
 obtain⟨a,b⟩:=MD L 241 0 0;grind [Jr,dG,Option.isSome_iff_exists,hU]
end
end syn
set_option maxRecDepth 100000
set_option maxHeartbeats 4000000
namespace sx
noncomputable section
open Go Go.RowKit cls syn
def QgY (v:AV D.E):C Nd:=aB (asAgg v) λcs=>ug D 7 cs
def Qlm (args:List (AV D.E)):C Nd:=match args with
 | [a]=>QgY a
 | _=>.fail
def Qln (args:List (AV D.E)):C (Nd×Int):=match args with
 | [a,b]=>aB (QgY a) λx=>aP (cQ b) λ_ n=>.ret (x,n)
 | _=>.fail
def jl (x:Nd):Prop:=x.r.length<=1000000
def UM:bp D:=cq 153 Nd (λa _=>Qlm a) (λ_=>True) (λy=>[.agg (D.bm 7 y)]) λy=>.bool (gz y)
def UN:bp D:=cq 126 (Nd×Int) (λa _=>Qln a) (λy=>jl y.1/\0<=y.2/\y.2<=1000000) (λy=>[.agg (D.bm 7 y.1),Qyy y.2]) λy=>.tuple [Qyy (bP y.1 y.2).1,.bool (bP y.1 y.2).2]
structure WkS where
 l:List Nd
 at_:Int
 gr:Int
abbrev Ϻ:=WkS×Int
def wkO (l:List Nd) (a g:Int):List (Nat×AO D.E):=[(0,.cells [.list 7 l,.int .i64 a,.int .i64 g] 207 false)]
def Qs9 (args:List (AV D.E)) (s:St D.E):C Ϻ:=match args with
 | [p,d]=>match p with
  | .ptr b _=>aB (dg (s.h.get b)) λo=>match o with
   | .cells cs _ _=>match cs with
    | [l,a,g]=>aB (aW D s 7 l) λl=>aP (cQ a) λ_ a=>aP (cQ g) λ_ g=>aP (cQ d) λ_ d=>.ret (⟨l,a,g⟩,d)
    | _=>.fail
   | _=>.fail
  | _=>.fail
 | _=>.fail
def WkP (y:Ϻ):Prop:=(y.1.l.length<=1000000/\∀x∈y.1.l,jl x)/\(0<=y.1.at_/\y.1.at_<=y.1.l.length)/\(0<=y.1.gr/\y.1.gr<=y.1.at_)/\0<=y.2/\y.2<=241
def pw (y:Ϻ):Bool×Nat×Nat:=fg y.1.l (241-y.2.toNat) y.1.at_.toNat y.1.gr.toNat
def yD:bp D:=⟨92,Ϻ,Qs9,WkP,λy=>[.ptr 0 0,Qyy y.2],λy=>wkO y.1.l y.1.at_ y.1.gr,λy=>.bool (pw y).1,λy=>wkO y.1.l ((pw y).2.1:Nat) ((pw y).2.2:Nat),1,1⟩
def ϻ (y:Ϻ) (x:Int×Int×Int):Prop:=WkP (⟨y.1.l,x.1,x.2.1⟩,y.2)/\y.1.at_<y.1.l.length/\eF (fg y.1.l (240-y.2.toNat)) x.2.2.toNat x.1.toNat x.2.1.toNat=pw y/\(0<x.2.2->y.2<=240)/\x.2.2<=9223372036854775807
def QgZ (y:Ϻ):Nd:=y.1.l.getD y.1.at_.toNat (nd 0)
def UO (y:Ϻ):Int:=if (QgZ y).op=6 then y.1.gr+1 else y.1.gr
def UP (y:Ϻ):Prop:=y.1.at_<y.1.l.length/\y.2<=240/\(bP (QgZ y) y.1.gr).2
def Qta (y:yD.Y):dj D:=⟨[(5,.fact 6)],[],[(1020,⟨Int×Int×Int,[0,1],λx=>[(6,Qyy x.2.2)],[],λx=>wkO y.1.l x.1 x.2.1,1,ϻ y,λx=>x.2.2.toNat⟩)],[(127,⟨Unit,[0,1,6],λ_=>[],[],λ_=>wkO y.1.l (y.1.at_+1) (UO y),1,λ_=>UP y,λ_=>0⟩)],1,[]⟩
def Qlo (y:yD.Y):Prop:=vc [yD.under (λy=>241-y.2.toNat) (241-y.2.toNat),UN] f92 yD Qta y
def Qaa (args:List (AV D.E)) (s:St D.E):C (List Nd):=match args with
 | [a]=>aB (aW D s 7 a) λl=>.ret (l:List Nd)
 | _=>.fail
def cR (y:List Nd):Prop:=∀x∈y,jl x
def Js:bp D:=cq 53 (List Nd) Qaa cR (λy=>[.list 7 y]) λy=>.bool (dG y)
def UQ (y:Nd):Prop:=let a:Prop:=(aj (aE y.op 6) (true=gz y/\True) (aE y.cap 0=gz y/\True));let q1:Prop:=(aj (aE y.op 5) (a) (aj (aE y.mn 0) (aj (aE y.mx 0) (aj (!y.lz) (a) (false=gz y/\True)) (false=gz y/\True)) (false=gz y/\True)));aj (aE y.op 2) (q1) (aj (aE (ab y.r) 0) (q1) (false=gz y/\True))
abbrev RAV {T0 T1 T2 T3 T4 T5 T6:Type} (a:T0) (b:T1) (c:T2) (d:T3) (e:T4) (f:T5) (g:T6) (p:Prop):Prop:=aa [a] (aa [b] (aa [c] (aa [d] (aa [e] (aa [f] (aa [g] p))))))
abbrev RA5 (v:Nd) (p:Prop):Prop:=aa [v.op] (aa [v.r] (aa [v.mn] (aa [v.mx] (aa [v.lz] (aa [v.cap] (aa [v.af] p))))))
def UR (y:Nd×Int):Prop:=let g:=aM y.1.mn y.1.mx;let q1:=aE y.1.af 0;let a:=(bP y.1 y.2).2;let b:=(bP y.1 y.2).1;let h:=aE y.1.cap (ay .i64 y.2 1);let i:=!(gz (Nd.mk y.1.op y.1.r y.1.mn y.1.mx y.1.lz y.1.cap y.1.af));let j:Prop:=(RAO y.1.mn (1=b/\false=a/\True));let d:Prop:=(RAO y.1.af (0=b/\q1=a/\True));let e:Prop:=(RAP y.1.af y.1.af (y.1.af=b/\aM 2 y.1.af=a/\True));let u:=RAO y.1.af (1=b/\false=a/\True);let f:Prop:=(aj (aE y.1.op 5) (aj (aE y.1.af 1) (aj (aM 0 y.1.mn) (aj (aM y.1.mn 30) (aj (aE y.1.mx (-1)) (RAR y.1.af y.1.mn y.1.mn y.1.mx (1=b/\true=a/\True)) (aj g (RAV y.1.af y.1.mn y.1.mn y.1.mx y.1.mx y.1.mn y.1.mx (1=b/\aM y.1.mx 30=a/\True)) (RAU y.1.af y.1.mn y.1.mn y.1.mx y.1.mx y.1.mn (1=b/\false=a/\True)))) (RAQ y.1.af y.1.mn y.1.mn (1=b/\false=a/\True))) (RAP y.1.af y.1.mn (1=b/\false=a/\True))) u) (aj (aE y.1.op 6) (aj (aE y.1.af 1) (aj h (RAQ y.1.af y.1.cap y.1.cap (1=b/\aM y.1.cap 4=a/\True)) (RAP y.1.af y.1.cap (1=b/\false=a/\True))) u) (0=b/\false=a/\True)));let c:Prop:=(aj (aE y.1.op 2) (aj q1 (Iv (y.1.r.length<=100000000)/\RAO y.1.r (0=b/\decide (y.1.r=aY y.1.r)=a/\True)) (0=b/\false=a/\True)) (aj (aE y.1.op 3) (aj (aE y.1.op 3) (e) (f)) (aj (aE y.1.op 4) (e) (f))));Iv True/\RA5 y.1 (aj i (0=b/\false=a/\True) (aj (aE y.1.op 1) (aj (aE y.1.op 1) (d) (c)) (aj (aE y.1.op 7) (aj (aE y.1.op 7) (d) (c)) (aj (aE y.1.op 8) (d) (c)))))
def Jt (y:WkS×Int):Prop:=let g:=ay .i64 y.2 1;let q1:=aM (ab y.1.l) y.1.at_;let h:=((pw y).2.2:Int);let i:=((pw y).2.1:Int);let a:=gt (Nd.mk 0 [] 0 0 false 0 0) y.1.l y.1.at_.toNat;let k:=Nd.mk a.op a.r a.mn a.mx a.lz a.cap a.af;let d:=bP k y.1.gr;let e:=λp:Prop=>RAO y.1.l p;let j:Prop:=(false=(pw y).1/\e (y.1.at_=i/\y.1.gr=h/\True));aj q1 (RAP y.1.at_ y.1.l (j)) (RAP y.1.at_ y.1.l (aj (aD 240 y.2) (j) (aM 0 y.1.at_/\aD y.1.at_ (ab y.1.l)/\aa [y.1.l] (aa [y.1.at_,a.op] (aa [a.r] (aa [a.mn,a.mx] (aa [a.lz] (aa [a.cap,a.af] (Iv (jl k/\0<=y.1.gr/\y.1.gr<=1000000)/\aa [a.op] (aa [a.r] (aa [a.mn,a.mx] (aa [a.lz] (aa [a.cap,a.af,y.1.gr,a.op] (aa [a.r] (aa [a.mn,a.mx] (aa [a.lz] (aa [a.cap,a.af,y.1.gr] ((lf .i64 d.1)->aj (!d.2) (j) ((aj (aE a.op 6) (∃z:Unit,aa [y.2,d.1] (aa [y.1.l] (ay .i64 y.1.at_ 1=(y.1.at_+1)/\ay .i64 y.1.gr 1=UO y/\(Iv (UP y))))) (∃z:Unit,aa [y.2,d.1] (aa [y.1.l] (ay .i64 y.1.at_ 1=(y.1.at_+1)/\y.1.gr=UO y/\(Iv (UP y))))))/\(∀x:Unit,(Iv (UP y))->(∃z:Int×Int×Int,aa [y.2] (d.1=z.2.2/\e ((y.1.at_+1)=z.1/\UO y=z.2.1/\(Iv (ϻ y z)))))/\(∀x1:Int×Int×Int,let f:=(WkS.mk y.1.l x1.1 x1.2.1,g);let b:=((pw f).2.2:Int);let c:=((pw f).2.1:Int);(Iv (ϻ y x1))->aj (aD 0 x1.2.2) (Iv (WkP f/\(241-g.toNat)<(241-y.2.toNat))/\aa [g] (aa [y.1.l] (aa [x1.1,x1.2.1] (aj (!(pw f).1) (false=(pw y).1/\e (c=i/\b=h/\True)) (∃z:Int×Int×Int,aa [y.2] (dE .i64 x1.2.2 1=z.2.2/\e (c=z.1/\b=z.2.1/\(Iv (ϻ y z/\z.2.2.toNat<x1.2.2.toNat))))))))) (true=(pw y).1/\e (x1.1=i/\x1.2.1=h/\True)))))))))))))))))))))))
def US:∀y,Jt y=Qlo y:=λy=>by kernel_rfl
abbrev RAF (p:Prop):Prop:=aa ([0,0]:List Int) p
def UT (y:List Nd):Prop:=let a:=(WkS.mk y 0 0,(0:Int));aj (aD (ab y) 1) (false=dG y/\True) (aj (aD 480 (ab y)) (false=dG y/\True) (Iv (WkP a)/\RAG (RAO y (RAF (aj (pw a).1 (aE ((pw a).2.1:Int) (ab y)=dG y/\True) (false=dG y/\True))))))
theorem Qtc (y:Nd) (a:UM.pre y):UQ y:=by
 grind [UQ,gz]
def Qlp:Ok UM:=okZ [] f153 (λ_=>dk ()) trivial Qtc
theorem Qtd (y:Nd×Int) (e:UN.pre y):UR y:=by
 obtain⟨⟨op,r,mn,mx,lz,cap,af⟩,g⟩:=y;obtain⟨h1,h,i⟩:r.length<=1000000/\0<=g/\g<=1000000:=e;have c:ay IntKind.i64 g 1=g+1:=bA ω ω;have d:∀a b:Int,(a==b)=decide (a=b):=λa b=>by rfl
 unfold UR bP;simp only[bj,aw,ib,iA,vD,QjJ,c,d,Zan,Zao,ZaP,Zbi];generalize gz _=f;generalize aY r=k;have j:r.length<=100000000:=ω;cases f
 all_goals
  with_reducible repeat' first | apply And.intro | intro _
  all_goals first
   | assumption
   | (simp_all;done)
   | (simp_all;omega)
   | (exfalso;omega)
def Qlq (a:Ok cW):Ok UN:=okZ [UM,Fw] f126 (λ_=>dk ()) ⟨Qlp,Qd0 a⟩ Qtd
theorem Bt {L:List Nd} {n:Nat} (h:∀a g,a<=L.length->g<=a->a<=(fg L n a g).2.1/\(fg L n a g).2.1<=L.length/\(fg L n a g).2.2<=(fg L n a g).2.1):∀k a g,a<=L.length->g<=a->a<=(eF (fg L n) k a g).2.1/\(eF (fg L n) k a g).2.1<=L.length/\(eF (fg L n) k a g).2.2<=(eF (fg L n) k a g).2.1
 | 0,a,g,h1,b=>⟨Zah _,h1,b⟩
 | k+1,a,g,h1,b=>by
  have:=h a g h1 b;unfold eF;split
  ·exact this
  ·have:=Bt h k _ _ this.2.1 this.2.2;omega
theorem ME (L:List Nd):∀n a g,a<=L.length->g<=a->a<=(fg L n a g).2.1/\(fg L n a g).2.1<=L.length/\(fg L n a g).2.2<=(fg L n a g).2.1
 | 0,a,g,h1,b=>⟨Zah _,h1,b⟩
 | n+1,a,g,h1,b=>by
  unfold fg;split
  ·grind
  ·split
   ·grind
   ·have:=Bt (ME L n) (bP (L.getD a (nd 0)) g).1.toNat (a+1) (if (L.getD a (nd 0)).op=6 then g+1 else g) ω (by grind);omega
theorem Qlr (y:Ϻ) (B:yD.pre y):Jt y:=by
 obtain⟨⟨l,a,g⟩,d⟩:=y;obtain⟨⟨h1,e⟩,v,w,c⟩:(l.length<=1000000/\∀x∈l,jl x)/\(0<=a/\a<=l.length)/\(0<=g/\g<=a)/\0<=d/\d<=241:=B;obtain⟨a,rfl⟩:=Zau v.1;obtain⟨g,rfl⟩:=Zau w.1;obtain⟨d,rfl⟩:=Zau c.1;have j:pw (⟨l,a,g⟩,d)=fg l (241-d) a g:=by rfl
 have p:=ME l;unfold Jt;simp only[bN,bj,aw,ZaX,ZaY,ZaZ,Zan,Zao,dL,Zad,Fa];have u:ay .i64 (d:Int) 1=((d+1:Nat):Int):=by grind
 have s:(⟨(l.getD a ⟨0,[],0,0,false,0,0⟩).op,(l.getD a ⟨0,[],0,0,false,0,0⟩).r,(l.getD a ⟨0,[],0,0,false,0,0⟩).mn,(l.getD a ⟨0,[],0,0,false,0,0⟩).mx,(l.getD a ⟨0,[],0,0,false,0,0⟩).lz,(l.getD a ⟨0,[],0,0,false,0,0⟩).cap,(l.getD a ⟨0,[],0,0,false,0,0⟩).af⟩:Nd)=l.getD a (nd 0):=rfl;have t:(l.getD a ⟨0,[],0,0,false,0,0⟩).op=(l.getD a (nd 0)).op:=rfl;rw[s,t,u,j];have zero:∀(n:Nat),(n=0\/l.length<=a\/(bP (l.getD a (nd 0)) g).2=false)->false=(fg l n a g).1/\(a:Int)=((fg l n a g).2.1:Nat)/\(g:Int)=((fg l n a g).2.2:Nat):=λn h=>by
  cases n with
  | zero=>exact⟨rfl,rfl,rfl⟩
  | succ n=>
   grind [fg]
 have I:ay .i64 (a:Int) 1=(a:Int)+1:=bA ω ω;have J:ay .i64 (g:Int) 1=(g:Int)+1:=bA ω ω;have on:QgZ (⟨l,a,g⟩,d)=l.getD a (nd 0):=rfl;have C:UO (⟨l,a,g⟩,d)=if (l.getD a (nd 0)).op=6 then(g:Int)+1 else g:=by rfl
 have ok:UP (⟨l,a,g⟩,d)=((a:Int)<l.length/\(d:Int)<=240/\(bP (l.getD a (nd 0)) g).2):=by rfl
 rw[C,ok];refine⟨λk=>zero _ (.inr (.inl ω)),λk=>⟨λk2=>zero _ (.inl ω),λk2=>⟨ω,ω,⟨e _ ?_,ω,ω⟩,λkf=>⟨λk3=>zero _ (.inr (.inr k3)),λk3=>⟨⟨λk4=>?_,λk4=>?_⟩,λ_=>⟨⟨((a:Int)+1,(if (l.getD a (nd 0)).op=6 then(g:Int)+1 else g),(bP (l.getD a (nd 0)) g).1),rfl,rfl,rfl,?_⟩,λx A=>?_⟩⟩⟩⟩⟩⟩
 ·grind
 ·grind
 ·grind
 ·have L:a<l.length:=ω;have kd:d<=240:=ω;have F:241-d=(240-d)+1:=ω;obtain⟨G,K⟩:∃G:Nat,(if (l.getD a (nd 0)).op=6 then g+1 else g)=G:=⟨_,rfl⟩;have i:(if (l.getD a (nd 0)).op=6 then(g:Int)+1 else g)=(G:Int):=by grind
  have z:G<=g+1:=ω;rw[i];refine⟨⟨⟨h1,e⟩,⟨show 0<=(a:Int)+1 by omega,show(a:Int)+1<=(l.length:Int) by omega⟩,⟨show 0<=(G:Int) by omega,show(G:Int)<=(a:Int)+1 by omega⟩,c.1,c.2⟩,show(a:Int)<(l.length:Int) by omega,?_,λ_=>k2,kf.2⟩;grind [fg,Int.toNat_natCast]
 ·obtain⟨b,g1,q⟩:=x;obtain⟨⟨_,i1,i2,_⟩,i3,i4,i5,i6⟩:=A;have i1:0<=b/\b<=(l.length:Int):=i1;have i2:0<=g1/\g1<=b:=i2;have i4:eF (fg l (240-d)) q.toNat b.toNat g1.toNat=fg l (241-d) a g:=i4.trans j;obtain⟨b,rfl⟩:=Zau i1.1;obtain⟨g1,rfl⟩:=Zau i2.1;simp only[Zad] at i4;have f:pw (⟨l,b,g1⟩,((d+1:Nat):Int))=fg l (240-d) b g1:=by
   grind [pw,Int.toNat_natCast]
  simp only;rw[f];obtain⟨b1,D,E⟩:=p (240-d) b g1 ω ω;refine⟨λk4=>⟨⟨⟨⟨h1,e⟩,i1,i2,ω,show((d+1:Nat):Int)<=241 by omega⟩,ω⟩,λk5=>?_,λk5=>?_⟩,λk4=>?_⟩
  ·obtain⟨m,o⟩:∃m,q.toNat=m+1:=⟨q.toNat-1,ω⟩;grind [eF]
  ·obtain⟨m,o⟩:∃m,q.toNat=m+1:=⟨q.toNat-1,ω⟩;rw[o] at i4;unfold eF at i4;rw[Zaa (by grind)] at i4;have e2:dE .i64 q 1=q-1:=ye ω (by grind);have H:(q-1).toNat=m:=ω;rw[e2];refine⟨(((fg l (240-d) b g1).2.1:Nat),((fg l (240-d) b g1).2.2:Nat),q-1),rfl,rfl,rfl,⟨⟨⟨h1,e⟩,⟨ZaF _,show((fg l (240-d) b g1).2.1:Int)<=(l.length:Int) by omega⟩,⟨ZaF _,show((fg l (240-d) b g1).2.2:Int)<=((fg l (240-d) b g1).2.1:Int) by omega⟩,c.1,c.2⟩,i3,?_,λ_=>k2,by grind⟩,by grind⟩;grind [Int.toNat_natCast]
  ·rw[show q.toNat=0 by omega] at i4;rw[<-i4];exact⟨rfl,rfl,rfl⟩
def Qg0 (a:Ok cW):Ok yD:=QY (λy=>241-y.2.toNat) US (Qlq a) Qlr
theorem Qte (y:List Nd) (c:Js.pre y):UT y:=by
 have c:∀x∈y,jl x:=c;unfold UT;simp only[bj,aw,vD,gF,iz];have e:pw (⟨y,0,0⟩,0)=fg y 241 0 0:=rfl;rw[e];unfold dG;have d:∀a b:Nat,(a==b)=decide ((a:Int)=b):=λa b=>by grind
 rw[d];refine⟨λh=>?_,λh=>⟨λf=>?_,λf=>⟨⟨⟨show y.length<=1000000 by omega,c⟩,⟨ZaQ _,ZaF _⟩,⟨ZaQ _,ZaQ _⟩,ZaQ _,show(0:Int)<=241 by decide⟩,λg=>?_,λg=>?_⟩⟩⟩
 ·grind
 ·grind
 ·grind
 ·grind
def Qem (a:Ok cW):Ok Js:=okZ [yD] f53 (λ_=>dk ()) (Qg0 a) Qte
abbrev QL:=List Int×List Int
abbrev QS:=QL×cm
def gq (p:QL):List Gt:=(List.range p.1.length).map λi=>(if p.1.getD i 0= -1 then 65533 else p.1.getD i 0,p.2.getD (i+1) 0-p.2.getD i 0)
structure Db (p:QL):Prop where
 len:p.1.length<=1000
 r:∀i,i<p.1.length->p.1.getD i 0=if fI (gq p) i then-1 else aN (gq p) i
 a:∀i,i<=p.1.length->p.2.getD i 0=aq (gq p) i
 al:p.2.length=p.1.length+1
 f:Fx (gq p)
 n:∀g∈gq p,1<=g.2/\g.2<=4
 p0:∀i,0<=aN (gq p) i
def fS (y:QS):Prop:=Db y.1/\(0<=y.2.i/\y.2.i<=100000)/\y.2.an=0/\0<=y.2.ae/\y.2.ae<=4
def qO (p:QL) (s:cm):List (Nat×AO D.E):=[(0,.cells [.list 14 p.1,.list 5 p.2,.int .i64 s.i,.int .i64 s.ae,.int .i64 s.au,.int .i64 s.wh] 159 false)]
def Qg1 (v:AV D.E) (s:St D.E):C QS:=match v with
 | .ptr b _=>aB (dg (s.h.get b)) λo=>match o with
  | .cells cs _ _=>match cs with
   | [r,a,i,g,e,w]=>aB (aW D s 14 r) λr=>aB (aW D s 5 a) λa=>aP (cQ i) λ_ i=>aP (cQ g) λ_ g=>aP (cQ e) λ_ e=>aP (cQ w) λ_ w=>.ret (((r:List Int),(a:List Int)),⟨i,0,g,e,w⟩)
   | _=>.fail
  | _=>.fail
 | _=>.fail
def inQ (args:List (AV D.E)) (s:St D.E):C QS:=match args with
 | [p]=>Qg1 p s
 | _=>.fail
def UU (args:List (AV D.E)) (s:St D.E):C (QS×Int):=match args with
 | [p,a]=>aB (Qg1 p s) λy=>aP (cQ a) λ_ n=>.ret (y,n)
 | _=>.fail
def Qen (args:List (AV D.E)) (s:St D.E):C (QS×Int×Int):=match args with
 | [p,a,b]=>aB (Qg1 p s) λy=>aP (cQ a) λ_ m=>aP (cQ b) λ_ n=>.ret (y,m,n)
 | _=>.fail
abbrev yE (f:FuncId) (Y:Type) (qs:Y->QS) (zL:List (AV D.E)->St D.E->C Y) (pre:Y->Prop) (args:Y->List (AV D.E)) (out:Y->cm) (res:Y->AV D.E):bp D:=⟨f,Y,zL,λy=>fS (qs y)/\pre y,λy=>.ptr 0 0::args y,λy=>qO (qs y).1 (qs y).2,res,λy=>qO (qs y).1 (out y),1,1⟩
variable {G:List Gt}
def Qls (s:cm) (e a:Int):cm:=⟨s.i,s.an,s.ae,cL (aE s.au 0) e s.au,cL (aE s.au 0) a s.wh⟩
def tA:bp D:=yE 63 (QS×Int×Int) (·.1) Qen (λ_=>True) (λy=>[Qyy y.2.1,Qyy y.2.2]) (λy=>Qls y.1.2 y.2.1 y.2.2) λ_=>.tuple []
def Ai:bp D:=yE 64 QS (λy=>y) inQ (λy=>y.2.i<=y.1.1.length) (λ_=>[]) (λy=>y.2) λy=>Qyy (aq (gq y.1) (nn y.2).i)
def sm:bp D:=yE 100 (QS×Int) (·.1) UU (λy=>0<=y.2/\y.2<=127) (λy=>[.int .i32 y.2]) (λy=>y.1.2) λy=>.bool (bd (gq y.1.1) (nn y.1.2) y.2)
def UW:bp D:=cq 209 Int (λa _=>in1 a) (λ_=>True) (λy=>[.int .i32 y]) λy=>.bool (iR y)
def Bu:bp D:=cq 187 (List Rg) Fu (λ_=>True) (λy=>[.list 6 y]) λy=>.list 7 [xZ y]
def UX:bp D:=cq 208 (List Rg) Fu (λ_=>True) (λy=>[.list 6 y]) λy=>.bool (dH y)
def Dc:bp D:={ Ad with f:=101 }
def Qtk (y:Dc.Y):dj D:=⟨[],[],[(250,⟨Nat,[1],λx=>[(5,.grow 7 ({ nd y.1 with af:=y.2.length }::(y.2.take x).flatten) 0),(6,Qyy x)],[],λ_=>[(0,.tok 7 149)],1,λx=>x<=y.2.length,λx=>y.2.length-x⟩)],[],1,[]⟩
def UY:bp D:={ O5 with f:=192 }
def Pe:bp D:={ Je with f:=193 }
def Qtn (y:Pe.Y):dj D:=⟨[],[],[(122,⟨Nat,[0],λx=>[(4,Qyy (iy (y.take x))),(5,Qyy x)],[],λ_=>[],0,λx=>x<=y.length,λx=>y.length-x⟩)],[],1,[]⟩
def Pf:bp D:=yE 191 QS (λy=>y) inQ (λ_=>True) (λ_=>[]) (λy=>zz (dK (gq y.1) (nn y.2))) λy=>.tuple [.str (ie (gq y.1) (nn y.2)),.bool (gZ (gq y.1) (nn y.2))]
def Pg (y:QS) (x:Int×By×Bool):Prop:=(0<=x.1/\x.1<=100000)/\x.2.1.length<=x.1/\(nn y.2).i<=x.1.toNat/\(x.2.2=decide ((nn y.2).i<x.1.toNat))/\∃n,(gq y.1).length<=n+x.1.toNat/\cB (gq y.1) n x.1.toNat x.2.1=cB (gq y.1) ((gq y.1).length-(nn y.2).i) (nn y.2).i []
def Qtp (y:Pf.Y):dj D:=⟨[],[],[(28,⟨Int×By×Bool,[0],λx=>[(4,.str x.2.1),(5,.bool x.2.2)],[],λx=>qO y.1 ⟨x.1,0,y.2.ae,y.2.au,y.2.wh⟩,1,Pg y,λx=>y.1.1.length-x.1.toNat⟩)],[],1,[]⟩
def UZ (y:(((List Int)×(List Int))×cm)×Int×Int):Prop:=let a:=aE y.1.2.au 0;let q1:=cL a y.2.2 y.1.2.wh;let b:=cL a y.2.1 y.1.2.au;let c:=λp:Prop=>aa [y.1.1.1,y.1.1.2] (aa [y.1.2.i,y.1.2.ae] p);aj a (c (y.2.1=b/\y.2.2=q1/\True)) (c (y.1.2.au=b/\y.1.2.wh=q1/\True))
def U0 (y:((List Int)×(List Int))×cm):Prop:=let a:=gt 0 y.1.2 y.2.i.toNat;aM 0 y.2.i/\aD y.2.i (ab y.1.2)/\aa [y.1.2] (aa [y.2.i,a] (a=aq (gq y.1) y.2.i.toNat/\aa [y.1.1,y.1.2] (aa [y.2.i,y.2.ae,y.2.au,y.2.wh] (True))))
def U1 (y:(((List Int)×(List Int))×cm)×Int):Prop:=let a:=bd (gq y.1.1) (nn y.1.2) y.2;let q1:=aD y.1.2.i (ab y.1.1.1);let b:=gt 0 y.1.1.1 y.1.2.i.toNat;let c:Prop:=(aa [y.1.1.1,y.1.1.2] (aa [y.1.2.i,y.1.2.ae,y.1.2.au,y.1.2.wh] (True)));aj q1 (aM 0 y.1.2.i/\q1/\aa [y.1.2.i] (aa [y.1.1.1,y.1.1.1] (aa [y.1.2.i,b] (aE b y.2=a/\c)))) (aa [y.1.2.i] (aa [y.1.1.1] (false=a/\c)))
def Qeo (y:Int):Prop:=let a:Prop:=(aj (aM 123 y) (aM y 126=iR y/\True) (false=iR y/\True));let q1:Prop:=(aj (aM 91 y) (aj (aM y 96) (true=iR y/\True) (a)) (a));let b:Prop:=(aj (aM 58 y) (aj (aM y 64) (true=iR y/\True) (q1)) (q1));aj (aM 33 y) (aj (aM y 47) (true=iR y/\True) (b)) (b)
def Ju (y:List (Int×Int)):Prop:=
 ([Nd.mk 2 y 0 0 false 0 0]:List Nd)=([xZ y]:List Nd)/\
 True
def U3 (y:List (Int×Int)):Prop:=let a:=(gt (0,0) y 0).1;let q1:=(gt (0,0) y 0).2;aj (aE (ab y) 1) (Tt 1 (aD 0 (ab y)/\Tt 1 (aD 0 (ab y)/\aa [a,q1] (aE a q1=dH y/\True)))) (false=dH y/\True)
def U4 (y:Int×(List (List Nd))):Prop:=let a:=ab y.2;let q1:=y.2.length;let b:=b9 y.1 y.2;let c:=Nd.mk y.1 [] 0 0 false 0 (q1:Int);aj (aE a 1) (Tt 1 (aD 0 a/\gt [] y.2 0=b/\True)) (aj (aE a 0) (([Nd.mk 1 [] 0 0 false 0 0]:List Nd)=b/\True) ((∃z:Nat,aa [y.2] (([Nd.mk y.1 [] 0 0 false 0 a]:List Nd)=(c::(List.flatten (List.take z y.2)))/\0=(z:Int)/\(Iv (z<=q1))))/\(∀x:Nat,let d:=(c::(List.flatten (List.take x y.2)));let e:=bn d (gt [] y.2 (x:Int).toNat);(Iv (x<=q1))->aj (aD (x:Int) a) (aM 0 (x:Int)/\aD (x:Int) a/\ba (ab e) 72/\∃z:Nat,aa [y.2] (e=(c::(List.flatten (List.take z y.2)))/\ay .i64 (x:Int) 1=(z:Int)/\(Iv (z<=q1/\(q1-z)<(q1-x))))) (d=b/\True))))
def U5 (y:(List UInt8)×(List UInt8)):Prop:=let a:=!(aE (fo y.1) (fo y.2));aj a (aD (fo y.1) (fo y.2)=iS y.1 y.2/\True) (slt y.1 y.2=iS y.1 y.2/\True)
def U6 (y:List UInt8):Prop:=aj (aD 2 (fo y)) (0=(e_ y).1/\false=(e_ y).2/\True) ((∃z:Nat,RAO y (0=iy (List.take z y)/\0=(z:Int)/\(Iv (z<=y.length))))/\(∀x:Nat,let a:=y.length;let q1:=iy (List.take x y);let b:=aD (x:Int) (fo y);(Iv (x<=a))->aj b (aM 0 (x:Int)/\b/\∃z:Nat,RAO y (ay .i64 (jx .i64 q1 10) (xf .i64 (dE .u8 (sat y (x:Int)) 48))=iy (List.take z y)/\ay .i64 (x:Int) 1=(z:Int)/\(Iv (z<=a/\(a-z)<(a-x))))) (q1=(e_ y).1/\aM q1 30=(e_ y).2/\True)))
def U7 (y:((List Int)×(List Int))×cm):Prop:=let a:=y.1.1;let q1:=ie (gq y.1) (nn y.2);let e:=ab a;let j:=gZ (gq y.1) (nn y.2);let k:=((cB (gq y.1) ((gq y.1).length-y.2.i.toNat) y.2.i.toNat []).1:Int);let f:=λp:Prop=>aa [a,y.1.2] p;let g:=λp:Prop=>aa [y.2.ae,y.2.au,y.2.wh] p;let l:Prop:=(y.2.ae=((y.2.ae.toNat:Nat):Int)/\aa [y.2.au,y.2.wh] (True));(∃z:Int×(List UInt8)×Bool,[]=z.2.1/\false=z.2.2/\f (y.2.i=z.1/\g ((Iv (Pg y z)))))/\(∀x:Int×(List UInt8)×Bool,let b:=gt 0 a x.1.toNat;let h:=zS x.2.1 (Utf8.encode b).data.toList;let c:Prop:=(x.2.1=q1/\x.2.2=j/\f (x.1=k/\l));let d:Prop:=(aM 0 x.1/\aD x.1 e/\aM (fo h) BIG/\aa [a] (aa [x.1,b] (∃z:Int×(List UInt8)×Bool,h=z.2.1/\true=z.2.2/\f (ay .i64 x.1 1=z.1/\g ((Iv (Pg y z/\(a.length-z.1.toNat)<(a.length-x.1.toNat))))))));(Iv (Pg y x))->aj (aD x.1 e) (aM 0 x.1/\aD x.1 e/\aj (aM 48 b) (aM 0 x.1/\aD x.1 e/\aa [x.1] (aa [a,a] (aa [x.1,b] (aa [a] (aa [x.1,b] (aj (aM b 57) (aj (!(seq x.2.1 [])) (d) (aM 0 x.1/\aD x.1 e/\aa [a] (aa [x.1,b] (aj (!(aE b 48)) (d) (∃z:Int×(List UInt8)×Bool,x.2.1=z.2.1/\true=z.2.2/\f (ay .i64 x.1 1=z.1/\g ((Iv (Pg y z/\(a.length-z.1.toNat)<(a.length-x.1.toNat)))))))))) (c))))))) (aa [x.1] (aa [a,a] (aa [x.1,b] (c))))) (aa [x.1] (aa [a] (c))))
def yF (p:QL):(gq p).length=p.1.length:=by unfold gq;simp
theorem FO {i:Nat} (h:fI G i):aN G i=65533:=by
 grind [aN,fI]
theorem Db.rune {p:QL} (h:Db p) {i:Nat} (hi:i<p.1.length):(fI (gq p) i=false/\p.1.getD i 0=aN (gq p) i)\/(fI (gq p) i/\p.1.getD i 0= -1/\aN (gq p) i=65533):=by
 have:=h.r i hi;grind [FO]
def Jv {s:Ps} (r:Int) (h:s.i<G.length):bd G s r=decide (aN G s.i=r):=Ul r h
def Qtr (y:QS×Int×Int) (a:tA.pre y):UZ y:=by
 unfold UZ;simp only[ej];exact⟨λh=>by rw[h];exact⟨rfl,rfl⟩,λh=>by rw[h];exact⟨rfl,rfl⟩⟩
def vH:Ok tA:=okZ [] f63 (λ_=>dk ()) trivial Qtr
def Qts (y:QS) (d:Ai.pre y):U0 y:=by
 obtain⟨⟨h1,b,_⟩,c⟩:=d;have h1:Db y.1:=h1;have b:0<=y.2.i/\y.2.i<=100000:=b;have c:y.2.i<=y.1.1.length:=c;have e:=h1.al;unfold U0;simp only[cE,Zai,gg,gF,aw,dL];exact⟨b.1,ω,h1.a _ ω⟩
def FP:Ok Ai:=okZ [] f64 (λ_=>dk ()) trivial Qts
theorem Qtt (y:QS×Int) (d:sm.pre y):U1 y:=by
 obtain⟨⟨h1,a,_⟩,b,c⟩:=d;have h1:Db y.1.1:=h1;have a:0<=y.1.2.i/\y.1.2.i<=100000:=a;have b:0<=y.2:=b;have c:y.2<=127:=c;have hl:=yF y.1.1;unfold U1;simp only[ej,gg,gF,iz,aw,dL];refine⟨λh=>⟨a.1,h,?_⟩,λh=>(Da (s:=nn y.1.2) y.2 (show(gq y.1.1).length<=y.1.2.i.toNat by omega)).symm⟩;rw[Jv (s:=nn y.1.2) y.2 (show y.1.2.i.toNat<(gq y.1.1).length by omega)];have e:(nn y.1.2).i=y.1.2.i.toNat:=rfl;rcases h1.rune (i:=y.1.2.i.toNat) ω with⟨_,h⟩ | ⟨_,h,f⟩
 ·grind
 ·grind
def yG:Ok sm:=okZ [] f100 (λ_=>dk ()) trivial Qtt
def Qtu (y:Int) (a:UW.pre y):Qeo y:=QkQ y trivial
def Qlu:Ok UW:=okZ [] f209 (λ_=>dk ()) trivial Qtu
theorem Qlv (y:List Rg) (a:Bu.pre y):Ju y:=by
 unfold Ju
 first
 | exact⟨rfl,trivial⟩
 | (simp only[ej];rfl)
def Qg2:Ok Bu:=okZ [] f187 (λ_=>dk ()) trivial Qlv
theorem Qtv (y:List Rg) (a:UX.pre y):U3 y:=by
 unfold U3;simp only[ej,gF,ib,iA,aw,dL];grind [dH]
def Qlw:Ok UX:=okZ [] f208 (λ_=>dk ()) trivial Qtv
theorem Qtw (y:By×By) (a:UY.pre y):U5 y:=by
 unfold U5;simp only[lG,Zai,my,Zan,Zao,ib,iA];unfold iS;refine⟨λh=>?_,λh=>?_⟩
 ·grind
 ·rw[ZaN (show ¬y.1.length<y.2.length by omega),show(y.1.length==y.2.length)=true by grind,bytesLess_eq];rfl
def Qlx:Ok UY:=okZ [] f192 (λ_=>dk ()) trivial Qtw
theorem Qg3 (a:Int):jx .i64 10 a=jx .i64 a 10:=by grind [jx]
theorem Qtx (y:By) (a:Pe.pre y):U6 y:=by
 have h:=QkU y a;unfold Mw at h;unfold U6;grind [Qg3]
def Qly:Ok Pe:=okZ [] f193 Qtn trivial Qtx
theorem Qty (y:Int×List (List Nd)) (a:Dc.pre y):U4 y:=by
 have h:=QkT y a;unfold Mx at h;unfold U4;simp only[ej] at h ⊢;grind
def Qep:Ok Dc:=okZ [] f101 Qtk trivial Qty
theorem Dd {n:Int} (h0:0<=n) (h1:n<128):(Utf8.encode n).data.toList=[UInt8.ofNat n.toNat]:=by
 obtain⟨m,rfl⟩:=Zau h0;have:∀k:Nat,k<128->(Utf8.encode (k:Int)).data.toList=[UInt8.ofNat k]:=by decide
 grind
theorem Qtz (y:QS) (A:Pf.pre y):U7 y:=by
 obtain⟨⟨h1,d,D,p⟩,_⟩:=A;have h1:Db y.1:=h1;have d:0<=y.2.i/\y.2.i<=100000:=d;have p:0<=y.2.ae/\y.2.ae<=4:=p;have hl:=yF y.1;have len:=h1.len;unfold U7;simp only[bN,ej,aw,my,yd,cC,dL,Zan,Zao];have r:y.2.ae=((y.2.ae.toNat:Nat):Int):=ω;refine⟨⟨(y.2.i,[],false),rfl,rfl,rfl,d,by grind,Zah _,by simp[nn],_,?_,rfl⟩,λx v=>?_⟩
 ·show _<=(gq y.1).length-y.2.i.toNat+y.2.i.toNat;omega
 ·obtain⟨i,b,k⟩:=x;obtain⟨i1,i2,i3,i4,n,i5,i6⟩:=v;simp only at*
  have i3:y.2.i.toNat<=i.toNat:=i3;have i4:k=decide (y.2.i.toNat<i.toNat):=i4;have fin:cB (gq y.1) n i.toNat b=(i.toNat,b)->b=ie (gq y.1) (nn y.2)/\k=gZ (gq y.1) (nn y.2)/\i=((cB (gq y.1) ((gq y.1).length-y.2.i.toNat) y.2.i.toNat []).1:Int)/\y.2.ae=((y.2.ae.toNat:Nat):Int):=λh=>by
   have e:cB (gq y.1) ((gq y.1).length-(nn y.2).i) (nn y.2).i []=(i.toNat,b):=i6.symm.trans h;refine⟨by grind [ie],by grind [gZ],?_,r⟩;have e:cB (gq y.1) ((gq y.1).length-y.2.i.toNat) y.2.i.toNat []=(i.toNat,b):=e;grind
  have stop:¬(i.toNat<(gq y.1).length/\48<=aN (gq y.1) i.toNat/\aN (gq y.1) i.toNat<=57)->cB (gq y.1) n i.toNat b=(i.toNat,b):=λh=>by
   cases n with
   | zero=>rfl
   | succ n=>unfold cB;rw[Zaa h]
  refine⟨λq1=>⟨i1.1,q1,λl=>⟨i1.1,q1,λo=>?_,λo=>fin (stop λw=>?_)⟩,λl=>fin (stop λw=>?_)⟩,λq1=>fin (stop λw=>ω)⟩
  ·have u:fI (gq y.1) i.toNat=false/\y.1.1.getD i.toNat 0=aN (gq y.1) i.toNat:=by
    rcases h1.rune (i:=i.toNat) ω with h | ⟨_,h,_⟩
    ·exact h
    ·omega
   rw[u.2] at l o ⊢;have q:ay .i64 i 1=i+1:=bA ω ω;have e2:(i+1).toNat=i.toNat+1:=ω;have t:y.1.1.length-(i+1).toNat<y.1.1.length-i.toNat:=ω;have f:(gq y.1).length<=n-1+(i+1).toNat:=ω;have g:0<=i+1/\i+1<=100000:=ω;have a:y.2.i.toNat<=(i+1).toNat/\true=decide (y.2.i.toNat<(i+1).toNat):=⟨ω,by grind⟩;have j:(b.length:Int)<=i+1:=ω;rw[Dd ω ω,q];obtain⟨m,rfl⟩:∃m,n=m+1:=⟨n-1,ω⟩;have c:(if i.toNat<(gq y.1).length/\48<=aN (gq y.1) i.toNat/\aN (gq y.1) i.toNat<=57 then cB (gq y.1) m (i.toNat+1) (if 48<aN (gq y.1) i.toNat\/b≠[] then b++[UInt8.ofNat (aN (gq y.1) i.toNat).toNat] else b) else(i.toNat,b))=_:=i6;rw[Zac ⟨ω,l,o⟩] at c;have go:(48<aN (gq y.1) i.toNat\/b≠[])->0<=i/\i<(y.1.1.length:Int)/\((zS b [UInt8.ofNat (aN (gq y.1) i.toNat).toNat]).length:Int)<=BIG/\∃z:Int×By×Bool,zS b [UInt8.ofNat (aN (gq y.1) i.toNat).toNat]=z.2.1/\true=z.2.2/\i+1=z.1/\Pg y z/\y.1.1.length-z.1.toNat<y.1.1.length-i.toNat:=λh=>by
    rw[Zac h] at c;have hlen:(zS b [UInt8.ofNat (aN (gq y.1) i.toNat).toNat]).length=b.length+1:=by unfold zS;simp
    refine⟨i1.1,q1,by grind [BIG],(i+1,_,true),rfl,rfl,rfl,⟨⟨ω,ω⟩,by grind,ω,by grind,m,by assumption,?_⟩,by assumption⟩;grind
   refine⟨λB=>go (.inr λh=>by grind),λB=>⟨i1.1,q1,λC=>go (.inl ω),λC=>?_⟩⟩;refine⟨(i+1,b,true),rfl,rfl,rfl,⟨g,j,a.1,a.2,m,f,?_⟩,t⟩;grind
  ·rcases h1.rune (i:=i.toNat) ω with⟨_,h⟩ | ⟨_,h,s⟩<;>omega
  ·rcases h1.rune (i:=i.toNat) ω with⟨_,h⟩ | ⟨_,h,s⟩<;>omega
def Qlz:Ok Pf:=okZ [] f191 Qtp trivial Qtz
end
end sx
namespace syn
open Go Go.RowKit cls
structure RB (G:List Gt) (k:Nat) (s t:Ps):Prop where
 le:s.i<=t.i
 len:t.i<=G.length+k
 op:t.an=s.an
 gr:s.ae<=t.ae
 gm:t.ae<=4
section
variable {G:List Gt} {k:Nat} {s t u:Ps}
theorem RB.refl (h:s.i<=G.length+k) (g:s.ae<=4):RB G k s s:=⟨Zah _,h,rfl,Zah _,g⟩
def RB.trans {j:Nat} (h:RB G j s t) (a:RB G k t u):RB G k s u:=⟨Zav h.le a.le,a.len,a.op.trans h.op,Zav h.gr a.gr,a.gm⟩
def RB.mono {j:Nat} (h:RB G j s t) (a:j<=k):RB G k s t:=⟨h.le,by have:=h.len;omega,h.op,h.gr,h.gm⟩
theorem RB.aA (h:RB G k s t) (f:Nat) (e:Int):RB G k s (t.aA G f e):=⟨by simpa using h.le,by simpa using h.len,by simpa using h.op,by simpa using h.gr,by simpa using h.gm⟩
theorem RB.next (h:RB G k s t):RB G (k+1) s t.next:=⟨by have:=h.le;simp;omega,by have:=h.len;simp;omega,h.op,h.gr,h.gm⟩
def RB.qh (h:RB G k s t) (hl:t.i<G.length):RB G 0 s t.next:=⟨by have:=h.le;simp;omega,by simp;omega,h.op,h.gr,h.gm⟩
def RB.skip (h:RB G k s t) (r:Int):RB G k s (bt G t r):=by
 unfold bt;split
 ·rename_i a;exact(h.qh (dy a)).mono (Zaj _)
 ·exact h
def wR (h:RB G k s t):RB G k s (dK G t):=by
 have:=kb (G:=G) (G.length-t.i) t.i [];have h1:=h.le;have a:=h.len;exact⟨by show _<=(cB G _ _ []).1;omega,by show(cB G (G.length-t.i) t.i []).1<=_;omega,h.op,h.gr,h.gm⟩
theorem U8 (h:RB G k s t) (f:Nat):RB G k s (tj G t f).1/\t.i<=(tj G t f).1.i/\(tj G t f).2.length<=8:=by
 have m1:(aY [(9,10),(13,13),(32,32)]).length<=6:=qR _;have m2:(aY [(48,57),(65,90),(95,95),(97,122)]).length<=8:=qR _;unfold tj;by_cases h1:G.length<=t.i
 ·rw[Zac h1];exact⟨h.aA _ _,by simp,by simp⟩
 ·rw[Zaa h1];have n:=(h.qh ω).mono (k:=k) (Zaj _);dsimp only
  repeat' split
  all_goals first
   | exact⟨h.aA _ _,by simp,by simp⟩
   | exact⟨n.aA _ _,by simp,by simp⟩
   | exact⟨n,by simp,Zav m1 (by decide)⟩
   | exact⟨n,by simp,m2⟩
   | exact⟨n,by simp,by simp⟩
theorem wS (h:RB G k s t) (hl:t.i<G.length):RB G 0 s (fK G t).1/\t.i<(fK G t).1.i/\(fK G t).2.length<=8:=by
 have n:=h.qh hl;unfold fK;dsimp only
 repeat' split
 ·exact⟨n.aA _ _,by simp,by simp⟩
 ·obtain⟨a,b,c⟩:=U8 n t.i;exact⟨a,by assumption,c⟩
 ·exact⟨n.aA _ _,by simp,by simp⟩
 ·simp_all
theorem Qan (h:RB G k s t) (hk:t.i<=G.length) (f:Nat) (a l:List Rg) (g:a.length<=8):RB G 0 s (lE G t f a l).1/\t.i<=(lE G t f a l).1.i/\(lE G t f a l).2.1.length<=l.length+8:=by
 have h0:RB G 0 s t:=⟨h.le,ω,h.op,h.gr,h.gm⟩;unfold lE;by_cases h1:t.au≠0\/bd G t 45=false
 ·grind
 ·rw[Zaa h1];have c:bd G t 45:=by
   grind
  have n:=h.qh (dy c);dsimp only;split
  ·exact⟨n.aA _ _,by simp,by simp⟩
  ·rename_i e
   obtain⟨b1,b,d⟩:=wS n (show t.next.i<G.length by omega);simp only[jO] at b;split
   ·exact⟨b1.aA _ _,by simp;omega,by simp⟩
   ·grind
theorem tB:∀(n:Nat) (t:Ps) (l:List Rg) (b:Bool),RB G 0 s t->RB G 0 s (dQ G n t l b).1/\t.i<=(dQ G n t l b).1.i/\(dQ G n t l b).2.1.length<=l.length+8*((dQ G n t l b).1.i-t.i)
 | 0,t,l,b,h=>⟨h,Zah _,by simp[dQ]⟩
 | n+1,t,l,b,h=>by
  unfold dQ;split
  ·rename_i c
   obtain⟨a,a2,a3⟩:=wS h c.2.1;obtain⟨m1,m2,m3⟩:=Qan a (by have:=a.len;omega) t.i (fK G t).2 l a3;dsimp only;split
   ·grind
   ·have:=tB n _ (lE G (fK G t).1 t.i (fK G t).2 l).2.1 true m1;grind
  ·grind
def Qg4 (h:RB G k s t) (hk:t.i<=G.length) (f:Nat):RB G 1 s (z_ G t f).1/\t.i<(z_ G t f).1.i:=by
 have h0:RB G 0 s t:=⟨h.le,ω,h.op,h.gr,h.gm⟩;have h1:=h0.skip 94;have a:t.i<=(bt G t 94).i:=by unfold bt;split<;>simp
 obtain⟨c1,c2,_⟩:=tB (G.length+2-(bt G t 94).i) _ [] false h1;unfold z_;dsimp only;split
 ·exact⟨(c1.aA f 4).next,by simp;omega⟩
 ·exact⟨c1.next,by simp;omega⟩
theorem Bv (h:RB G k s t) (hl:t.i<G.length):RB G 1 s (eN G t).1/\t.i<(eN G t).1.i:=by
 have n:=wR (h.qh hl);have g:t.i<(dK G t.next).i:=by
  have:=kb (G:=G) (G.length-t.next.i) t.next.i [];show _<(cB G (G.length-t.next.i) t.next.i []).1
  grind [jO]
 have key:∀(u:Ps) (f:Nat) (m n:List UInt8) (ok op:Bool),RB G 0 s u->t.i<u.i->RB G 1 s (ke G f u m n ok op).1/\t.i<(ke G f u m n ok op).1.i:=λu f m n ok op hu hi=>by
  unfold ke;dsimp only;have w:∀c:Bool,RB G 0 s (if c then u.aA G f 4 else u)/\t.i<(if c then u.aA G f 4 else u).i:=λc=>by
   cases c
   ·grind
   ·exact⟨hu.aA _ _,by simp_all⟩
  obtain⟨a,d⟩:=w (decide (ok=false\/bd G u 125=false\/(op=false/\iS n m)));simp only[ZaP] at a d;generalize (if ok=false\/bd G u 125=false\/(op=false/\iS n m) then u.aA G f 4 else u)=v at*
  have e:∀(c:Prop) [Decidable c],RB G 1 s (if c then v.next.aA G f 2 else v.next)/\t.i<(if c then v.next.aA G f 2 else v.next).i:=λc _=>by
   split
   ·exact⟨a.next.aA _ _,by simp;omega⟩
   ·exact⟨a.next,by simp;omega⟩
  exact e _
 unfold eN;dsimp only;split
 ·rename_i b
  have m:=wR (n.qh (dy b.2));grind [kb,dK,jO]
 ·grind
def Bw (h:RB G k s t) (f:Nat):RB G (k+1) s (fE G t f)/\(fE G t f).i=t.i+1:=by
 unfold fE;split
 ·exact⟨(h.aA f 4).next,by simp⟩
 ·exact⟨h.next,by simp⟩
def v8 (G:List Gt) (k:Nat) (ax:Ps->Ps×List Nd):Prop:=∀s,s.i<=G.length->s.ae<=4->RB G k s (ax s).1/\(ax s).2.length<=3*((ax s).1.i-s.i)+1
variable {ax:Ps->Ps×List Nd}
theorem Ph (A:v8 G k ax) (deep:Nat) (hl:t.i<=G.length) (e:t.ae<=4) (f:Nat):RB G (k+1) t (jP G ax deep t f).1/\(jP G ax deep t f).2.length<=3*((jP G ax deep t f).1.i-t.i)+3:=by
 have r:RB G (k+1) t t:=RB.refl ω e;unfold jP;dsimp only;by_cases h1:bd G t 63/\bd G t.next 58=false
 ·rw[Zac h1];exact⟨r.aA _ _,by simp⟩
 ·rw[Zaa h1];by_cases c:20<=deep
  ·rw[Zac c];exact⟨r.aA _ _,by simp⟩
  ·rw[Zaa c];by_cases d:bd G t 63
   ·rw[Zac d];have b:bd G t.next 58:=by
     grind
    have g:=dy b;simp only[jO] at g;obtain⟨a,a2⟩:=A t.next.next (by simp;omega) e;obtain⟨c1,c2⟩:=Bw a f;have a3:=a.le;simp only[jO] at a2 a3;refine⟨⟨?_,c1.len,c1.op,c1.gr,c1.gm⟩,?_⟩
    ·grind
    ·grind
   ·rw[Zaa d];by_cases b:4<=t.ae
    ·rw[Zac b];exact⟨r.aA _ _,by simp⟩
    ·rw[Zaa b];obtain⟨a,a2⟩:=A { t with ae:=t.ae+1 } hl (by grind);obtain⟨c1,c2⟩:=Bw a f;have a3:t.i<=(ax { t with ae:=t.ae+1 }).1.i:=a.le;have a4:(ax { t with ae:=t.ae+1 }).2.length<=3*((ax { t with ae:=t.ae+1 }).1.i-t.i)+1:=a2;have a5:t.ae+1<=(ax { t with ae:=t.ae+1 }).1.ae:=a.gr;have c3:=c1.gr;simp only at c3;refine⟨⟨?_,c1.len,c1.op,?_,c1.gm⟩,?_⟩
     ·grind
     ·grind
     ·grind
theorem FQ (A:v8 G k ax) (deep:Nat) (hl:t.i<G.length) (d:t.ae<=4):RB G (k+1) t (gE G ax deep t).1/\t.i<(gE G ax deep t).1.i/\(gE G ax deep t).2.length<=3*((gE G ax deep t).1.i-t.i):=by
 have r:RB G 0 t t:=RB.refl ω d;have n:=r.qh hl;have e:=n.mono (k:=k+1) (Zaj _);unfold gE;dsimp only
 repeat' split
 ·exact⟨e.aA _ _,by simp,by simp⟩
 ·obtain⟨a,b⟩:=Ph A deep (t:=t.next) (by simp;omega) d t.i;have c:=a.le;simp only[jO] at b c;exact⟨⟨ω,a.len,a.op,a.gr,a.gm⟩,ω,ω⟩
 ·obtain⟨a,b⟩:=Qg4 n (by simp;omega) t.i;simp only[jO] at b;exact⟨a.mono ω,by grind,by grind⟩
 ·simp_all
 ·simp_all
 ·simp_all
 ·grind [U8,jO]
 ·exact⟨e.aA _ _,by simp,by simp⟩
 ·simp_all
theorem MF (A:v8 G k ax) (deep:Nat) (hl:t.i<G.length) (f:t.ae<=4):RB G (k+1) t (tk G ax deep t).1/\t.i<(tk G ax deep t).1.i/\(tk G ax deep t).2.length<=3*((tk G ax deep t).1.i-t.i):=by
 obtain⟨a,b,c⟩:=FQ A deep hl f;have key:∀(u:Ps) (mn mx:Int),RB G (k+1) t u->(gE G ax deep t).1.i<u.i->RB G (k+1) t (kg G u mn mx (gE G ax deep t).2).1/\t.i<(kg G u mn mx (gE G ax deep t).2).1.i/\(kg G u mn mx (gE G ax deep t).2).2.length<=3*((kg G u mn mx (gE G ax deep t).2).1.i-t.i):=λu mn mx h1 d=>by
  have e:u.i<=(bt G u 63).i:=by unfold bt;split<;>simp
  unfold kg;exact⟨h1.skip 63,by grind,by grind⟩
 unfold tk;dsimp only;by_cases h1:(gE G ax deep t).1.au≠0\/G.length<=(gE G ax deep t).1.i
 ·grind
 ·rw[Zaa h1];have d:(gE G ax deep t).1.i<G.length:=ω;have n:=(a.qh d).mono (k:=k+1) (Zaj _);have e:=Bv a d
  repeat' split
  ·exact key _ _ _ n (by simp)
  ·exact key _ _ _ n (by simp)
  ·exact key _ _ _ n (by simp)
  ·exact key _ _ _ (e.1.mono ω) e.2
  ·grind
theorem Bx (A:v8 G k ax) (deep:Nat):∀(n:Nat) (t:Ps) (d:List (List Nd)),RB G (k+1) s t->total d<=3*(t.i-s.i)->RB G (k+1) s (eE G ax deep n t d).1/\total (eE G ax deep n t d).2<=3*((eE G ax deep n t d).1.i-s.i)
 | 0,t,d,h,e=>⟨h,e⟩
 | n+1,t,d,h,e=>by
  unfold eE;split
  ·rename_i f
   obtain⟨a,b,c⟩:=MF A deep f.2.1 h.gm;refine Bx A deep n _ _ (h.trans a) ?_;rw[gR];have:=h.le;omega
  ·grind
def wT (A:v8 G k ax) (deep:Nat) (hl:s.i<=G.length) (c:s.ae<=4):RB G (k+1) s (pr G ax deep s).1/\(pr G ax deep s).2.length<=3*((pr G ax deep s).1.i-s.i)+1:=by
 obtain⟨a,b⟩:=Bx A deep (G.length+2-s.i) s [] (RB.refl ω c) (by simp[total]);have:=x7 3 (eE G ax deep (G.length+2-s.i) s []).2;exact⟨a,by show(b9 3 _).length<=3*((eE G ax deep (G.length+2-s.i) s []).1.i-_)+1;omega⟩
theorem Bz (A:v8 G k ax) (deep:Nat):∀(n:Nat) (t:Ps) (c:List (List Nd)),RB G (k+1) s t->0<c.length->total c+2*c.length<=3*(t.i-s.i)+3->RB G (k+1) s (dZ G ax deep n t c).1/\0<(dZ G ax deep n t c).2.length/\total (dZ G ax deep n t c).2+2*(dZ G ax deep n t c).2.length<=3*((dZ G ax deep n t c).1.i-s.i)+3
 | 0,t,c,h,h0,d=>⟨h,h0,d⟩
 | n+1,t,c,h,h0,d=>by
  unfold dZ;split
  ·rename_i f
   have hl:=dy f.2;obtain⟨a,b⟩:=wT A deep (s:=t.next) (by simp;omega) h.gm;have e:=a.le;have h1:=h.le;simp only[jO] at e b;refine Bz A deep n _ _ ⟨ω,a.len,a.op.trans h.op,Zav h.gr a.gr,a.gm⟩ (by simp) ?_;grind [gR]
  ·grind
theorem U9 (A:v8 G k ax) (deep:Nat) (hl:s.i<=G.length) (g:s.ae<=4):RB G (k+1) s (vA G ax deep s).1/\(vA G ax deep s).2.length<=3*((vA G ax deep s).1.i-s.i)+1:=by
 obtain⟨a,b⟩:=wT A deep hl g;have e:total [(pr G ax deep s).2]=(pr G ax deep s).2.length:=by simp[total]
 obtain⟨c,d,f⟩:=Bz A deep (G.length+2-(pr G ax deep s).1.i) _ [(pr G ax deep s).2] a (by simp) (by grind);have:=vz 4 _ d;exact⟨c,by show(b9 4 _).length<=3*((dZ G ax deep _ _ _).1.i-_)+1;omega⟩
end
theorem De (G:List Gt):∀n deep,v8 G n (CU G n deep)
 | 0,_=>λs h g=>⟨RB.refl ω g,by simp[CU]⟩
 | n+1,deep=>λs h g=>U9 (De G n (deep+1)) deep h g
end syn
set_option maxRecDepth 100000
set_option maxHeartbeats 4000000
namespace sx
noncomputable section
open Go Go.RowKit cls syn
def lk {α:Type} (a:α):α:=Classical.choose (⟨a,rfl⟩:∃b,b=a)
theorem az {α:Type} (a:α):lk a=a:=ZcZ (⟨a,rfl⟩:∃b,b=a)
open Classical in
def ix (G:List Gt) (a:Int):Nat:=if h:∃i,i<=G.length/\aq G i=a then Classical.choose h else 0
def yH (G:List Gt) (a:Int):Prop:=∃i,i<=G.length/\a=aq G i
def uI (y:QS×Int):Ps×List Rg:=tj (gq y.1.1) (nn y.1.2) (ix (gq y.1.1) y.2)
def Pj (y:QS×Int):Prop:=y.1.2.i<=y.1.1.1.length/\yH (gq y.1.1) y.2
def Jw:bp D:=yE 190 (QS×Int) (·.1) UU Pj (λy=>[Qyy y.2]) (λy=>zz (uI y).1) λy=>.list 6 (uI y).2
def U' (y:QS):Prop:=y.2.i<y.1.1.length
def Aj (y:QS):Ps×List Rg:=fK (gq y.1) (nn y.2)
def U_:bp D:=yE 207 QS (λy=>y) inQ U' (λ_=>[]) (λy=>zz (Aj y).1) λy=>.tuple [.list 6 (Aj y).2,Qyy (aq (gq y.1) (nn y.2).i)]
def Pk:bp D:=yE 206 (QS×Int) (·.1) UU (λy=>y.1.2.i<=90000/\yH (gq y.1.1) y.2) (λy=>[Qyy y.2]) (λy=>zz (fE (gq y.1.1) (nn y.1.2) (ix (gq y.1.1) y.2))) λ_=>.tuple []
def oL (y:QS):Ps×By×Bool:=
 lk (if gZ (gq y.1) (nn y.2).next/\bd (gq y.1) (dK (gq y.1) (nn y.2).next) 44=true then(dK (gq y.1) (dK (gq y.1) (nn y.2).next).next,ie (gq y.1) (dK (gq y.1) (nn y.2).next).next,!gZ (gq y.1) (dK (gq y.1) (nn y.2).next).next)
 else(dK (gq y.1) (nn y.2).next,ie (gq y.1) (nn y.2).next,false))
def ik (y:QS):Ps:=lk (if gZ (gq y.1) (nn y.2).next=false\/bd (gq y.1) (oL y).1 125=false\/((oL y).2.2=false/\iS (oL y).2.1 (ie (gq y.1) (nn y.2).next)) then(oL y).1.aA (gq y.1) (nn y.2).i 4 else(oL y).1)
def Df (y:QS):Int×Bool:=lk (if (oL y).2.2 then(-1,true) else e_ (oL y).2.1)
def sq (y:QS):Ps×Int×Int:=lk (eN (gq y.1) (nn y.2))
def Jx:bp D:=yE 163 QS (λy=>y) inQ U' (λ_=>[]) (λy=>zz (sq y).1) λy=>.tuple [Qyy (sq y).2.1,Qyy (sq y).2.2]
def QtD (y:Jx.Y):dj D:=⟨[],[],[],[
 (63,⟨Unit,[0,4,5,6],λ_=>[(7,.str (oL y).2.1),(8,.bool (oL y).2.2)],[],λ_=>qO y.1 (zz (oL y).1),1,λ_=>True,λ_=>0⟩),
 (127,⟨Unit,[0,4,5,7,8],λ_=>[],[],λ_=>qO y.1 (zz (ik y)),1,λ_=>True,λ_=>0⟩),
 (2047,⟨Unit,[0,4,11,12],λ_=>[(13,Qyy (Df y).1),(14,.bool (Df y).2)],[0],λ_=>[],1,λ_=>True,λ_=>0⟩)],1,[]⟩
def yI (y:QS×Int):Ps×List Rg:=lk (z_ (gq y.1.1) (nn y.1.2) (ix (gq y.1.1) y.2))
def tD (y:QS×Int):Ps×List Rg×Bool:=lk (dQ (gq y.1.1) ((gq y.1.1).length+2-(bt (gq y.1.1) (nn y.1.2) 94).i) (bt (gq y.1.1) (nn y.1.2) 94) [] false)
def px (y:QS×Int):Ps:=lk (if (tD y).1.au=0/\((tD y).2.2=false\/bd (gq y.1.1) (tD y).1 93=false) then(tD y).1.aA (gq y.1.1) (ix (gq y.1.1) y.2) 4 else(tD y).1)
def Jy (y:QS×Int) (x:cm×List Rg×Bool):Prop:=(0<=x.1.i/\x.1.i<=y.1.1.1.length)/\x.1.an=0/\(0<=x.1.ae/\x.1.ae<=4)/\x.2.1.length<=20*(nn x.1).i/\∃n,y.1.1.1.length+2<=n+(nn x.1).i/\dQ (gq y.1.1) n (nn x.1) x.2.1 x.2.2=tD y
def Jz:bp D:=yE 188 (QS×Int) (·.1) UU Pj (λy=>[Qyy y.2]) (λy=>zz (yI y).1) λy=>.list 6 (yI y).2
def QtF (y:Jz.Y):dj D:=⟨[],[],[(252,⟨cm×List Rg×Bool,[0,1,5],λx=>[(6,.grow 6 x.2.1 1),(7,.bool x.2.2)],[],λx=>qO y.1.1 x.1++[(1,.tok 6 278)],2,Jy y,λx=>y.1.1.1.length-(nn x.1).i⟩)],
  [(7,⟨Unit,[0,1],λ_=>[(5,.bool (bd (gq y.1.1) (nn y.1.2) 94))],[],λ_=>qO y.1.1 (zz (bt (gq y.1.1) (nn y.1.2) 94)),1,λ_=>True,λ_=>0⟩),
   (127,⟨Unit,[0,5,6],λ_=>[],[],λ_=>qO y.1.1 (zz (px y)),1,λ_=>True,λ_=>0⟩),
   (63,⟨Unit,[0,1,5],λ_=>[(6,.list 6 (tD y).2.1),(7,.bool (tD y).2.2)],[],λ_=>qO y.1.1 (zz (tD y).1),1,λ_=>True,λ_=>0⟩)],1,[]⟩
structure im where
 d:jz
 v:iB
variable {G:List Gt}
def FT (b m n:Nat) (y:im):List (Nat×AO D.E):=(b,.cells [.ptr (b+1) 0,.ptr (b+2) 0] 126 false)::(b+1,.cells [.int .u8 y.d.a,.int .u8 y.d.b,.int .u8 y.d.c,.int .u8 y.d.d,.int .i64 y.d.n] 194 false)::CY (b+2) m n y.v
def FU (v:AV D.E) (s:St D.E):C im:=match v with
 | .ptr b _=>aB (dg (s.h.get b)) λo=>match o with
  | .cells cs _ _=>match cs with
   | [d,v]=>aB (O3 d s) λd=>aB (IK v s) λv=>.ret ⟨d,v⟩
   | _=>.fail
  | _=>.fail
 | _=>.fail
def jm (y:im) (c:Int):im:=lk ⟨(t_ y.d c).1,qd y.v (t_ y.d c).2⟩
def bS (s:im):im:=lk ⟨HC,OO (T6 s.v) s.v.p.ai.length⟩
def uJ (y:im):Prop:=y.v.p.ag.length<=4096/\y.v.p.ai.length<=1000
def yJ (y:im):Prop:=0<=y.d.n/\y.d.n<=3/\Ub y.v 900000000000
def yK:bp D:=⟨35,im×Int,λa s=>match a with
 | [p,c]=>aB (FU p s) λy=>aP (cQ c) λ_ c=>.ret (y,c)
 | _=>.fail,λy=>yJ y.1,λy=>[.ptr 0 0,.int .u8 y.2],λy=>FT 0 5 6 y.1,λ_=>.tuple [],λy=>FT 0 7 6 (jm y.1 y.2),7,8⟩
def JA:bp D:=⟨79,im,λa s=>match a with
 | [p]=>FU p s
 | _=>.fail,uJ,λ_=>[.ptr 0 0],FT 0 5 6,λ_=>.ptr 7 0,λy=>FT 0 5 6 y++FT 7 12 13 (bS y),7,14⟩
def Qeq (y:im×Int):Prop:=let f:=(t_ y.1.d y.2).1;let q1:=(t_ y.1.d y.2).2;let e:=qd y.1.v q1;Iv (0<=y.1.d.n/\y.1.d.n<=3)/\RAU y.2 y.1.d.a y.1.d.b y.1.d.c y.1.d.d y.1.d.n (Iv (rsP (Zk.mk y.1.v q1))/\aa [q1] (aa [y.1.v.p.ag] (aa [y.1.v.p.ai] (aa [y.1.v.aq,ab y.1.v.L,ab y.1.v.s.pl,ab y.1.v.s.us] (aa [y.1.v.s.us] (aa [y.1.v.s.pl] (aa [y.1.v.L] (f.a=(jm y.1 y.2).d.a/\f.b=(jm y.1 y.2).d.b/\f.c=(jm y.1 y.2).d.c/\f.d=(jm y.1 y.2).d.d/\f.n=(jm y.1 y.2).d.n/\e.p.ag=(jm y.1 y.2).v.p.ag/\e.p.ai=(jm y.1 y.2).v.p.ai/\e.aq=(jm y.1 y.2).v.aq/\ab e.L=ab (jm y.1 y.2).v.L/\ab e.s.pl=ab (jm y.1 y.2).v.s.pl/\ab e.s.us=ab (jm y.1 y.2).v.s.us/\e.s.us=(jm y.1 y.2).v.s.us/\e.s.pl=(jm y.1 y.2).v.s.pl/\e.L=(jm y.1 y.2).v.L/\True))))))))
def Qer (y:im):Prop:=let e:=y.v.p.ag.length;let q1:=y.v.p.ai.length;let u:=jH++List.map fL (List.take q1 y.v.p.ai);Iv True/\Iv (e<=4096/\q1<=1000)/\RA2 y.v.p (RAB y.v (RA9 y.v.s (RAO y.v.L (y.v.p.ag=(bS y).v.p.ag/\y.v.p.ai=(bS y).v.p.ai/\0=(bS y).v.aq/\ab u=ab (bS y).v.L/\ab (rE (e:Int))=ab (bS y).v.s.pl/\ab gI=ab (bS y).v.s.us/\gI=(bS y).v.s.us/\rE (e:Int)=(bS y).v.s.pl/\u=(bS y).v.L/\0=(bS y).d.a/\0=(bS y).d.b/\0=(bS y).d.c/\0=(bS y).d.d/\0=(bS y).d.n/\aa [y.d.a,y.d.b,y.d.c,y.d.d,y.d.n] (aa [y.v.p.ag] (aa [y.v.p.ai] (aa [y.v.aq,ab y.v.L,ab y.v.s.pl,ab y.v.s.us] (aa [y.v.s.pl] (aa [y.v.s.us] (aa [y.v.L] (True)))))))))))
theorem yL:∀(k:Nat) (y:jz) (l:List Gt),(oG k y l).2.length<=l.length+k
 | 0,y,l=>Zah _
 | k+1,y,l=>by
  rw[oG];split
  ·have:=yL k (D6 y (kN y).2.toNat) (l++[kN y]);grind
  ·grind
theorem FV:Ok yK:=okZ (V:=Qeq) [T_,ssC] f35 (λ_=>dk ()) ⟨QkO,QkP⟩ λy b=>by
 unfold Qeq;simp only[bj,show jm y.1 y.2=_ from az _];obtain⟨h1,a,g1,g2,g3,g4⟩:yJ y.1:=b;have hl:(t_ y.1.d y.2).2.length<=0+4:=yL 4 _ [];exact⟨⟨h1,a⟩,g1,g2,g3,by grind⟩
def MG:Ok JA:=okZ (V:=Qer) [unC,ό] f79 (λ_=>dk ()) ⟨QgH,QkE⟩ λy a=>by
 unfold Qer;simp only[bj,show bS y=_ from az _];exact⟨a,rfl,rfl,rfl,rfl,rfl,rfl,rfl,rfl,rfl,rfl,rfl,rfl,rfl,rfl⟩
def JB (y:im):iB:=qd ⟨y.v.p,y.v.aq,y.v.L,⟨rE y.v.p.ag.length,gI⟩⟩ (D5 (uoF (di y.d)).n.toNat)
def hV (y:im):List db:=(ig (JB y) (JB y).L.length).2
def rI (y:im):Prop:=yJ y/\(di y.d=[]\/gy (di y.d))
def Ak:bp D:=⟨77,im,λa s=>match a with
 | [p]=>FU p s
 | _=>.fail,rI,λ_=>[.ptr 0 0],FT 0 5 6,λy=>.list 2 (hV y),FT 0 5 6,7,7⟩
abbrev RAS {T0 T1 T2 T3 T4:Type} (a:T0) (b:T1) (c:T2) (d:T3) (e:T4) (p:Prop):Prop:=aa [a] (aa [b] (aa [c] (aa [d] (aa [e] p))))
def JC (y:im):Prop:=let f:=di y.d;let q1:=df f 0;let k:=df f 3;let l:=df f 2;let m:=df f 1;let o:=y.v.p.ag.length;let h:=rE (o:Int);let q:=iB.mk y.v.p y.v.aq y.v.L (jb.mk h gI);let i:=ite (f.length<=4) (f.length:Int) 4;let j:=D5 i.toNat;let e:=qd q j;let g:Prop:=(RAS y.d.a y.d.b y.d.c y.d.d y.d.n (RA2 y.v.p (RAB y.v (RAQ y.v.s.pl y.v.s.us y.v.L (True)))));Iv (uC y.d)/\RAS y.d.a y.d.b y.d.c y.d.d y.d.n (Iv ((f=[])\/(gy f=true))/\aa [f] (aj (!(aE 0 0)) ([]=hV y/\g) (Iv (o<=4096/\zN y.v.L)/\aa [y.v.p.ag] (aa [y.v.p.ai] (aa [y.v.aq,ab y.v.L,ab y.v.s.pl,ab y.v.s.us] (aa [y.v.s.us] (aa [y.v.s.pl] (aa [y.v.L] (Iv (uC (jz.mk q1 m l k i))/\aa [q1,m,l,k,i] (Iv (rsP (Zk.mk q j))/\aa [j] (aa [y.v.p.ag] (aa [y.v.p.ai] (aa [y.v.aq,ab y.v.L,ab h,ab gI] (aa [gI] (aa [h] (aa [y.v.L] (Iv (enP e)/\aa [e.p.ag] (aa [e.p.ai] (aa [e.aq,ab e.L,ab e.s.pl,ab e.s.us] (aa [e.s.us] (aa [e.s.pl] (aa [e.L] ((ig e e.L.length).2=hV y/\g)))))))))))))))))))))))
theorem FW {v:iB} {N:Int} (h:Ub v N):Ub ⟨v.p,v.aq,v.L,⟨rE v.p.ag.length,gI⟩⟩ N:=by
 obtain⟨⟨⟨_,_,a⟩,b,c⟩,d,e,f⟩:=h;refine⟨⟨⟨by grind [rE],λx g=>?_,a⟩,b,c⟩,d,e,f⟩;have:x=0:=Zdw (show x∈List.replicate (v.p.ag.length:Int).toNat (0:Int) from g);omega
theorem QlB (y:im) (f:rI y):JC y:=by
 unfold JC;simp only[bj];obtain⟨⟨h1,g,c⟩,e⟩:=f;have b:=c.1;have h:y.v.p.ag.length<=1000:=b.1.2.2.1;have a:=FW c;refine⟨⟨h1,ω⟩,e,λq=>absurd q (by decide),λ_=>⟨⟨ω,b.2.1,b.2.2⟩,?_,?_,?_,rfl⟩⟩
 ·show 0<=(if _ then _ else _:Int)/\(if _ then _ else _:Int)<=4
  grind
 ·have i:(D5 (if (di y.d).length<=4 then((di y.d).length:Int) else 4).toNat).length<=4:=by
   grind [D5]
  exact⟨a.1,a.2.1,a.2.2.1,by have j:y.v.aq<=900000000000:=a.2.2.2;show y.v.aq+4*((D5 (if (di y.d).length<=4 then((di y.d).length:Int) else 4).toNat).length:Int)<=1000000000000;omega⟩
 ·have:=oH (l:=D5 (if (di y.d).length<=4 then((di y.d).length:Int) else 4).toNat) a _ (Zah _);rw[ZaM] at this;exact this.1
def uK:Ok Ak:=okZ [uhC,uoC,ύ,ueC,ssC,FG] f77 (λ_=>dk ()) ⟨QkN,QgI,QkF,Qsc,QkP,Qgx⟩ QlB
def Vb (y:(((List Int)×(List Int))×cm)×Int):Prop:=let d:=(uI y).1;let q1:=(uI y).2;let h:=((d.i:Nat):Int);let b:=y.1.1.1;let j:=aE y.1.2.au 0;let k:=ay .i64 y.1.2.i 1;let m:=aM (ab b) y.1.2.i;let c:=gt 0 b y.1.2.i.toNat;let g:=(b,y.1.1.2);let l:=aq (gq g) y.1.2.i.toNat;let e:=λp:Prop=>aa [b,y.1.1.2] p;let f:Prop:=(y.1.2.ae=((d.ae:Nat):Int)/\cL j 4 y.1.2.au=d.au/\cL j y.2 y.1.2.wh=d.wh/\True);let a:Prop:=(e (k=h/\y.1.2.ae=((d.ae:Nat):Int)/\y.1.2.au=d.au/\y.1.2.wh=d.wh/\True));aa [y.1.2.i] (aa [b] (aj m (Iv (fS (g,cm.mk y.1.2.i 0 y.1.2.ae y.1.2.au y.1.2.wh)/\True)/\aa ([4,y.2]:List Int) (aa [b,y.1.1.2] (aa [y.1.2.i,y.1.2.ae,y.1.2.au,y.1.2.wh] ([]=q1/\e (y.1.2.i=h/\f))))) (aM 0 y.1.2.i/\aD y.1.2.i (ab b)/\aa [b] (aa [y.1.2.i,c] (aj (aE c (-1)) (Iv (fS (g,cm.mk y.1.2.i 0 y.1.2.ae y.1.2.au y.1.2.wh)/\y.1.2.i<=(b.length:Int))/\aa [b,y.1.1.2] (aa [y.1.2.i,y.1.2.ae,y.1.2.au,y.1.2.wh] (Iv (fS (g,cm.mk y.1.2.i 0 y.1.2.ae y.1.2.au y.1.2.wh)/\True)/\aa ([4,l]:List Int) (aa [b,y.1.1.2] (aa [y.1.2.i,y.1.2.ae,y.1.2.au,y.1.2.wh] ([]=q1/\e (y.1.2.i=h/\y.1.2.ae=((d.ae:Nat):Int)/\cL j 4 y.1.2.au=d.au/\cL j l y.1.2.wh=d.wh/\True))))))) (aj (aE c 110) ([(10,10)]=q1/\a) (aj (aE c 116) ([(9,9)]=q1/\a) (aj (aE c 114) ([(13,13)]=q1/\a) (aj (aE c 100) ([(48,57)]=q1/\a) (aj (aE c 115) (Iv (3<=2000000)/\aa ([[(9,10),(13,13),(32,32)]]:List (List (Int×Int))) (aY [(9,10),(13,13),(32,32)]=q1/\a)) (aj (aE c 119) (Iv (4<=2000000)/\aa ([[(48,57),(65,90),(95,95),(97,122)]]:List (List (Int×Int))) (aY [(48,57),(65,90),(95,95),(97,122)]=q1/\a)) (Iv True/\aa [c] (aj (!(iR c)) (Iv (fS (g,cm.mk k 0 y.1.2.ae y.1.2.au y.1.2.wh)/\True)/\aa ([4,y.2]:List Int) (aa [b,y.1.1.2] (aa [k,y.1.2.ae,y.1.2.au,y.1.2.wh] ([]=q1/\e (k=h/\f))))) (([(c,c)]:List (Int×Int))=q1/\a))))))))))))))
def Vc (y:((List Int)×(List Int))×cm):Prop:=let k:=(Aj y).2;let q1:=(Aj y).1;let g:=y.2.i.toNat;let l:=((q1.ae:Nat):Int);let m:=((q1.i:Nat):Int);let h:=ay .i64 y.2.i 1;let b:=gt 0 y.1.1 g;let n:=(y.1.1,y.1.2);let c:=aq (gq n) g;let j:=(n,cm.mk h 0 y.2.ae y.2.au y.2.wh);let a:=(uI (j,c)).1;let f:=λp:Prop=>aa [y.1.1,y.1.2] p;let d:Prop:=(([(b,b)]:List (Int×Int))=k/\c=aq (gq y.1) g/\f (h=m/\y.2.ae=l/\y.2.au=q1.au/\y.2.wh=q1.wh/\True));let e:Prop:=(Iv (fS j/\True)/\aa ([4,c]:List Int) (aa [y.1.1,y.1.2] (aa [h,y.2.ae,y.2.au,y.2.wh] ([]=k/\c=aq (gq y.1) g/\f (h=m/\y.2.ae=l/\cL (aE y.2.au 0) 4 y.2.au=q1.au/\cL (aE y.2.au 0) c y.2.wh=q1.wh/\True)))));Iv (fS (n,cm.mk y.2.i 0 y.2.ae y.2.au y.2.wh)/\y.2.i<=(y.1.1.length:Int))/\aa [y.1.1,y.1.2] (aa [y.2.i,y.2.ae,y.2.au,y.2.wh] (aM 0 y.2.i/\aD y.2.i (ab y.1.1)/\aa [y.1.1] (aa [y.2.i,b] (aj (aE b 92) (Iv (fS j/\Pj (j,c))/\aa [c] (aa [y.1.1,y.1.2] (aa [h,y.2.ae,y.2.au,y.2.wh] ((uI (j,c)).2=k/\c=aq (gq y.1) g/\f (((a.i:Nat):Int)=m/\((a.ae:Nat):Int)=l/\a.au=q1.au/\a.wh=q1.wh/\True))))) (aj (aE b 91) (aj (aE b 91) (e) (d)) (aj (aE b 45) (aj (aE b 45) (e) (d)) (aj (aE b (-1)) (e) (d))))))))
def Vd (y:(((List Int)×(List Int))×cm)×Int):Prop:=let b:=aE y.1.2.au 0;let q1:=bd (gq y.1.1) (nn y.1.2) 41;let c:=(y.1.1.1,y.1.1.2);let d:=cm.mk y.1.2.i 0 y.1.2.ae y.1.2.au y.1.2.wh;let f:=!(bd (gq c) (nn d) 41);let a:=ite (y.1.2.au=0/\q1=false) (Ps.aA (gq y.1.1) (nn y.1.2) (ix (gq y.1.1) y.2) 4) (nn y.1.2);let e:Prop:=(aa [y.1.1.1,y.1.1.2] (ay .i64 y.1.2.i 1=((a.i+1:Nat):Int)/\y.1.2.ae=((a.ae:Nat):Int)/\y.1.2.au=a.au/\y.1.2.wh=a.wh/\True));aj b (Iv (fS (c,d)/\(0:Int)<=(41:Int)/\(41:Int)<=(127:Int))/\aa ([41]:List Int) (aa [y.1.1.1,y.1.1.2] (aa [y.1.2.i,y.1.2.ae,y.1.2.au,y.1.2.wh] (aj f (Iv (fS (c,d)/\True)/\aa ([4,y.2]:List Int) (aa [y.1.1.1,y.1.1.2] (aa [y.1.2.i,y.1.2.ae,y.1.2.au,y.1.2.wh] (aa [y.1.1.1,y.1.1.2] (ay .i64 y.1.2.i 1=((a.i+1:Nat):Int)/\y.1.2.ae=((a.ae:Nat):Int)/\cL b 4 y.1.2.au=a.au/\cL b y.2 y.1.2.wh=a.wh/\True))))) (e))))) (e)
def Ve (y:((List Int)×(List Int))×cm):Prop:=let L:=(Df y).1;let q1:=(Df y).2;let M:=(((ik y).i:Nat):Int);let w:=(((ik y).ae:Nat):Int);let q:=(sq y).1;let e:=(oL y).1;let P:=aE (ik y).au 0;let B:=((y.2.ae.toNat:Nat):Int);let n:=(oL y).2.1;let I:=(oL y).2.2;let f:=((e.ae:Nat):Int);let g:=((e.i:Nat):Int);let j:=ay .i64 y.2.i 1;let h:=ay .i64 M 1;let c:=(y.1.1,y.1.2);let a:=gq c;let d:=aq a y.2.i.toNat;let r:=cm.mk j 0 y.2.ae y.2.au y.2.wh;let s:=cm.mk g 0 f e.au e.wh;let t:=gZ a (nn r);let b:=ie a (nn r);let k:=(e_ b).1;let u:=(e_ b).2;let N:=!(bd a (nn s) 125);let l:=((cB a (a.length-j.toNat) j.toNat []).1:Int);let m:=ay .i64 l 1;let C:=cm.mk l 0 B y.2.au y.2.wh;let v:=cm.mk m 0 B y.2.au y.2.wh;let O:=bd a (nn C) 44;let J:=λp:Prop=>aa [d] (aa [b] (aa [t] p));let o:=λp:Prop=>aa [y.1.1,y.1.2] p;let K:=λp:Prop=>aa [d] (aa [b] (aa [n] (aa [I] (aa [y.1.1,y.1.2] p))));let D:Prop:=(y.2.au=e.au/\y.2.wh=e.wh/\(Iv True));let E:Prop:=(aa [y.1.1,y.1.2] (aa [h,w,(ik y).au,(ik y).wh] ((Iv True))));let F:Prop:=(∃z:Unit,K (g=M/\f=w/\e.au=(ik y).au/\e.wh=(ik y).wh/\(Iv True)));let G:Prop:=(Iv (fS (c,cm.mk h 0 w (ik y).au (ik y).wh)/\True)/\aa ([2,d]:List Int) (aa [y.1.1,y.1.2] (aa [h,w,(ik y).au,(ik y).wh] (k=(sq y).2.1/\L=(sq y).2.2/\o (h=((q.i:Nat):Int)/\w=((q.ae:Nat):Int)/\cL P 2 (ik y).au=q.au/\cL P d (ik y).wh=q.wh/\True)))));let H:Prop:=(∃z:Unit,J (b=n/\false=I/\o (l=g/\B=f/\D)));let A:Prop:=(Iv (fS (c,s)/\True)/\aa ([4,d]:List Int) (aa [y.1.1,y.1.2] (aa [g,f,e.au,e.wh] (∃z:Unit,K (g=M/\f=w/\cL (aE e.au 0) 4 e.au=(ik y).au/\cL (aE e.au 0) d e.wh=(ik y).wh/\(Iv True))))));Iv (fS (c,cm.mk y.2.i 0 y.2.ae y.2.au y.2.wh)/\y.2.i<=(y.1.1.length:Int))/\aa [y.1.1,y.1.2] (aa [y.2.i,y.2.ae,y.2.au,y.2.wh] (Iv (fS (c,r)/\True)/\aa [y.1.1,y.1.2] (aa [j,y.2.ae,y.2.au,y.2.wh] ((aj t (Iv (fS (c,C)/\(0:Int)<=(44:Int)/\(44:Int)<=(127:Int))/\aa ([44]:List Int) (aa [y.1.1,y.1.2] (aa [l,B,y.2.au,y.2.wh] (aj O (Iv (fS (c,v)/\True)/\aa [y.1.1,y.1.2] (aa [m,B,y.2.au,y.2.wh] (∃z:Unit,J (ie a (nn v)=n/\(!(gZ a (nn v)))=I/\o (((cB a (a.length-m.toNat) m.toNat []).1:Int)=g/\((B.toNat:Nat):Int)=f/\D))))) (H))))) (H))/\(∀x:Unit,(Iv True)->(aj (!t) (A) (Iv (fS (c,s)/\(0:Int)<=(125:Int)/\(125:Int)<=(127:Int))/\aa ([125]:List Int) (aa [y.1.1,y.1.2] (aa [g,f,e.au,e.wh] (aj N (A) (aj (!I) (Iv True/\aa [n] (aa [b] (aj (iS n b) (A) (F)))) (F)))))))/\(∀x1:Unit,(Iv True)->Iv (lJ b)/\aa [b] (Iv (lJ n)/\aa [n] ((aj I (∃z:Unit,aa [d,k] (aa [u] ((-1)=L/\true=q1/\E))) (∃z:Unit,aa [d,k] (aa [u] ((e_ n).1=L/\(e_ n).2=q1/\E))))/\(∀Q:Unit,(Iv True)->aj (!u) (G) (aj (!q1) (G) (k=(sq y).2.1/\L=(sq y).2.2/\o (h=((q.i:Nat):Int)/\w=((q.ae:Nat):Int)/\(ik y).au=q.au/\(ik y).wh=q.wh/\True))))))))))))
def Vf (y:(((List Int)×(List Int))×cm)×Int):Prop:=let q0:=(((px y).i:Nat):Int);let q1:=(((px y).ae:Nat):Int);let q2:=(yI y).1;let g:=(tD y).1;let u:=(tD y).2.1;let E:=((g.i:Nat):Int);let c:=y.1.1.1;let F:=((g.ae:Nat):Int);let q8:=(tD y).2.2;let N:=c.length;let G:=aE g.au 0;let o:=bd (gq y.1.1) (nn y.1.2) 94;let n:=bt (gq y.1.1) (nn y.1.2) 94;let O:=((n.ae:Nat):Int);let H:=((n.i:Nat):Int);let h:=(c,y.1.1.2);let j:=gq h;let P:=cm.mk y.1.2.i 0 y.1.2.ae y.1.2.au y.1.2.wh;let I:=cm.mk E 0 F g.au g.wh;let q19:=bd j (nn P) 94;let q20:=!(bd j (nn I) 93);let r21:=λp:Prop=>aa [o] (aa [u] (aa [c,y.1.1.2] p));let m:=λp:Prop=>aa [y.2] (aa [o] p);let f:=λp:Prop=>aa [c,y.1.1.2] p;let Q:Prop:=(y.1.2.ae=O/\y.1.2.au=n.au/\y.1.2.wh=n.wh/\(Iv True));let R:Prop:=(f (ay .i64 q0 1=((q2.i:Nat):Int)/\q1=((q2.ae:Nat):Int)/\(px y).au=q2.au/\(px y).wh=q2.wh/\True));let S:Prop:=(∃z:Unit,r21 (E=q0/\F=q1/\g.au=(px y).au/\g.wh=(px y).wh/\(Iv True)));let T:Prop:=(Iv (fS (h,I)/\True)/\aa ([4,y.2]:List Int) (aa [c,y.1.1.2] (aa [E,F,g.au,g.wh] (∃z:Unit,r21 (E=q0/\F=q1/\cL G 4 g.au=(px y).au/\cL G y.2 g.wh=(px y).wh/\(Iv True))))));(Iv (fS (h,P)/\(0:Int)<=(94:Int)/\(94:Int)<=(127:Int))/\aa ([94]:List Int) (aa [c,y.1.1.2] (aa [y.1.2.i,y.1.2.ae,y.1.2.au,y.1.2.wh] (aj q19 (∃z:Unit,aa [y.2] (true=o/\f (ay .i64 y.1.2.i 1=H/\Q))) (∃z:Unit,aa [y.2] (false=o/\f (y.1.2.i=H/\Q)))))))/\(∀x:Unit,(Iv True)->((∃z:cm×(List (Int×Int))×Bool,m ([]=z.2.1/\false=z.2.2/\f (H=z.1.i/\O=z.1.ae/\n.au=z.1.au/\n.wh=z.1.wh/\(Iv (Jy y z)))))/\(∀x1:cm×(List (Int×Int))×Bool,let q28:=aD x1.1.i (ab c);let U:=cm.mk x1.1.i 0 x1.1.ae x1.1.au x1.1.wh;let v:=aq j x1.1.i.toNat;let q:=(h,U);let q32:=!(bd j (nn U) 93);let l:=(Aj q).2;let a:=(Aj q).1;let d:=((a.ae:Nat):Int);let w:=((a.i:Nat):Int);let J:=aE a.au 0;let e:=ay .i64 w 1;let A:=(gt (0,0) l 0).1;let q40:=aM (ab c) e;let V:=cm.mk w 0 d a.au a.wh;let B:=cm.mk e 0 d a.au a.wh;let q43:=!(bd j (nn V) 45);let k:=(h,B);let q45:=bd j (nn B) 45;let q46:=bd j (nn B) 91;let q47:=bd j (nn B) 93;let b:=(Aj k).1;let r:=(Aj k).2;let s:=((b.i:Nat):Int);let t:=((b.ae:Nat):Int);let C:=aE b.au 0;let D:=(gt (0,0) r 0).1;let W:=bn x1.2.1 [(A,D)];let K:Prop:=(∃z:Unit,m (x1.2.1=u/\x1.2.2=q8/\f (x1.1.i=E/\x1.1.ae=F/\x1.1.au=g.au/\x1.1.wh=g.wh/\(Iv True))));let X:Prop:=(ba (ab (bn x1.2.1 l)) 8/\∃z:cm×(List (Int×Int))×Bool,m (bn x1.2.1 l=z.2.1/\true=z.2.2/\f (w=z.1.i/\d=z.1.ae/\a.au=z.1.au/\a.wh=z.1.wh/\(Iv (Jy y z/\(N-z.1.i.toNat)<(N-x1.1.i.toNat))))));let Y:Prop:=(Iv (fS k/\True)/\aa ([4,v]:List Int) (aa [c,y.1.1.2] (aa [e,d,a.au,a.wh] (∃z:Unit,m (x1.2.1=u/\true=q8/\f (e=E/\d=F/\cL J 4 a.au=g.au/\cL J v a.wh=g.wh/\(Iv True)))))));let L:Prop:=(aa [e] (aa [c] (Y)));let Z:Prop:=(aj C (Tt 1 (aD 0 (ab l)/\Tt 1 (aD 0 (ab r)/\ba (ab W) 8/\aa [A,D] (∃z:cm×(List (Int×Int))×Bool,m (W=z.2.1/\true=z.2.2/\f (s=z.1.i/\t=z.1.ae/\b.au=z.1.au/\b.wh=z.1.wh/\(Iv (Jy y z/\(N-z.1.i.toNat)<(N-x1.1.i.toNat))))))))) (∃z:cm×(List (Int×Int))×Bool,m (x1.2.1=z.2.1/\true=z.2.2/\f (s=z.1.i/\t=z.1.ae/\b.au=z.1.au/\b.wh=z.1.wh/\(Iv (Jy y z/\(N-z.1.i.toNat)<(N-x1.1.i.toNat)))))));let M:Prop:=(Iv (fS (h,cm.mk s 0 t b.au b.wh)/\True)/\aa ([4,v]:List Int) (aa [c,y.1.1.2] (aa [s,t,b.au,b.wh] (∃z:Unit,m (x1.2.1=u/\true=q8/\f (s=E/\t=F/\cL C 4 b.au=g.au/\cL C v b.wh=g.wh/\(Iv True)))))));(Iv (Jy y x1))->aj (aE x1.1.au 0) (aj q28 (Iv (fS q/\(0:Int)<=(93:Int)/\(93:Int)<=(127:Int))/\aa ([93]:List Int) (aa [c,y.1.1.2] (aa [x1.1.i,x1.1.ae,x1.1.au,x1.1.wh,x1.1.au,x1.1.i] (aa [c] (aj q32 (Iv (fS q/\U' q)/\aa [c,y.1.1.2] (aa [x1.1.i,x1.1.ae,x1.1.au,x1.1.wh] (aj (!J) (X) (Iv (fS (h,V)/\(0:Int)<=(45:Int)/\(45:Int)<=(127:Int))/\aa ([45]:List Int) (aa [c,y.1.1.2] (aa [w,d,a.au,a.wh] (aj q43 (X) (aj q40 (L) (Iv (fS k/\(0:Int)<=(93:Int)/\(93:Int)<=(127:Int))/\aa ([93]:List Int) (aa [c,y.1.1.2] (aa [e,d,a.au,a.wh] (aj q47 (L) (Iv (fS k/\(0:Int)<=(91:Int)/\(91:Int)<=(127:Int))/\aa ([91]:List Int) (aa [c,y.1.1.2] (aa [e,d,a.au,a.wh] (aj q46 (L) (Iv (fS k/\(0:Int)<=(45:Int)/\(45:Int)<=(127:Int))/\aa ([45]:List Int) (aa [c,y.1.1.2] (aa [e,d,a.au,a.wh,e] (aa [c] (aj q45 (Y) (Iv (fS k/\U' k)/\aa [c,y.1.1.2] (aa [e,d,a.au,a.wh] (aj C (Iv True/\aa [l] (aj (!(dH l)) (aa [b.au] (M)) (Iv True/\aa [r] (aj (!(dH r)) (aa [b.au] (M)) (Tt 1 (aD 0 (ab l)/\Tt 1 (aD 0 (ab r)/\aa [b.au,A,D] (aj (aD D A) (M) (Z))))))))) (aa [b.au] (Z)))))))))))))))))))))))))) (K)))))) (aa [x1.1.au,x1.1.i] (aa [c] (K)))) (aa [x1.1.au] (K))))/\(∀x1:Unit,(Iv True)->(aj G (aj (!q8) (T) (Iv (fS (h,I)/\(0:Int)<=(93:Int)/\(93:Int)<=(127:Int))/\aa ([93]:List Int) (aa [c,y.1.1.2] (aa [E,F,g.au,g.wh] (aj q20 (T) (S)))))) (S))/\(∀x2:Unit,(Iv True)->aj o (Iv (u.length<=2000000)/\aa [u] (l9 u=(yI y).2/\R)) (Iv (u.length<=2000000)/\aa [u] (aY u=(yI y).2/\R)))))
theorem Pl (c:∀g∈G,1<=g.2/\g.2<=4) {i j:Nat} (hi:i<=G.length) (e:j<=G.length) (h:aq G i=aq G j):i=j:=by
 have step:∀d k,k+d<=G.length->aq G k+d<=aq G (k+d):=λd=>by
  induction d with
  | zero=>intro k _;simp
  | succ d b=>
   intro k hk;have:=b k ω;grind [iI]
 rcases Zcs i j with a | a | a
 ·have:=step (j-i) i ω;rw[show i+(j-i)=j by omega] at this;omega
 ·exact a
 ·have:=step (i-j) j ω;rw[show j+(i-j)=i by omega] at this;omega
theorem FX (a:∀g∈G,1<=g.2/\g.2<=4) {i:Nat} (hi:i<=G.length):ix G (aq G i)=i:=by
 have h:∃j,j<=G.length/\aq G j=aq G i:=⟨i,hi,rfl⟩;unfold ix;grind [Pl]
theorem MH {a:Int} (h:yH G a):aq G (ix G a)=a:=by
 have⟨i,h1,b⟩:=h;have h:∃j,j<=G.length/\aq G j=a:=⟨i,h1,b.symm⟩;unfold ix;grind
theorem wrE (G:List Gt) (s:Ps) (f:Nat) (e:Int):(s.aA G f e).au=cL (aE s.au 0) e s.au:=by
 grind [Ps.aA,cL]
theorem wrW (G:List Gt) (s:Ps) (f:Nat) (e:Int):(s.aA G f e).wh=cL (aE s.au 0) (aq G f) s.wh:=by
 grind [Ps.aA,cL]
structure QF (p:QL) (i g:Nat):Prop where
 q:Db p
 i:i<=100000
 g:g<=4
 hl:(gq p).length=p.1.length
 len:p.1.length<=1000
variable {p:QL} {i:Nat}
variable {g:Nat}
def fS.out {s:cm} (h:fS (p,s)):∃(i g:Nat),s=⟨i,0,g,s.au,s.wh⟩/\QF p i g:=by
 obtain⟨h1,f,j,k⟩:Db p/\(0<=s.i/\s.i<=100000)/\s.an=0/\0<=s.ae/\s.ae<=4:=h;have⟨i,hi⟩:=Zau f.1;have⟨g,l⟩:=Zau k.1;have⟨a,b,c,d,e⟩:=s;simp only at*
 subst hi l j;exact⟨i,g,rfl,h1,ω,ω,yF p,h1.len⟩
def QF.ok (h:QF p i g) (e w:Int):fS (p,⟨i,0,g,e,w⟩):=⟨h.q,⟨ZaF _,by have:=h.i;show(i:Int)<=_;omega⟩,rfl,ZaF _,by have:=h.g;show(g:Int)<=_;omega⟩
def QF.to (h:QF p i g) {s t:Ps} {k:Nat} (r:RB (gq p) k s t) (hk:k<=50000):QF p t.i t.ae:=⟨h.q,by have:=r.len;have:=h.hl;have:=h.len;omega,r.gm,h.hl,h.len⟩
def ez0 (a c:Nat) (e w:Int):nn ⟨a,0,c,e,w⟩=⟨a,0,c,e,w⟩:=rfl
def JD {α β:Type} (p:α×β):(p.1,p.2)=p:=rfl
theorem bR {n:Nat} (h:n<=1000000):ay .i64 (n:Int) 1=((n+1:Nat):Int):=MC h
theorem QtJ (y:QS×Int) (u:Jw.pre y):Vb y:=by
 have⟨⟨p,s⟩,a⟩:=y;obtain⟨h0,h1,m⟩:fS (p,s)/\s.i<=p.1.length/\yH (gq p) a:=u;have⟨i,g,es,f⟩:=h0.out;have⟨_,_,_,e,w⟩:=s;cases es;simp only at h1;have t:=MH m;have hl:=f.hl;have hlen:=f.len;have ok:=λj (o:j<=100000)=>(⟨f.q,o,f.g,hl,hlen⟩:QF p j g).ok e w
 have l:uI ((p,⟨i,0,g,e,w⟩),a)=tj (gq p) ⟨i,0,g,e,w⟩ (ix (gq p) a):=rfl;unfold Vb;simp only[bN,bj,aw,dL,Zad,Zan,Zao,bR (n:=i) ω,Int.ofNat_le,Zd0];rw[l];unfold tj;have wr:∀(j c:Nat) (b:Int),b=aq (gq p) c->((j:Int)=((Ps.aA (gq p) ⟨j,0,g,e,w⟩ c 4).i:Nat)/\(g:Int)=((Ps.aA (gq p) ⟨j,0,g,e,w⟩ c 4).ae:Nat)/\cL (aE e 0) 4 e=(Ps.aA (gq p) ⟨j,0,g,e,w⟩ c 4).au/\cL (aE e 0) b w=(Ps.aA (gq p) ⟨j,0,g,e,w⟩ c 4).wh):=λj c b d=>by
  rw[wrE,wrW,<-d];simp
 refine⟨λk=>?_,λk=>⟨ZaF _,k,λk1=>?_,λk1=>?_⟩⟩
 ·grind
 ·have v:=f.q.p0 i;rcases f.q.rune (i:=i) ω with⟨_,h⟩ | ⟨d,_⟩
  ·omega
  ·grind
 ·rcases f.q.rune (i:=i) ω with⟨d,h⟩ | ⟨_,h,_⟩
  ·rw[Zaa (by grind),Zaa (by grind)];dsimp only;rw[h];generalize aN (gq p) i=r;refine⟨λk2=>by simp_all,λk2=>?_⟩;rw[Zaa k2];refine⟨λk2=>by simp_all,λk2=>?_⟩;rw[Zaa k2];refine⟨λk2=>by simp_all,λk2=>?_⟩;rw[Zaa k2];refine⟨λk2=>by simp_all,λk2=>?_⟩;rw[Zaa k2];refine⟨λk2=>by simp_all,λk2=>?_⟩;rw[Zaa k2];refine⟨λk2=>by simp_all,λk2=>?_⟩;rw[Zaa k2];refine⟨λk2=>?_,λk2=>?_⟩
   ·rw[Zaa (by grind)];exact⟨(ok (i+1) ω),rfl,wr (i+1) _ a t.symm⟩
   ·simp_all
  ·omega
def Qes (h:Ok mz):Ok Jw:=okZ [tA,Ai,mz,UW] f190 (λ_=>dk ()) ⟨vH,FP,h,Qlu⟩ QtJ
theorem FY (G:List Gt) (j g a:Nat) (e w er b:Int) (c:b=aq G a):(j:Int)=((Ps.aA G ⟨j,0,g,e,w⟩ a er).i:Nat)/\(g:Int)=((Ps.aA G ⟨j,0,g,e,w⟩ a er).ae:Nat)/\cL (aE e 0) er e=(Ps.aA G ⟨j,0,g,e,w⟩ a er).au/\cL (aE e 0) b w=(Ps.aA G ⟨j,0,g,e,w⟩ a er).wh:=by
 rw[wrE,wrW,<-c];simp
theorem QtK (y:QS) (l:U_.pre y):Vc y:=by
 have⟨p,s⟩:=y;obtain⟨h0,h1⟩:fS (p,s)/\s.i<p.1.length:=l;have⟨i,g,es,f⟩:=h0.out;have⟨_,_,_,e,w⟩:=s;cases es;simp only at h1;have hl:=f.hl;have hlen:=f.len;have ok:=λj (d:j<=100000)=>(⟨f.q,d,f.g,hl,hlen⟩:QF p j g).ok e w
 have c:Aj (p,⟨i,0,g,e,w⟩)=fK (gq p) ⟨i,0,g,e,w⟩:=rfl;have b:uI ((p,⟨((i+1:Nat):Int),0,g,e,w⟩),aq (gq p) i)=tj (gq p) ⟨i+1,0,g,e,w⟩ i:=by
  unfold uI;rw[FX f.q.n ω];rfl
 unfold Vc;simp only[bN,bj,aw,dL,Zad,bR (n:=i) ω,Zd0];rw[b,c];unfold fK;refine⟨⟨ok i f.i,ω⟩,ZaF _,ω,?_⟩;rcases f.q.rune (i:=i) ω with⟨a,h⟩ | ⟨a,h,_⟩
 ·rw[Zaa (by grind)];dsimp only;rw[h];have m:=f.q.p0 i;generalize aN (gq p) i=r at*
  refine⟨λk=>?_,λk=>?_⟩
  ·rw[Zac k];exact⟨⟨ok (i+1) ω,by assumption,i,by grind,rfl⟩,rfl,rfl,rfl,rfl,rfl⟩
  ·rw[Zaa k];have A:(r=91\/r=45)->fS (p,⟨((i+1:Nat):Int),0,g,e,w⟩)/\[]=(if r=91\/r=45 then((Ps.next ⟨i,0,g,e,w⟩).aA (gq p) i 4,[]) else(Ps.next ⟨i,0,g,e,w⟩,[(r,r)]):Ps×List Rg).2/\((i+1:Nat):Int)=((if r=91\/r=45 then((Ps.next ⟨i,0,g,e,w⟩).aA (gq p) i 4,[]) else(Ps.next ⟨i,0,g,e,w⟩,[(r,r)]):Ps×List Rg).1.i:Nat)/\(g:Int)=((if r=91\/r=45 then((Ps.next ⟨i,0,g,e,w⟩).aA (gq p) i 4,[]) else(Ps.next ⟨i,0,g,e,w⟩,[(r,r)]):Ps×List Rg).1.ae:Nat)/\cL (aE e 0) 4 e=(if r=91\/r=45 then((Ps.next ⟨i,0,g,e,w⟩).aA (gq p) i 4,[]) else(Ps.next ⟨i,0,g,e,w⟩,[(r,r)]):Ps×List Rg).1.au/\cL (aE e 0) (aq (gq p) i) w=(if r=91\/r=45 then((Ps.next ⟨i,0,g,e,w⟩).aA (gq p) i 4,[]) else(Ps.next ⟨i,0,g,e,w⟩,[(r,r)]):Ps×List Rg).1.wh:=λh=>by
    rw[Zac h];exact⟨ok (i+1) ω,rfl,FY (gq p) (i+1) g i e w 4 _ rfl⟩
   grind [Ps.next]
 ·rw[Zac (a),h];refine⟨λk=>ω,λ_=>⟨λk=>ω,λ_=>⟨λk=>ω,λ_=>⟨λ_=>?_,λk=>absurd rfl k⟩⟩⟩⟩;exact⟨ok (i+1) ω,rfl,FY (gq p) (i+1) g i e w 4 _ rfl⟩
def QlE (h:Ok mz):Ok U_:=okZ [Ai,Jw,tA] f207 (λ_=>dk ()) ⟨FP,Qes h,vH⟩ QtK
theorem QtL (y:QS×Int) (c:Pk.pre y):Vd y:=by
 have⟨⟨p,s⟩,a⟩:=y;obtain⟨h0,h1,b⟩:fS (p,s)/\s.i<=90000/\yH (gq p) a:=c;have⟨i,g,es,f⟩:=h0.out;have⟨_,_,_,e,w⟩:=s;cases es;simp only at h1;have d:=MH b;unfold Vd;simp only[bj,ib,iA,bR (n:=i) ω,Zan,Zao];have ok:=f.ok e w;have c1:∀x:Int,x=41->(0:Int)<=41/\(41:Int)<=127:=λ_ _=>by decide
 have en:nn ⟨↑i,0,↑g,e,w⟩=⟨i,0,g,e,w⟩:=rfl;rw[en];have st:¬(e=0/\bd (gq p) ⟨i,0,g,e,w⟩ 41=false)->(((i+1:Nat):Int)=(((if e=0/\bd (gq p) ⟨i,0,g,e,w⟩ 41=false then Ps.aA (gq p) ⟨i,0,g,e,w⟩ (ix (gq p) a) 4 else⟨i,0,g,e,w⟩:Ps).i+1:Nat):Int))/\↑g=((if e=0/\bd (gq p) ⟨i,0,g,e,w⟩ 41=false then Ps.aA (gq p) ⟨i,0,g,e,w⟩ (ix (gq p) a) 4 else⟨i,0,g,e,w⟩:Ps).ae:Nat)/\e=(if e=0/\bd (gq p) ⟨i,0,g,e,w⟩ 41=false then Ps.aA (gq p) ⟨i,0,g,e,w⟩ (ix (gq p) a) 4 else⟨i,0,g,e,w⟩:Ps).au/\w=(if e=0/\bd (gq p) ⟨i,0,g,e,w⟩ 41=false then Ps.aA (gq p) ⟨i,0,g,e,w⟩ (ix (gq p) a) 4 else⟨i,0,g,e,w⟩:Ps).wh:=λh=>by grind
 grind [FY]
def QlF:Ok Pk:=okZ [sm,tA] f206 (λ_=>dk ()) ⟨yG,vH⟩ QtL
theorem QlG (y:QS) (N:Jx.pre y):Ve y:=by
 have⟨p,s⟩:=y;obtain⟨h0,h1⟩:fS (p,s)/\s.i<p.1.length:=N;have⟨i,g,es,f⟩:=h0.out;have⟨_,_,_,e,w⟩:=s;cases es;simp only at h1;have hl:=f.hl;have hlen:=f.len;have hi:i<(gq p).length:=ω;obtain⟨d,E⟩:∃d,cB (gq p) ((gq p).length-(i+1)) (i+1) []=d:=⟨_,rfl⟩;have D:dK (gq p) ⟨i+1,0,g,e,w⟩=⟨d.1,0,g,e,w⟩:=by rw[<-E];rfl
 have P:RB (gq p) 0 ⟨i,0,g,e,w⟩ ⟨i,0,g,e,w⟩:=RB.refl (by grind) f.g;have G:RB (gq p) 0 ⟨i,0,g,e,w⟩ ⟨d.1,0,g,e,w⟩:=by rw[<-D];exact wR (P.qh hi)
 obtain⟨ok,c⟩:∃ok,gZ (gq p) ⟨i+1,0,g,e,w⟩=ok:=⟨_,rfl⟩;obtain⟨m,A⟩:∃m,ie (gq p) ⟨i+1,0,g,e,w⟩=m:=⟨_,rfl⟩;have gm:lJ m:=by grind [q_]
 have u:oL (p,⟨i,0,g,e,w⟩)=if ok/\bd (gq p) ⟨d.1,0,g,e,w⟩ 44=true then(dK (gq p) ⟨d.1+1,0,g,e,w⟩,ie (gq p) ⟨d.1+1,0,g,e,w⟩,!gZ (gq p) ⟨d.1+1,0,g,e,w⟩) else(⟨d.1,0,g,e,w⟩,m,false):=by
  rw[<-c,<-A];unfold oL;rw[az];have r:dK (gq (p,(⟨i,0,g,e,w⟩:cm)).1) (nn (p,(⟨i,0,g,e,w⟩:cm)).2).next=⟨d.1,0,g,e,w⟩:=D;rw[r];rfl
 obtain⟨j,n,op,l,C,J⟩:∃j n op,oL (p,⟨i,0,g,e,w⟩)=(⟨j,0,g,e,w⟩,n,op)/\RB (gq p) 0 ⟨i,0,g,e,w⟩ ⟨j,0,g,e,w⟩/\lJ n:=by
  rw[u];split
  ·rename_i L
   exact⟨_,_,_,rfl,wR (G.qh (dy L.2)),q_ _ _⟩
  ·grind
 have v:ik (p,⟨i,0,g,e,w⟩)=if ok=false\/bd (gq p) ⟨j,0,g,e,w⟩ 125=false\/(op=false/\iS n m) then Ps.aA (gq p) ⟨j,0,g,e,w⟩ i 4 else⟨j,0,g,e,w⟩:=by
  unfold ik;rw[az,l,<-c,<-A];rfl
 have H:Df (p,⟨i,0,g,e,w⟩)=if op then(-1,true) else e_ n:=by
  unfold Df;rw[az,l]
 have I:sq (p,⟨i,0,g,e,w⟩)=(if (e_ m).2=false\/(Df (p,⟨i,0,g,e,w⟩)).2=false then(ik (p,⟨i,0,g,e,w⟩)).next.aA (gq p) i 2 else(ik (p,⟨i,0,g,e,w⟩)).next,(e_ m).1,(Df (p,⟨i,0,g,e,w⟩)).1):=by
  have r:eN (gq p) ⟨i,0,g,e,w⟩=ke (gq p) i (oL (p,⟨i,0,g,e,w⟩)).1 m (oL (p,⟨i,0,g,e,w⟩)).2.1 ok (oL (p,⟨i,0,g,e,w⟩)).2.2:=by
   grind [eN,Ps.next]
  unfold sq;rw[az];refine r.trans ?_;rw[l,v,H];rfl
 have Q:RB (gq p) 0 ⟨i,0,g,e,w⟩ (ik (p,⟨i,0,g,e,w⟩)):=by
  rw[v];split
  ·exact C.aA _ _
  ·exact C
 have R:(ik (p,⟨i,0,g,e,w⟩)).ae=g:=by rw[v];split<;>simp
 have o:=λ(x:Nat) (M:x<=100000)=>(⟨f.q,M,f.g,hl,hlen⟩:QF p x g).ok e w
 have O:=C.len;have dl:=G.len;have V:=Q.len;simp only at O dl;unfold Ve;simp only[bj,ib,iA,bR (n:=i) ω,Zad,Zan,Zao,ZaX,ZaY,ZaZ,ez2,ez0,JD,E,c,A];have T:ok->bd (gq p) ⟨d.1,0,g,e,w⟩ 44->ie (gq p) ⟨d.1+1,0,g,e,w⟩=n/\(!gZ (gq p) ⟨d.1+1,0,g,e,w⟩)=op/\(cB (gq p) ((gq p).length-(d.1+1)) (d.1+1) []).1=j:=λa b=>by
  rw[Zac ⟨a,b⟩,l] at u;injection u with h1 z
  injection z with z K
  exact⟨z.symm,K.symm,(ZaR Ps.i h1).symm⟩
 have U:¬(ok/\bd (gq p) ⟨d.1,0,g,e,w⟩ 44)->m=n/\false=op/\d.1=j:=λa=>by
  grind
 simp only[l,bR (n:=d.1) ω,ez0,and_self];refine⟨⟨(f.ok e w),ω⟩,o _ ω,⟨λk=>⟨⟨o _ ω,by decide,by decide⟩,λk1=>⟨?_,?_⟩,λk1=>?_⟩,λk=>?_⟩,?_,?_⟩
 ·grind
 ·grind
 ·grind
 ·grind
 ·have S:(ok=false\/bd (gq p) ⟨j,0,g,e,w⟩ 125=false\/(op=false/\iS n m))->fS (p,⟨j,0,g,e,w⟩)/\↑j=((ik (p,⟨i,0,g,e,w⟩)).i:Nat)/\↑g=((ik (p,⟨i,0,g,e,w⟩)).ae:Nat)/\cL (aE e 0) 4 e=(ik (p,⟨i,0,g,e,w⟩)).au/\cL (aE e 0) (aq (gq p) i) w=(ik (p,⟨i,0,g,e,w⟩)).wh:=λh=>by
   grind [FY]
  grind
 ·refine⟨gm,J,⟨λk=>?_,λk=>?_⟩,?_⟩
  ·grind
  ·grind
  ·have F:fS (p,⟨(((ik (p,⟨i,0,g,e,w⟩)).i+1:Nat):Int),0,((ik (p,⟨i,0,g,e,w⟩)).ae:Nat),(ik (p,⟨i,0,g,e,w⟩)).au,(ik (p,⟨i,0,g,e,w⟩)).wh⟩):=(⟨f.q,ω,by rw[R];exact f.g,hl,hlen⟩:QF p _ _).ok _ _;rw[bR ω,I];generalize ik (p,⟨i,0,g,e,w⟩)=t at*
   generalize Df (p,⟨i,0,g,e,w⟩)=h at*
   have B:(e_ m).2=false\/h.2=false->(if (e_ m).2=false\/h.2=false then t.next.aA (gq p) i 2 else t.next)=t.next.aA (gq p) i 2:=λk=>Zac k
   have bad:(e_ m).2=false\/h.2=false->((t.i+1:Nat):Int)=((if (e_ m).2=false\/h.2=false then t.next.aA (gq p) i 2 else t.next:Ps).i:Nat)/\(t.ae:Int)=((if (e_ m).2=false\/h.2=false then t.next.aA (gq p) i 2 else t.next:Ps).ae:Nat)/\cL (aE t.au 0) 2 t.au=(if (e_ m).2=false\/h.2=false then t.next.aA (gq p) i 2 else t.next:Ps).au/\cL (aE t.au 0) (aq (gq p) i) t.wh=(if (e_ m).2=false\/h.2=false then t.next.aA (gq p) i 2 else t.next:Ps).wh:=λk=>by
    rw[B k,wrE,wrW];exact⟨by rw[ZZ];rfl,by rw[CT];rfl,rfl,rfl⟩
   refine⟨λk=>⟨F,rfl,rfl,bad (.inl k)⟩,λk=>⟨λk1=>⟨F,rfl,rfl,bad (.inr k1)⟩,λk1=>?_⟩⟩;rw[Zaa (by grind)];exact⟨rfl,rfl,rfl,rfl,rfl,rfl⟩
def QlH:Ok Jx:=okZ [Ai,Pf,sm,UY,tA,Pe] f163 QtD ⟨FP,Qlz,yG,Qlx,vH,Qly⟩ QlG
def MJ (p:QL) (i g:Nat) (e w:Int):Aj (p,⟨i,0,g,e,w⟩)=fK (gq p) ⟨i,0,g,e,w⟩:=rfl
theorem oM {l:List Rg} (h:dH l):l.length=1:=by
 grind [dH]
theorem QtM (y:QS×Int) (hy:Jz.pre y):Vf y:=by
 have⟨⟨p,s⟩,a0⟩:=y;obtain⟨h0,h1,h2⟩:fS (p,s)/\s.i<=p.1.length/\yH (gq p) a0:=hy;have⟨i,g,es,f⟩:=h0.out;have⟨_,_,_,e,w⟩:=s;cases es;simp only at h1;have hl:=f.hl;have hlen:=f.len;have q:=λ(j k:Nat) (e w:Int) (hj:j<=100000) (hk:k<=4)=>(⟨f.q,hj,hk,hl,hlen⟩:QF p j k).ok e w
 have r0:RB (gq p) 0 ⟨i,0,g,e,w⟩ ⟨i,0,g,e,w⟩:=RB.refl (by grind) f.g;have rs:=r0.skip 94;have en:nn ⟨↑i,0,↑g,e,w⟩=⟨i,0,g,e,w⟩:=rfl;obtain⟨R,S⟩:∃R,tD ((p,⟨i,0,g,e,w⟩),a0)=R:=⟨_,rfl⟩;have eR:R=dQ (gq p) ((gq p).length+2-(bt (gq p) ⟨i,0,g,e,w⟩ 94).i) (bt (gq p) ⟨i,0,g,e,w⟩ 94) [] false:=by
  grind [tD,az]
 have N:RB (gq p) 0 ⟨i,0,g,e,w⟩ R.1:=by grind [tB]
 have W:px ((p,⟨i,0,g,e,w⟩),a0)=if R.1.au=0/\(R.2.2=false\/bd (gq p) R.1 93=false) then R.1.aA (gq p) (ix (gq p) a0) 4 else R.1:=by
  grind [px,az]
 have rT:RB (gq p) 0 ⟨i,0,g,e,w⟩ (px ((p,⟨i,0,g,e,w⟩),a0)):=by
  rw[W];split
  ·exact N.aA _ _
  ·exact N
 have eS:yI ((p,⟨i,0,g,e,w⟩),a0)=((px ((p,⟨i,0,g,e,w⟩),a0)).next,if bd (gq p) ⟨i,0,g,e,w⟩ 94 then l9 R.2.1 else aY R.2.1):=by
  unfold yI;rw[az,W,eR];rfl
 have Rl:=N.len;have Rm:=N.gm;have Tl:=rT.len;have Ro:R.1.an=0:=N.op;have V:(⟨R.1.i,0,R.1.ae,R.1.au,R.1.wh⟩:Ps)=R.1:=by rw[<-Ro]
 have lR:R.2.1.length<=50000:=by
  grind [tB]
 unfold Vf;simp only[bN,bj,Zad,Zan,Zao,ZaX,ZaY,ZaZ,JD,en,S,aw,a_,bq,dL,bR (n:=i) ω,bR (n:=(px ((p,⟨i,0,g,e,w⟩),a0)).i) ω,ez0,V];refine⟨⟨⟨q i g e w ω f.g,by decide,by decide⟩,λk=>?_,λk=>?_⟩,⟨⟨(zz (bt (gq p) ⟨i,0,g,e,w⟩ 94),[],false),rfl,rfl,rfl,rfl,rfl,rfl,?_⟩,λx X=>?_⟩,?_,?_⟩
 ·rw[si k,k];exact⟨rfl,rfl,rfl,rfl,rfl⟩
 ·grind [sj]
 ·exact⟨⟨ZaF _,by have:=rs.len;show((bt (gq p) ⟨i,0,g,e,w⟩ 94).i:Int)<=↑p.1.length;omega⟩,by show((bt (gq p) ⟨i,0,g,e,w⟩ 94).an:Int)=0;rw[rs.op];rfl,⟨ZaF _,by have:=rs.gm;show((bt (gq p) ⟨i,0,g,e,w⟩ 94).ae:Int)<=4;omega⟩,Zaj _,_,by show p.1.length+2<=(gq p).length+2-_+(bt (gq p) ⟨i,0,g,e,w⟩ 94).i;have:=rs.len;omega,(eR.symm.trans S.symm)⟩
 ·have⟨⟨r,xo,D,F,G⟩,l,b⟩:=x;have⟨i1,i2,i3,i4,n,i5,i6⟩:=X;have i1:0<=r/\r<=↑p.1.length:=i1;have i3:0<=D/\D<=4:=i3;subst i2;obtain⟨r,rfl⟩:=Zau i1.1;obtain⟨D,rfl⟩:=Zau i3.1;have i4:l.length<=20*r:=i4;have i5:p.1.length+2<=n+r:=i5;have i6:dQ (gq p) n ⟨r,0,D,F,G⟩ l b=R:=i6.trans S;have qx:=q r D F G ω ω;have ex:nn ⟨↑r,0,↑D,F,G⟩=⟨r,0,D,F,G⟩:=rfl;simp only[MJ,Zad];have stop:¬(F=0/\r<(gq p).length/\bd (gq p) ⟨r,0,D,F,G⟩ 93=false)->l=R.2.1/\b=R.2.2/\(r:Int)=↑R.1.i/\(D:Int)=↑R.1.ae/\F=R.1.au/\G=R.1.wh:=λh=>by
   have:R=(⟨r,0,D,F,G⟩,l,b):=by
    rw[<-i6];cases n with
    | zero=>rfl
    | succ n=>unfold dQ;rw[Zaa h]
   grind
  obtain⟨n,rfl⟩:∃m,n=m+1:=⟨n-1,ω⟩;have cont:∀(d A:Nat) (o B:Int) (J:List Rg),r<d->d<=p.1.length->A<=4->J.length<=20*d->dQ (gq p) n ⟨d,0,A,o,B⟩ J true=R->∃z:cm×List Rg×Bool,J=z.2.1/\true=z.2.2/\↑d=z.1.i/\↑A=z.1.ae/\o=z.1.au/\B=z.1.wh/\Jy ((p,⟨i,0,g,e,w⟩),a0) z/\p.1.length-z.1.i.toNat<p.1.length-r:=λd A o B J c1 c2 c3 c4 c5=>
   ⟨(⟨d,0,A,o,B⟩,J,true),rfl,rfl,rfl,rfl,rfl,rfl,⟨⟨ZaF _,by grind⟩,rfl,⟨ZaF _,by grind⟩,c4,n,by show p.1.length+2<=n+d;omega,c5.trans S.symm⟩,by grind⟩
  refine⟨λk1=>⟨λk2=>⟨⟨qx,by decide,by decide⟩,λk3=>⟨⟨qx,k2⟩,?_⟩,λk3=>stop λh=>by grind⟩,λk2=>stop λh=>ω⟩,λk1=>stop λh=>k1 h.1⟩;have rx:RB (gq p) 0 ⟨r,0,D,F,G⟩ ⟨r,0,D,F,G⟩:=RB.refl (by grind) (by grind);have⟨b1,Z,b3⟩:=wS rx (show r<(gq p).length by omega);have u:dQ (gq p) (n+1) ⟨r,0,D,F,G⟩ l b=(let m:=lE (gq p) (fK (gq p) ⟨r,0,D,F,G⟩).1 r (fK (gq p) ⟨r,0,D,F,G⟩).2 l
   if m.2.2 then(m.1,m.2.1,true) else dQ (gq p) n m.1 m.2.1 true):=by
   conv=>lhs;unfold dQ
   grind
  rw[u] at i6;obtain⟨⟨⟨d,to,A,o,B⟩,a⟩,ht⟩:∃t,fK (gq p) ⟨r,0,D,F,G⟩=t:=⟨_,rfl⟩;rw[ht] at b1 Z b3 i6 ⊢;have t0:=b1.op;subst t0;have t1:d<=(gq p).length:=b1.len;have U:=b1.gm;have t3:r<d:=Z;have t4:=b3;simp only[ez0,bR (n:=d) ω];have fit:∀(J:List Rg),J.length<=l.length+8->((J.length:Nat):Int)*(8:Nat)<=140737488355328:=λJ h=>by omega
  have H:o≠0\/bd (gq p) ⟨d,0,A,o,B⟩ 45=false->dQ (gq p) n ⟨d,0,A,o,B⟩ (l++a) true=R:=λh=>by
   grind [lE]
  have lA:(l++a).length<=20*d:=by grind
  have T:=q (d+1) A o B ω U;refine⟨λk4=>⟨fit _ (by grind),cont _ _ _ _ _ t3 ω U lA (H (.inl k4))⟩,λk4=>⟨⟨(q d A o B ω U),by decide,by decide⟩,λk5=>⟨fit _ (by grind),cont _ _ _ _ _ t3 ω U lA (H (.inr k5))⟩,λk5=>?_⟩⟩;have t5:=dy k5;simp only at t5;have j0:¬(o≠0\/bd (gq p) ⟨d,0,A,o,B⟩ 45=false):=by grind
  have i7:=i6;unfold lE at i7;simp only at i7;rw[Zaa j0] at i7;have nx:Ps.next ⟨d,0,A,o,B⟩=⟨d+1,0,A,o,B⟩:=rfl;rw[nx] at i7;have C:((gq p).length<=d+1\/bd (gq p) ⟨d+1,0,A,o,B⟩ 93\/bd (gq p) ⟨d+1,0,A,o,B⟩ 91\/bd (gq p) ⟨d+1,0,A,o,B⟩ 45)->fS (p,⟨((d+1:Nat):Int),0,A,o,B⟩)/\l=R.2.1/\true=R.2.2/\((d+1:Nat):Int)=↑R.1.i/\(A:Int)=↑R.1.ae/\cL (aE o 0) 4 o=R.1.au/\cL (aE o 0) (aq (gq p) r) B=R.1.wh:=λh=>by
   grind [FY]
  refine⟨λk6=>C (.inl ω),λk6=>⟨⟨T,by decide,by decide⟩,λk7=>C (.inr (.inl k7)),λk7=>⟨⟨T,by decide,by decide⟩,λk8=>C (.inr (.inr (.inl k8))),λk8=>⟨⟨T,by decide,by decide⟩,λk9=>C (.inr (.inr (.inr k9))),λk9=>⟨⟨T,by assumption⟩,?_⟩⟩⟩⟩⟩;have j1:¬((gq p).length<=d+1\/bd (gq p) ⟨d+1,0,A,o,B⟩ 93\/bd (gq p) ⟨d+1,0,A,o,B⟩ 91\/bd (gq p) ⟨d+1,0,A,o,B⟩ 45):=by
   grind
  rw[Zaa j1] at i7;have ru:RB (gq p) 0 ⟨r,0,D,F,G⟩ ⟨d+1,0,A,o,B⟩:=b1.qh ω;have⟨Q,d2,d3⟩:=wS ru (show d+1<(gq p).length by omega);obtain⟨⟨⟨M,vo,O,I,P⟩,c⟩,hv⟩:∃v,fK (gq p) ⟨d+1,0,A,o,B⟩=v:=⟨_,rfl⟩;rw[MJ p (d+1) A o B];rw[hv] at Q d2 d3 i7 ⊢;have v0:=Q.op;subst v0;have v1:M<=(gq p).length:=Q.len;have Y:=Q.gm;have v3:d+1<M:=d2;simp only at i7 ⊢;have qv:=q M O I P ω Y;have g0:∀l:List Rg,(l.getD 0 (0,0)).1=pR l:=λ_=>rfl
  simp only[g0];have E:(I=0/\(dH a=false\/dH c=false\/pR c<pR a))->fS (p,⟨↑M,0,O,I,P⟩)/\l=R.2.1/\true=R.2.2/\(M:Int)=↑R.1.i/\(O:Int)=↑R.1.ae/\cL (aE I 0) 4 I=R.1.au/\cL (aE I 0) (aq (gq p) r) P=R.1.wh:=λh=>by
   grind [FY]
  have K:¬(I=0/\(dH a=false\/dH c=false\/pR c<pR a))->I=0->dQ (gq p) n ⟨M,0,O,I,P⟩ (l++[(pR a,pR c)]) true=R:=λh h2=>by
   grind
  have L:I≠0->dQ (gq p) n ⟨M,0,O,I,P⟩ l true=R:=λh=>by
   grind
  refine⟨λm1=>⟨λm2=>E ⟨m1,.inl m2⟩,λm2=>⟨λm3=>E ⟨m1,.inr (.inl m3)⟩,λm3=>⟨by have:=oM m2;omega,by have:=oM m3;omega,λm4=>E ⟨m1,.inr (.inr m4)⟩,λm4=>⟨λ_=>⟨by have:=oM m2;omega,by have:=oM m3;omega,fit _ (by simp),?_⟩,λh=>absurd m1 h⟩⟩⟩⟩,λm1=>⟨λh=>absurd h m1,λ_=>?_⟩⟩
  ·refine cont _ _ _ _ _ ω ω Y (by simp;omega) (K ?_ m1);grind
  ·exact cont _ _ _ _ _ ω ω Y ω (L m1)
 ·have bad:R.1.au=0/\(R.2.2=false\/bd (gq p) R.1 93=false)->↑R.1.i=((px ((p,⟨i,0,g,e,w⟩),a0)).i:Nat)/\↑R.1.ae=((px ((p,⟨i,0,g,e,w⟩),a0)).ae:Nat)/\cL (aE R.1.au 0) 4 R.1.au=(px ((p,⟨i,0,g,e,w⟩),a0)).au/\cL (aE R.1.au 0) a0 R.1.wh=(px ((p,⟨i,0,g,e,w⟩),a0)).wh:=λh=>by
   rw[W,Zac h,wrE,wrW,(MH h2)];simp
  grind
 ·rw[eS];exact⟨λk=>⟨ω,by grind,rfl,rfl,rfl,rfl⟩,λk=>⟨ω,by grind,rfl,rfl,rfl,rfl⟩⟩
def QlI (h:Ok mz) (a:Ok p_):Ok Jz:=okZ [sm,U_,UX,tA,p_,mz] f188 QtF ⟨yG,QlE h,Qlw,vH,a,h⟩ QtM
abbrev QD:=QS×Int
def zO (y:QD):Ps->Ps×List Nd:=CU (gq y.1.1) (20-y.2.toNat) (y.2.toNat+1)
def mB (y:QD):Nat:=5*(20-y.2.toNat)
def Qet (y:QD):Prop:=0<=y.2/\y.2<=20
def Vg (y:QD):Prop:=Qet y/\y.1.2.i<=y.1.1.1.length
def ltP (y:QD):Prop:=Qet y/\y.1.2.i<y.1.1.1.length
def Qav (f:FuncId) (pre:QD->Prop) (F:QD->Ps×List Nd):bp D:=yE f QD (·.1) UU pre (λy=>[Qyy y.2]) (λy=>zz (F y).1) λy=>.list 7 (F y).2
def fy (y:QD):Ps×List Nd:=lk (vA (gq y.1.1) (zO y) y.2.toNat (nn y.1.2))
def iT (y:QD):Ps×List Nd:=lk (pr (gq y.1.1) (zO y) y.2.toNat (nn y.1.2))
def kH (y:QD):Ps×List Nd:=lk (tk (gq y.1.1) (zO y) y.2.toNat (nn y.1.2))
def gG (y:QD):Ps×List Nd:=lk (gE (gq y.1.1) (zO y) y.2.toNat (nn y.1.2))
abbrev QG:=QS×Int×Int
def gd (y:QG):QD:=(y.1,y.2.1)
def rW (y:QG):Ps×List Nd:=lk (jP (gq y.1.1) (zO (gd y)) y.2.1.toNat (nn y.1.2) (ix (gq y.1.1) y.2.2))
def yM:bp D:=Qav 62 Vg fy
def BA:bp D:=Qav 99 Vg iT
def BB:bp D:=Qav 137 ltP kH
def FZ:bp D:=Qav 162 ltP gG
def F0:bp D:=yE 186 QG (·.1) Qen (λy=>Vg (gd y)/\yH (gq y.1.1) y.2.2) (λy=>[Qyy y.2.1,Qyy y.2.2]) (λy=>zz (rW y).1) λy=>.list 7 (rW y).2
def rfT (n:Nat):vU:=[yM.under (λy=>mB y+4) n,BA.under (λy=>mB y+3) n,BB.under (λy=>mB y+2) n,FZ.under (λy=>mB y+1) n,F0.under (λy=>mB (gd y)) n]
def rfW (l:vU) (i:Nat) (fn:Func) (k:bp D) (a:k.Y->dj D) (n:Nat) (y:k.Y):Prop:=vc (rfT (n+i)++l) fn k a y
def Qeu (p:QL) (s:cm):List (Nat×AO D.E):=qO p s++[(1,.tok 9 87)]
def stI (y:QD) (s:cm):Prop:=fS (y.1.1,s)/\(nn y.1.2).i<=(nn s).i/\(nn s).i<=y.1.1.1.length+30
def MK (y:QD) (x:cm×List (List Nd)):Prop:=stI y x.1/\0<x.2.length/\total x.2+2*x.2.length<=3*((nn x.1).i-(nn y.1.2).i)+3/\∃n,y.1.1.1.length+2<=n+(nn x.1).i/\
 (dZ (gq y.1.1) (zO y) y.2.toNat n (nn x.1) x.2).1=(fy y).1/\b9 4 (dZ (gq y.1.1) (zO y) y.2.toNat n (nn x.1) x.2).2=(fy y).2
def BC (y:QD) (x:cm×List (List Nd)):Nat:=y.1.1.1.length+30-(nn x.1).i
def Qev (y:yM.Y):dj D:=⟨[],[],[(28,⟨cm×List (List Nd),[0,1],λx=>[(5,.grow 9 x.2 1)],[],λx=>Qeu y.1.1 x.1,2,MK y,BC y⟩)],[],1,[]⟩
def QlK (y:yM.Y):Prop:=rfW [sm,Dc] 4 f62 yM Qev (mB y) y
def ML (y:QD) (x:cm×List (List Nd)):Prop:=stI y x.1/\x.2.length<=(nn x.1).i-(nn y.1.2).i/\total x.2<=3*((nn x.1).i-(nn y.1.2).i)/\∃n,y.1.1.1.length+2<=n+(nn x.1).i/\
 (eE (gq y.1.1) (zO y) y.2.toNat n (nn x.1) x.2).1=(iT y).1/\b9 3 (eE (gq y.1.1) (zO y) y.2.toNat n (nn x.1) x.2).2=(iT y).2
def Qew (y:BA.Y):dj D:=⟨[],[],[(28,⟨cm×List (List Nd),[0,1],λx=>[(5,.grow 9 x.2 1)],[],λx=>Qeu y.1.1 x.1,2,ML y,BC y⟩)],[],1,[]⟩
def QlL (y:BA.Y):Prop:=rfW [sm,Dc] 3 f99 BA Qew (mB y) y
def nR (y:QD):Ps×Int×Int:=lk (if bd (gq y.1.1) (gG y).1 42 then((gG y).1.next,0,-1) else if bd (gq y.1.1) (gG y).1 43 then((gG y).1.next,1,-1) else if bd (gq y.1.1) (gG y).1 63 then((gG y).1.next,0,1) else eN (gq y.1.1) (gG y).1)
def BD (y:QD):Prop:=(gG y).1.au=0/\(gG y).1.i<y.1.1.1.length/\(bd (gq y.1.1) (gG y).1 42\/bd (gq y.1.1) (gG y).1 43\/bd (gq y.1.1) (gG y).1 63\/bd (gq y.1.1) (gG y).1 123)
def Qex (y:BB.Y):dj D:=⟨[],[],[],[(31,⟨Unit,[0,5],λ_=>[(6,.ptr 1 0)],[],λ_=>qO y.1.1 (zz (nR y).1)++[(1,.cells [Qyy 5,.dc,Qyy (nR y).2.1,Qyy (nR y).2.2,.bool false,Qyy 0,Qyy 1] 149 false)],2,λ_=>BD y,λ_=>0⟩)],1,[]⟩
def QlM (y:BB.Y):Prop:=rfW [sm,Jx] 2 f137 BB Qex (mB y) y
def QlN (y:FZ.Y):Prop:=rfW [Ai,tA,Jz,Jw,Bu,p_] 1 f162 FZ (λ_=>dk ()) (mB y) y
def QlO (y:F0.Y):Prop:=rfW [sm,tA,Pk] 0 f186 F0 (λ_=>dk ()) (mB (gd y)) y
end
end sx
end Go.Proofs.YtfkmlhnhkdbjeaaGreat
