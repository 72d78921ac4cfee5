/- PointAny: a part of the proof. -/
import Derived.Test.YtiiiphndmbabcaaGreatC7
import Derived.Test.YtiiiphndmbabcaaGreatC5
import Derived.Test.YtiiiphndmbabcaaGreatC6
set_option linter.all false
namespace Go.Proofs.YtiiiphndmbabcaaGreat
open Go.Proofs.Tryz
set_option maxRecDepth 100000
set_option maxHeartbeats 4000000
namespace sx
noncomputable section
open Go Go.RowKit cls syn
variable {l:List ah} {k:ah} {a:Nat}
def U_ (y:List ah):Prop:=let d:=y.length;let i:=λp:Prop=>RAI y (ag y) p;let u:=ah.mk 0 [] 0 0 false 0 0 [];(∃z:(List ah)×Nat,i (0=ag z.1/\0=(z.2:Int)/\[]=z.1/\(Iv (sK y z))))/\(∀x:(List ah)×Nat,let c:=(x.2:Int);let b:=cx .i64 (ag x.1) 1;let a:=gt u y c.toNat;let e:=gt u x.1 b.toNat;let f:=bM e.r a.r;let g:=bM x.1 [ah.mk a.op a.r a.mn a.mx a.lz a.cap a.nk a.ae];let h:Prop:=(bJ (ag g) 96/\∃z:(List ah)×Nat,i (ag g=ag z.1/\ay .i64 c 1=(z.2:Int)/\g=z.1/\(Iv (sK y z/\(d-z.2)<(d-x.2)))));(Iv (sK y x))->aj (aw c (ag y)) (aG 0 c/\aw c (ag y)/\aj (aG 0 b) (aj (aB a.op 2) (aG 0 b/\aw b (ag x.1)/\aj (aB e.op 2) (aG 0 b/\aw b (ag x.1)/\bJ (ag e.r) 8/\bJ (ag f) 8/\RAJ e.r a.r a.r (Iv (f.length<=100000000)/\aa [f] (aG 0 b/\aw b (ag x.1)/\∃z:(List ah)×Nat,i (ag x.1=ag z.1/\ay .i64 c 1=(z.2:Int)/\cS x.1 b.toNat (ah.mk 2 (aU f) 0 0 false 0 0 [])=z.1/\(Iv (sK y z/\(d-z.2)<(d-x.2))))))) (h)) (h)) (h)) (x.1=bI [] y/\True))
def Va (y:ah):Prop:=let b:=lk (cV y);let q1:=!(aB y.mn y.mx);let F:=ah.mk 0 [] 0 0 false 0 0 [];let a:=gt F y.ae 0;let g:=a.ae;let o:=aB (gt F g 0).op 2;let t:=eN (Nd.mk y.op y.r y.mn y.mx false y.cap y.nk);let u:=eN (Nd.mk y.op y.r y.mn y.mx q1 y.cap y.nk);let q:=eN (Nd.mk a.op a.r a.mn a.mx a.lz a.cap a.nk);let n:=ah.mk a.op a.r a.mn a.mx a.lz a.cap a.nk g;let s:=λp:Prop=>RA1 a (RAH g p);let m:=λp:Prop=>RA1 a p;let h:Prop:=(y.cap=b.cap/\y.nk=b.nk/\y.ae=b.ae/\True);let d:Prop:=(y.op=b.op/\y.r=b.r/\y.mn=b.mn/\y.mx=b.mx/\false=b.lz/\h);let e:Prop:=(y.op=b.op/\y.r=b.r/\y.mn=b.mn/\y.mx=b.mx/\q1=b.lz/\h);let f:Prop:=(a.mx=b.mx/\a.lz=b.lz/\a.cap=b.cap/\a.nk=b.nk/\g=b.ae/\True);let c:Prop:=(a.op=b.op/\a.r=b.r/\a.mn=b.mn/\f);let B:=a.op=b.op/\a.r=b.r/\gG .i64 a.mn y.mn=b.mn/\f;let i:Prop:=(Iv True/\RAK y.op y.r y.mn y.mx (false=false/\aa [y.cap,y.nk] (aj t (Iv True/\m (aj q (Tt 1 (aw 0 (ag g)/\aj o B (d))) (d))) (d))));let j:Prop:=(Iv True/\RAO y.op y.r y.mn y.mx q1 y.cap y.nk (aj u (Iv True/\m (aj q (Tt 1 (aw 0 (ag g)/\aj o B (e))) (e))) (e)));let A:=1=b.op/\[]=b.r/\0=b.mn/\0=b.mx/\false=b.lz/\0=b.cap/\0=b.nk/\[]=b.ae/\True;let k:Prop:=(aj (aB y.mx 0) (Iv (dO n)/\s (aj (!(fo n)) A (i))) (i));let l:Prop:=(aj (aB y.mx 0) (Iv (dO n)/\s (aj (!(fo n)) A (j))) (j));aj y.lz (Tt 1 (aw 0 (ag y.ae)/\aj (aB a.op 1) (c) (aj (aB y.mn 1) (aj (aB y.mx 1) (c) (l)) (l)))) (Tt 1 (aw 0 (ag y.ae)/\aj (aB a.op 1) (c) (aj (aB y.mn 1) (aj (aB y.mx 1) (c) (k)) (k))))
theorem EZ:∀(m:List Rg) (b:Int),0<=b->b<=1114112->(∀p∈m,uy p/\b<=p.1)->m.Pairwise (λp q=>p.2+1<q.1)->2*(m.length:Int)<=1114113-b
 | [],b,_,h,_,_=>by grind
 | p::m,b,h0,h,h1,h2=>by
  obtain⟨⟨c1,c2,c3,c4⟩,c5⟩:=h1 p Za8;obtain⟨a,c⟩:=List.pairwise_cons.mp h2;cases m with
  | nil=>simp;omega
  | cons q m=>
   have f:=a q Za8;obtain⟨⟨_,e2,e,_⟩,_⟩:=h1 q (ZaU _ Za8);have:=EZ (q::m) (p.2+2) ω ω (λx d=>⟨(h1 x (ZaU _ d)).1,by grind⟩) c;grind
def lb (l:List Rg):(aU l).length<=1000000:=by
 obtain⟨⟨h1,b⟩,_⟩:=dW l;have:=EZ (aU l) 0 ω ω (λp a=>⟨h1 p a,(h1 p a).1⟩) b;omega
theorem jk (o:List ah) (k:ah):(dL o k).length<=o.length+1:=by
 grind [dL]
theorem E0 (h:tP l) (hk:k.r.length<=1000000):tP (dL l k):=by
 unfold dL;split
 ·intro t ht;rcases Zb1 ht with h1 | h1
  ·exact h t h1
  ·rw[h1];exact lb _
 ·intro t ht;rcases List.mem_append.mp ht with h1 | h1
  ·exact h t h1
  ·grind
theorem Qrk (y:List ah) (m:Og.pre y):U_ y:=by
 obtain⟨hl,j⟩:y.length<=1000000/\tP y:=m;unfold U_;simp only[bL,bC,au,aT,br,dq,bR,Zad];refine⟨⟨([],0),rfl,rfl,rfl,Zaj _,rfl,Zah _,λt ht=>nomatch ht⟩,λx l=>?_⟩;obtain⟨o,i⟩:=x;obtain⟨c1,c2,c3,c4⟩:i<=y.length/\bI o (y.drop i)=bI [] y/\o.length<=i/\tP o:=l;refine⟨λe=>?_,λe=>?_⟩
 ·have p:i<y.length:=ω;have f:y.getD i (ah.mk 0 [] 0 0 false 0 0 [])=y.getD i bF:=rfl;have d:y.drop i=y.getD i bF::y.drop (i+1):=by simp_all
  have hk:(y.getD i bF).r.length<=1000000:=j _ (by grind);rw[d,bI] at c2;have q:=jk o (y.getD i bF);have n:=E0 c4 hk;have step:∀z,z=dL o (y.getD i bF)->sK y (z,i+1)/\y.length-(i+1)<y.length-i:=λz hz=>by
   subst hz;exact⟨⟨show i+1<=y.length by omega,c2,show(dL o (y.getD i bF)).length<=i+1 by omega,n⟩,ω⟩
  rw[f];simp only;generalize y.getD i bF=k at*
  have b:¬(o.length≠0/\k.op=2/\(ox o).op=2)->(((o++[k]).length:Nat):Int)*(96:Nat)<=140737488355328/\∃z:List ah×Nat,(((o++[k]).length:Nat):Int)=((z.1.length:Nat):Int)/\ay .i64 (i:Int) 1=(z.2:Int)/\o++[k]=z.1/\sK y z/\y.length-z.2<y.length-i:=λh=>by
   grind [dL]
  by_cases h0:o.length=0
  ·rw[h0,show cx .i64 ((0:Nat):Int) 1= -1 from jQ ω ω];grind
  ·rw[A0 ω ω];have c:o.getD (((o.length-1:Nat):Int).toNat) (ah.mk 0 [] 0 0 false 0 0 [])=ox o:=rfl;have g:(ox o).r.length<=1000000:=c4 _ (by grind);simp only[c];refine⟨ω,e,λ_=>⟨λh1=>⟨ω,ω,λa=>⟨ω,ω,ω,by grind,by grind,ω,ω,(dL o k,i+1),?_,bK ω,?_,step _ rfl⟩,λa=>b λh=>a h.2.2⟩,λh1=>b λh=>h1 h.2.1⟩,λh=>absurd h ω⟩
   ·grind [dL]
   ·show cS o (((o.length-1:Nat):Int).toNat) _=dL o k
    unfold dL;rw[Zac ⟨h0,h1,a⟩];rfl
 ·grind [bI]
def Qj2 (a:Ok dB):Ok Og:=okZ [dB] f220 Qrh a Qrk
theorem Qrl (y:ah) (A:U'.pre y):Va y:=by
 obtain⟨h1,o,C,D⟩:1<=y.ae.length/\dO (bG y)/\0<=y.mn/\((bG y).op=5->0<=(bG y).mn/\1<=(bG y).ae.length):=A;have hk:y.ae.getD 0 (ah.mk 0 [] 0 0 false 0 0 [])=bG y:=rfl;have t:(bG y).ae.getD 0 (ah.mk 0 [] 0 0 false 0 0 [])=bG (bG y):=rfl;unfold Va;simp only[bL,bC,au,dq,bR,aC,hk,t,Zan,Zao];have m:∀x:Nd,eN x->x.op=5/\x.mn<=1:=λx h=>by
  grind [eN]
 have E:∀X,cV y=X->X.op=(cV y).op/\X.r=(cV y).r/\X.mn=(cV y).mn/\X.mx=(cV y).mx/\X.lz=(cV y).lz/\X.cap=(cV y).cap/\X.nk=(cV y).nk/\X.ae=(cV y).ae:=λX h=>by
  grind
 have V:∀b,vq y=ah.mk y.op y.r y.mn y.mx b y.cap y.nk y.ae->¬(bG y).op=1->¬(y.mn=1/\y.mx=1)->¬(y.mx=0/\fo (bG y)=false)->
   (eN ⟨y.op,y.r,y.mn,y.mx,b,y.cap,y.nk⟩->(eN ⟨(bG y).op,(bG y).r,(bG y).mn,(bG y).mx,(bG y).lz,(bG y).cap,(bG y).nk⟩->(0:Int)<((bG y).ae.length:Int)/\((bG (bG y)).op=2->gG .i64 (bG y).mn y.mn=(bG y).mn*y.mn/\cV y=EY (bG y) y.mn)/\((bG (bG y)).op≠2->cV y=vq y))/\(eN ⟨(bG y).op,(bG y).r,(bG y).mn,(bG y).mx,(bG y).lz,(bG y).cap,(bG y).nk⟩=false->cV y=vq y))/\(eN ⟨y.op,y.r,y.mn,y.mx,b,y.cap,y.nk⟩=false->cV y=vq y):=λb k p q s=>by
  have e:cV y=if eN (Lk (vq y))/\eN (Lk (bG y))/\(bG (bG y)).op=2 then EY (bG y) y.mn else vq y:=by
   grind [cV]
  have B:eN (Lk (vq y))=eN ⟨y.op,y.r,y.mn,y.mx,b,y.cap,y.nk⟩:=by rw[k];rfl
  grind [Lk]
 have u:(bG y).op=1->cV y=bG y:=λh=>by grind [cV]
 have v:¬(bG y).op=1->y.mn=1->y.mx=1->cV y=bG y:=λh a b=>by grind [cV]
 have n:¬(bG y).op=1->¬(y.mn=1/\y.mx=1)->y.mx=0->fo (bG y)=false->cV y=.mk 1 [] 0 0 false 0 0 []:=λh a b c=>by grind [cV]
 have F:∀b,vq y=ah.mk y.op y.r y.mn y.mx b y.cap y.nk y.ae->cV y=vq y->y.op=(cV y).op/\y.r=(cV y).r/\y.mn=(cV y).mn/\y.mx=(cV y).mx/\b=(cV y).lz/\y.cap=(cV y).cap/\y.nk=(cV y).nk/\y.ae=(cV y).ae:=λb k h=>by
  rw[h,k];exact⟨rfl,rfl,rfl,rfl,rfl,rfl,rfl,rfl⟩
 have M:gG .i64 (bG y).mn y.mn=(bG y).mn*y.mn/\cV y=EY (bG y) y.mn->(bG y).op=(cV y).op/\(bG y).r=(cV y).r/\gG .i64 (bG y).mn y.mn=(cV y).mn/\(bG y).mx=(cV y).mx/\(bG y).lz=(cV y).lz/\(bG y).cap=(cV y).cap/\(bG y).nk=(cV y).nk/\(bG y).ae=(cV y).ae:=λ⟨a,h⟩=>by
  rw[a,h];exact⟨rfl,rfl,rfl,rfl,rfl,rfl,rfl,rfl⟩
 have z:y.lz->vq y=ah.mk y.op y.r y.mn y.mx (!aB y.mn y.mx) y.cap y.nk y.ae:=λh=>by
  grind [vq]
 have w:y.lz=false->vq y=ah.mk y.op y.r y.mn y.mx false y.cap y.nk y.ae:=λh=>by
  grind [vq]
 refine⟨λl=>?_,λl=>?_⟩
 ·have k:=z l;have W:=λp q s=>V _ k p q s
  have G:=F _ k;refine⟨ω,λk1=>E _ (u k1),λk1=>⟨λk2=>⟨λk3=>E _ (v k1 k2 k3),λk3=>⟨λk4=>⟨o,λk5=>E _ (n k1 (λh=>k3 h.2) k4 k5),λk5=>?_⟩,λk4=>?_⟩⟩,λk2=>⟨λk4=>⟨o,λk5=>E _ (n k1 (λh=>k2 h.1) k4 k5),λk5=>?_⟩,λk4=>?_⟩⟩⟩
  ·obtain⟨g,j⟩:=W k1 (λh=>k3 h.2) (λh=>by grind);exact⟨λd=>⟨λf=>⟨((g d).1 f).1,λi=>M (((g d).1 f).2.1 i),λi=>G (((g d).1 f).2.2 i)⟩,λf=>G ((g d).2 f)⟩,λd=>G (j d)⟩
  ·obtain⟨g,j⟩:=W k1 (λh=>k3 h.2) (λh=>k4 h.1);exact⟨λd=>⟨λf=>⟨((g d).1 f).1,λi=>M (((g d).1 f).2.1 i),λi=>G (((g d).1 f).2.2 i)⟩,λf=>G ((g d).2 f)⟩,λd=>G (j d)⟩
  ·obtain⟨g,j⟩:=W k1 (λh=>k2 h.1) (λh=>by grind);exact⟨λd=>⟨λf=>⟨((g d).1 f).1,λi=>M (((g d).1 f).2.1 i),λi=>G (((g d).1 f).2.2 i)⟩,λf=>G ((g d).2 f)⟩,λd=>G (j d)⟩
  ·obtain⟨g,j⟩:=W k1 (λh=>k2 h.1) (λh=>k4 h.1);exact⟨λd=>⟨λf=>⟨((g d).1 f).1,λi=>M (((g d).1 f).2.1 i),λi=>G (((g d).1 f).2.2 i)⟩,λf=>G ((g d).2 f)⟩,λd=>G (j d)⟩
 ·have k:=w l;have W:=λp q s=>V _ k p q s
  have G:=F _ k;refine⟨ω,λk1=>E _ (u k1),λk1=>⟨λk2=>⟨λk3=>E _ (v k1 k2 k3),λk3=>⟨λk4=>⟨o,λk5=>E _ (n k1 (λh=>k3 h.2) k4 k5),λk5=>?_⟩,λk4=>?_⟩⟩,λk2=>⟨λk4=>⟨o,λk5=>E _ (n k1 (λh=>k2 h.1) k4 k5),λk5=>?_⟩,λk4=>?_⟩⟩⟩
  ·obtain⟨g,j⟩:=W k1 (λh=>k3 h.2) (λh=>by grind);exact⟨λd=>⟨λf=>⟨((g d).1 f).1,λi=>M (((g d).1 f).2.1 i),λi=>G (((g d).1 f).2.2 i)⟩,λf=>G ((g d).2 f)⟩,λd=>G (j d)⟩
  ·obtain⟨g,j⟩:=W k1 (λh=>k3 h.2) (λh=>k4 h.1);exact⟨λd=>⟨λf=>⟨((g d).1 f).1,λi=>M (((g d).1 f).2.1 i),λi=>G (((g d).1 f).2.2 i)⟩,λf=>G ((g d).2 f)⟩,λd=>G (j d)⟩
  ·obtain⟨g,j⟩:=W k1 (λh=>k2 h.1) (λh=>by grind);exact⟨λd=>⟨λf=>⟨((g d).1 f).1,λi=>M (((g d).1 f).2.1 i),λi=>G (((g d).1 f).2.2 i)⟩,λf=>G ((g d).2 f)⟩,λd=>G (j d)⟩
  ·obtain⟨g,j⟩:=W k1 (λh=>k2 h.1) (λh=>k4 h.1);exact⟨λd=>⟨λf=>⟨((g d).1 f).1,λi=>M (((g d).1 f).2.1 i),λi=>G (((g d).1 f).2.2 i)⟩,λf=>G ((g d).2 f)⟩,λd=>G (j d)⟩
def Qj3:Ok U':=okZ [N8,UD] f181 (λ_=>dY ()) ⟨QqR .g,QjE⟩ Qrl
def j6 (l:List ah):List ah:=bI [] (eo [] l)
def jJ:Nat->List ah->List ah
 | 0,l=>l
 | n+1,l=>if (j6 l).length=l.length then l else jJ n (j6 l)
def CD (t:ah):ah:=im 4 (jJ (aF 4 t.ae).length (aF 4 t.ae))
def atC:bh D:=bO 180 ah (λa _=>vp a) (λy=>y.ae.length<=1000000/\dT (aF 4 y.ae)) (λy=>[.agg (D.a_ 15 y)]) λy=>.agg (D.a_ 15 (lk (CD y)))
def atI (y:ah) (x:List ah):Prop:=dT x/\∃n,x.length<=n/\jJ n x=jJ (aF 4 y.ae).length (aF 4 y.ae)
def atO (y:atC.Y):cH D:=⟨[],[],[(14,⟨List ah,[],λx=>[(2,.ptr 0 0),(3,.list 15 x)],[],λ_=>[(0,.cells (D.a_ 15 bF) 209 false)],1,atI y,λx=>x.length⟩)],[],1,[]⟩
def Qfd (y:ah):Prop:=let a:=lk (CD y);let d:=λp:Prop=>RAD (RAC (RAB p));let e:=λp:Prop=>RAB (RAG p);Iv (y.ae.length<=1000000/\(aF 4 y.ae).length<=1000000)/\RAI (4:Int) y.ae ((∃z:List ah,aF 4 y.ae=z/\d (false=false/\e ((Iv (atI y z)))))/\(∀x:List ah,let c:=eo [] x;let b:=lk (im 4 x);let f:=aB (ag (bI [] c)) (ag x);(Iv (atI y x))->Iv (dT x)/\aa [x] (Iv (c.length<=1000000/\tP c)/\aa [c] (aj f (Iv (x.length<=1000000)/\aa ([4]:List Int) (aa [x] (b.op=a.op/\b.r=a.r/\b.mn=a.mn/\b.mx=a.mx/\b.lz=a.lz/\b.cap=a.cap/\b.nk=a.nk/\b.ae=a.ae/\True))) (∃z:List ah,bI [] c=z/\d (false=false/\e ((Iv (atI y z/\z.length<x.length)))))))))
def NL (n:Nat) (l:List Nd):Prop:=l.length<=n/\∀x∈l,iO x
def NL.app {b:Nat} {l m:List Nd} (h:NL a l) (c:NL b m):NL (a+b) (l++m):=
 ⟨by rw[Zab];have:=h.1;have:=c.1;omega,λx d=>(List.mem_append.mp d).elim (h.2 x) (c.2 x)⟩
theorem eH (t:ah) (l:List ah):aA (t::l)=aD t++aA l:=by rfl
def IE (r:List Rg):NL 1 (aD (pC (r))):=by
 rw[bT];refine⟨by simp[pC,ah.ae,aA],λx a=>?_⟩;have a:x=⟨2,aU r,0,0,false,0,0⟩:=by simpa [pC,ah.ae,aA,ah.op,ah.r,ah.mn,ah.mx,ah.lz,ah.cap] using a
 rw[a];exact lb r
theorem Vb (ht:NL 1 (aD k)):∀(l:List ah) (i n:Nat),NL n (aA l)->NL n (aA (l.set i k))
 | [],_,_,h=>h
 | a::l,0,n,h=>by
  rw[Zdb,eH];rw[eH] at h;have h1:=h.1;rw[Zab] at h1;have d:1<=(aD a).length:=by rw[bT];simp
  have:=ht.1;exact⟨by grind,λx b=>(List.mem_append.mp b).elim (ht.2 x) λb=>h.2 x (ZaC _ b)⟩
 | a::l,i+1,n,h=>by
  rw[Zdd,eH];rw[eH] at h;have h1:=h.1;rw[Zab] at h1;have:=Vb ht l i (aA l).length ⟨Zah _,λx b=>h.2 x (ZaC _ b)⟩;have c:=this.1;exact⟨by grind,λx b=>(List.mem_append.mp b).elim (λb=>h.2 x (Zay _ b)) (this.2 x)⟩
theorem yC (o:List ah) (k:ah):aA (o++[k])=aA o++aD k:=by grind [cG,aA]
def Vc {b:Nat} (h:NL a (aA l)) (hk:NL b (aD k)):NL (a+b) (aA (dL l k)):=by
 unfold dL;split
 ·have:=Vb (IE ((ox l).r++k.r)) l (l.length-1) a h;exact⟨by have:=this.1;omega,this.2⟩
 ·rw[yC];exact h.app hk
def nW (h:NL a (aA (k::l))):NL (aD k).length (aD k)/\NL (aA l).length (aA l)/\(aD k).length+(aA l).length<=a:=by
 rw[eH] at h;have h1:=h.1;rw[Zab] at h1;exact⟨⟨Zah _,λx n=>h.2 x (Zay _ n)⟩,⟨Zah _,λx n=>h.2 x (ZaC _ n)⟩,h1⟩
theorem tQ:∀(l o:List ah) (a b:Nat),NL a (aA o)->NL b (aA l)->NL (a+b) (aA (bI o l))/\(bI o l).length<=o.length+l.length
 | [],o,a,b,h,_=>⟨⟨by have:=h.1;unfold bI;omega,h.2⟩,Zah _⟩
 | k::l,o,a,b,h,h2=>by
  obtain⟨p1,p2,p3⟩:=nW h2;obtain⟨c,d⟩:=tQ l _ _ _ (Vc h p1) p2;have:=jk o k;have:=c.1;rw[bI];exact⟨⟨ω,c.2⟩,by grind⟩
theorem qm:∀(l o:List ah) (a b:Nat),NL a (aA o)->NL b (aA l)->NL (a+b) (aA (eo o l))/\(eo o l).length<=o.length+l.length
 | [],o,a,b,h,_=>⟨⟨by have:=h.1;unfold eo;omega,h.2⟩,Zah _⟩
 | k::l,o,a,b,h,h2=>by
  obtain⟨p1,p2,p3⟩:=nW h2;rw[eo];split
  ·obtain⟨c,d⟩:=qm l o _ _ h p2;have:=c.1;exact⟨⟨ω,c.2⟩,by grind⟩
  ·obtain⟨c,d⟩:=qm l (o++[k]) _ _ (by rw[yC];exact h.app p1) p2;have:=c.1;simp only[Zab,Zae,Zak] at d;exact⟨⟨ω,c.2⟩,by grind⟩
theorem CE:NL 0 (aA []):=⟨by simp[aA],λx a=>by grind [aA]⟩
theorem τ (h:dT l):dT (eo [] l)/\(eo [] l).length<=l.length:=by
 obtain⟨a,b⟩:=qm l [] 0 1000000 CE h;exact⟨⟨by have:=a.1;omega,a.2⟩,by grind⟩
theorem Ll (h:dT l):dT (bI [] l)/\(bI [] l).length<=l.length:=by
 obtain⟨a,b⟩:=tQ l [] 0 1000000 CE h;exact⟨⟨by have:=a.1;omega,a.2⟩,by grind⟩
theorem dT.rt (h:dT l):tP l:=λt ht=>by
 obtain⟨i,hi,rfl⟩:=Za3 ht;have:=h.get hi;rw[eL hi] at this;have a:=this.2 ⟨l[i].op,l[i].r,l[i].mn,l[i].mx,l[i].lz,l[i].cap,l[i].ae.length⟩ (by grind [bT]);exact a
theorem atH (y:ah) (d:atC.pre y):Qfd y:=by
 obtain⟨h1,b⟩:y.ae.length<=1000000/\dT (aF 4 y.ae):=d;unfold Qfd;simp only[bC,oo,oq,au,aC];refine⟨⟨h1,b.len⟩,⟨_,rfl,b,_,Zah _,rfl⟩,λx c=>?_⟩;obtain⟨i1,n,i2,i3⟩:=c;obtain⟨a,h⟩:=τ i1;obtain⟨f,g⟩:=Ll a;refine⟨i1,⟨a.len,a.rt⟩,λe=>⟨i1.len,?_⟩,λe=>⟨_,rfl,?_,ω⟩⟩
 ·have e:(j6 x).length=x.length:=by grind [j6]
  have:CD y=im 4 x:=by
   unfold CD;rw[<-i3];cases n with
   | zero=>rfl
   | succ n=>rw[jJ,Zac e]
  grind
 ·have e:¬(j6 x).length=x.length:=by grind [j6]
  cases n with
  | zero=>exact absurd (show(j6 x).length=x.length by omega) e
  | succ n=>
   rw[jJ,Zaa e] at i3;exact⟨f,n,ω,i3⟩
def Qrm (a:Ok dB):Ok atC:=okZ [N6,Of,Og,N5] f180 atO ⟨QjF,Qj1,Qj2 a,Qcv⟩ atH
def yD (t:ah):ah:=if t.op=3 then EV t else if t.op=4 then CD t else if t.op=5 then cV t else t
mutual
def j7:ah->ah
 | .mk op r mn mx lz cap nk ks=>yD (.mk op r mn mx lz cap nk (dC ks))
def dC:List ah->List ah
 | []=>[]
 | t::l=>j7 t::dC l
end
mutual
def sL:ah->Prop
 | .mk op _ mn _ _ _ _ ks=>(op=5->1<=ks.length/\0<=mn)/\pD ks
def pD:List ah->Prop
 | []=>True
 | t::l=>sL t/\pD l
end
variable {l:List ah} {k:ah}
def Oh (t:ah):ah:=lk (j7 t)
def E1 (t:ah) (n:Nat):List ah:=lk ((dC t.ae).take n)
def IF:bh D:=bO 122 ah (λa _=>vp a) (λy=>dO y/\sL y) (λy=>[.agg (D.a_ 15 y)]) λy=>.agg (D.a_ 15 (Oh y))
def Qrn (y:IF.Y):cH D:=⟨[],[],[(58,⟨Nat,[11,12],λx=>[(1,.ptr 0 0),(2,.ptr 1 0),(3,.grow 15 (E1 y x) 2),(13,Qvo x)],[],λ_=>[(0,.cells (D.a_ 15 y) 209 false),(1,.cells (D.a_ 15 bF) 209 false),(2,.tok 15 209)],3,λx=>x<=y.ae.length,λx=>y.ae.length-x⟩)],[],1,[]⟩
def Qro (y:IF.Y):Prop:=vc [IF.under dm (dm y),ctC,atC,U'] f122 IF Qrn y
def Vd (y:ah):Prop:=let a:=Oh y;let q1:=y.ae;let j:=ag q1;let n:=λp:Prop=>RAD (RAC (RAB p));let o:=λp:Prop=>RAB (RAG (RA1 y (RAH q1 p)));Tt 1 (aG 0 j/\bJ j 96/\(∃z:Nat,RAI q1 j ([]=E1 y z/\0=(z:Int)/\n (false=false/\o ((Iv (z<=q1.length))))))/\(∀x:Nat,let g:=E1 y x;let l:=q1.length;let e:=gt (ah.mk 0 [] 0 0 false 0 0 []) q1 (x:Int).toNat;let m:=ah.mk y.op y.r y.mn y.mx y.lz y.cap y.nk g;let h:=lk (EV m);let b:=lk (CD m);let c:=lk (cV m);let f:=ah.mk e.op e.r e.mn e.mx e.lz e.cap e.nk e.ae;let d:=Oh f;let k:=bM g [ah.mk d.op d.r d.mn d.mx d.lz d.cap d.nk d.ae];let i:=λp:Prop=>RA1 y (RAH g p);(Iv (x<=l))->aj (aw (x:Int) j) (aG 0 (x:Int)/\aw (x:Int) j/\Iv ((dO f/\sL f)/\dm f<dm y)/\RA1 e (RAH e.ae (bJ (ag k) 96/\∃z:Nat,aa [q1] (aa [j] (k=E1 y z/\ay .i64 (x:Int) 1=(z:Int)/\n (false=false/\o ((Iv (z<=l/\(l-z)<(l-x)))))))))) (aj (aB y.op 3) (Iv (g.length<=1000000/\(aF 3 g).length<=1000000)/\i (h.op=a.op/\h.r=a.r/\h.mn=a.mn/\h.mx=a.mx/\h.lz=a.lz/\h.cap=a.cap/\h.nk=a.nk/\h.ae=a.ae/\True)) (aj (aB y.op 4) (Iv (g.length<=1000000/\dT (aF 4 g))/\i (b.op=a.op/\b.r=a.r/\b.mn=a.mn/\b.mx=a.mx/\b.lz=a.lz/\b.cap=a.cap/\b.nk=a.nk/\b.ae=a.ae/\True)) (aj (aB y.op 5) (Iv (π m)/\i (c.op=a.op/\c.r=a.r/\c.mn=a.mn/\c.mx=a.mx/\c.lz=a.lz/\c.cap=a.cap/\c.nk=a.nk/\c.ae=a.ae/\True)) (y.op=a.op/\y.r=a.r/\y.mn=a.mn/\y.mx=a.mx/\y.lz=a.lz/\y.cap=a.cap/\y.nk=a.nk/\g=a.ae/\True))))))
def υ:∀y,Vd y=Qro y:=λy=>by kernel_rfl
theorem jx (t:ah):sL t↔(t.op=5->1<=t.ae.length/\0<=t.mn)/\pD t.ae:=by cases t;rw[sL];exact ZbW
theorem kh (l:List ah):pD l↔∀t∈l,sL t:=by
 induction l with
 | nil=>simp[pD]
 | cons a l b=>rw[pD,b];simp
theorem qo (l:List ah):(dC l).length=l.length:=by
 induction l with
 | nil=>simp[dC]
 | cons a l b=>simp[dC,b]
theorem Oi (l:List ah):dC l=l.map j7:=by
 induction l with
 | nil=>simp[dC]
 | cons a l b=>simp[dC,b]
def χ (t:ah):j7 t=yD (.mk t.op t.r t.mn t.mx t.lz t.cap t.nk (dC t.ae)):=by cases t;rw[j7];rfl
theorem E3 {op:Int} (h:op≠5) (hl:pD l):sL (im op l):=by
 match l,hl with
 | [],_=>rw[im,sL];exact⟨λh=>ω,by assumption⟩
 | [k],hl=>exact(kh _).mp hl k (by simp)
 | a::b::l,hl=>
  grind [im,sL]
theorem Bc {op:Int} (hl:pD l):pD (aF op l):=by
 grind [kh,aF,jx]
def ψ (hl:pD l):pD (hV l):=by
 rw[kh] at*
 exact λt ht=>hl t (List.mem_filter.mp ht).1
theorem CF:∀(l o:List ah),pD o->pD l->pD (eo o l)
 | [],o,h,_=>by assumption
 | k::l,o,h,h2=>by
  rw[eo];rw[pD] at h2;split
  ·exact CF l o h h2.2
  ·refine CF l _ ?_ h2.2;grind [kh]
theorem Ve (r:List Rg):sL (pC r):=by grind [pC,sL,pD]
theorem Vf (h:pD l) (hk:sL k):pD (dL l k):=by
 grind [kh,dL,Ve]
theorem Bd:∀(l o:List ah),pD o->pD l->pD (bI o l)
 | [],o,h,_=>by assumption
 | k::l,o,h,h2=>by
  rw[bI];rw[pD] at h2;exact Bd l _ (Vf h h2.1) h2.2
theorem E4:∀(n:Nat) (l:List ah),pD l->pD (jJ n l)
 | 0,l,h=>h
 | n+1,l,h=>by
  rw[jJ];split
  ·exact h
  ·exact E4 n _ (Bd _ _ (by grind [pD]) (CF _ _ (by grind [pD]) h))
def NL.to {a b:Nat} {l:List Nd} (h:NL a l) (c:a<=b):NL b l:=⟨Zav h.1 c,h.2⟩
theorem nc (op:Int):∀(l:List ah) (n:Nat),NL n (aA l)->NL n (aA (aF op l))
 | [],n,h=>h
 | k::l,n,h=>by
  obtain⟨p1,p2,p3⟩:=nW h;have e:aF op (k::l)=(if k.op=op then k.ae else[k])++aF op l:=rfl;have r:=nc op l _ p2;rw[e,cG];split
  ·rw[bT] at p1 p3;simp only[Zae] at p3;have q:NL (aA k.ae).length (aA k.ae):=⟨Zah _,λx a=>p1.2 x (ZaU _ a)⟩;exact(q.app r).to ω
  ·rw[show aA [k]=aD k by grind [aA]];exact(p1.app r).to ω
theorem Lm:∀(l:List ah) (n:Nat),NL n (aA l)->NL n (aA (hV l))
 | [],n,h=>h
 | k::l,n,h=>by
  obtain⟨p1,p2,p3⟩:=nW h;have r:=Lm l _ p2;unfold hV at r ⊢;rw[List.filter_cons];split
  ·rw[eH];exact(p1.app r).to ω
  ·exact r.to ω
theorem Ln (op:Int):NL 1 (aD (.mk op [] 0 0 false 0 0 [])):=by
 rw[aD];refine⟨by simp[aA],λx a=>?_⟩;have a:x=⟨op,[],0,0,false,0,0⟩:=by grind [aA]
 rw[a];exact Zaj _
theorem E5 (op:Int) {n:Nat} (h:NL n (aA l)):NL (n+1) (aD (im op l)):=by
 match l,h with
 | [],_=>exact(Ln 1).to ω
 | [k],h=>
  rw[show aA [k]=aD k by grind [aA]] at h;exact h.to ω
 | a::b::l,h=>
  rw[show im op (a::b::l)=.mk op [] 0 0 false 0 0 (a::b::l) from rfl,aD];refine⟨by have:=h.1;simp only[Zae];omega,λx c=>?_⟩;rcases List.mem_cons.mp c with c | c
  ·rw[c];exact Zaj _
  ·exact h.2 x c
theorem E6:∀(n:Nat) (l:List ah) (m:Nat),NL m (aA l)->NL m (aA (jJ n l))
 | 0,l,m,h=>h
 | n+1,l,m,h=>by
  rw[jJ];split
  ·exact h
  ·have h1:=(qm l [] 0 m CE h).1;have a:=(tQ _ [] 0 _ CE h1).1;exact E6 n _ m (a.to ω)
def Qcy (l:List ah):Prop:=∀x∈aA l,iO x
theorem Qff (h:0<l.length) (hl:Qcy l) {a:Nd}:NL (a::aA l).length (aD (l.getD 0 bF)):=by
 cases l with
 | nil=>cases h
 | cons k l=>
  have e:(k::l).getD 0 bF=k:=rfl;rw[e,eH];refine⟨by grind,λx b=>hl x (by grind [eH])⟩
def Kept (t u:ah):Prop:=sL u/\NL (aD t).length (aD u)
def Γ (h:sL k) (b:NL (aD k).length (aD k)):Kept k (vq k):=by
 unfold vq;refine⟨?_,?_⟩
 ·rw[jx] at*;exact h
 ·rw[bT] at b;rw[bT k];rw[aD];refine⟨Zah _,λx a=>?_⟩;rcases List.mem_cons.mp a with a | a
  ·rw[a];exact b.2 ⟨k.op,k.r,k.mn,k.mx,k.lz,k.cap,k.ae.length⟩ Za8
  ·exact b.2 x (ZaU _ a)
theorem Vg (hk:1<=k.ae.length) (h:sL k) (a:NL (aD k).length (aD k)):Kept k (bG k):=by
 have c:=(kh _).mp ((jx k).mp h).2;unfold bG;refine⟨by grind,?_⟩;rw[bT] at a ⊢;have hl:Qcy k.ae:=λx b=>a.2 x (ZaU _ b)
 exact Qff hk hl
theorem sM (t:ah):1<=(aD t).length:=by rw[bT];simp
theorem Vh (hk:1<=k.ae.length) (h0:0<=k.mn) (h:sL k) (b:NL (aD k).length (aD k)):Kept k (cV k):=by
 have K:=Vg hk h b;unfold cV;split
 ·exact K
 ·split
  ·exact K
  ·split
   ·exact⟨by grind [sL,pD],(Ln 1).to (sM k)⟩
   ·split
    ·obtain⟨k1,k2⟩:=K;generalize bG k=t at*
     rw[jx] at k1;refine⟨?_,?_⟩
     ·grind [EY,sL,Int.mul_nonneg]
     ·rw[bT t] at k2;unfold EY;rw[aD];refine⟨by have:=k2.1;simpa using this,λx a=>?_⟩;rcases List.mem_cons.mp a with a | a
      ·rw[a];exact k2.2 ⟨t.op,t.r,t.mn,t.mx,t.lz,t.cap,t.ae.length⟩ Za8
      ·exact k2.2 x (ZaU _ a)
    ·exact Γ h b
theorem Oj {t:ah} (h:sL t) (a:NL (aD t).length (aD t)):Kept t (yD t):=by
 have hi:=(jx t).mp h;have hl:NL (aA t.ae).length (aA t.ae):=by
  rw[bT] at a;exact⟨Zah _,λx b=>a.2 x (ZaU _ b)⟩
 have e:(aD t).length=(aA t.ae).length+1:=by rw[bT];simp
 unfold yD;split
 ·refine⟨E3 ω (ψ (Bc hi.2)),?_⟩;grind [EV,E5,Lm,nc]
 ·split
  ·refine⟨E3 ω (E4 _ _ (Bc hi.2)),?_⟩;grind [CD,E5,E6,nc]
  ·split
   ·grind [Vh]
   ·exact⟨h,a⟩
mutual
theorem qp:∀t:ah,sL t->NL (aD t).length (aD t)->Kept t (j7 t)
 | .mk op r mn mx lz cap nk ks,h,hn=>by
  rw[sL] at h
  rw[aD] at hn
  obtain⟨r1,r2⟩:=nX ks h.2 ⟨Zah _,λx hx=>hn.2 x (ZaU _ hx)⟩
  have hN:NL (aD (.mk op r mn mx lz cap nk ks)).length (aD (.mk op r mn mx lz cap nk (dC ks))):=by
   rw[aD,aD]
   refine⟨by have:=r2.1;simp only[Zae];omega,λx hx=>?_⟩
   rcases List.mem_cons.mp hx with hx | hx
   ·rw[hx];exact hn.2 ⟨op,r,mn,mx,lz,cap,ks.length⟩ Za8
   ·exact r2.2 x hx
  have B:=Oj (t:=.mk op r mn mx lz cap nk (dC ks)) (by rw[sL,qo];exact⟨h.1,r1⟩) ⟨Zah _,hN.2⟩
  rw[j7]
  exact⟨B.1,B.2.to hN.1⟩
theorem nX:∀l:List ah,pD l->NL (aA l).length (aA l)->pD (dC l)/\NL (aA l).length (aA (dC l))
 | [],_,h=>⟨by rw[dC,pD];trivial,by rw[dC];exact h⟩
 | t::l,h,hn=>by
  rw[pD] at h
  obtain⟨p1,p2,p3⟩:=nW hn
  have a:=qp t h.1 p1
  have b:=nX l h.2 p2
  rw[dC,pD,eH (j7 t)]
  exact⟨⟨a.1,b.1⟩,(a.2.app b.2).to p3⟩
end
theorem Qrp (y:ah) (u:IF.pre y):Vd y:=by
 obtain⟨h1,n⟩:dO y/\sL y:=u;have hi:=(jx y).mp n;have hk:=h1.ae;have hl:=hk.len;have t:=qo y.ae;obtain⟨z,h⟩:=nX y.ae hi.2 ⟨Zah _,hk.2⟩;unfold Vd;simp only[bL,bC,au,aT,br,dq,bR,Zad,Oh,E1,aC];refine⟨ω,ω,⟨0,rfl,rfl,Zaj _⟩,λx k=>⟨λe=>?_,λe=>?_⟩⟩
 ·have c:x<y.ae.length:=ω;have q:y.ae.getD x (ah.mk 0 [] 0 0 false 0 0 [])=y.ae.getD x bF:=rfl;rw[q];have ht:(dC y.ae).take (x+1)=(dC y.ae).take x++[j7 (y.ae.getD x bF)]:=by
   rw[cq bF ω,eL (show x<(dC y.ae).length by omega),eL c];grind [Oi]
  have f:sL (y.ae.getD x bF):=by grind [kh]
  exact⟨ω,e,⟨⟨hk.get c,f⟩,iP c⟩,by grind,x+1,ht.symm,bK ω,ω,ω⟩
 ·have k:(dC y.ae).take x=dC y.ae:=ZaA ω;rw[k,χ y];generalize s:dC y.ae=a at*
  have w:∀op,(aF op a).length<=1000000/\dT (aF op a):=λop=>by
   have:=nc op a _ h;have j:dT (aF op a):=⟨Zav this.1 hk.1,this.2⟩;exact⟨j.len,j⟩
  refine⟨λo=>?_,λg=>⟨λo=>?_,λl=>⟨λo=>?_,λv=>?_⟩⟩⟩
  ·rw[show yD (.mk y.op y.r y.mn y.mx y.lz y.cap y.nk a)=EV (.mk y.op y.r y.mn y.mx y.lz y.cap y.nk a) from Zac o];grind
  ·rw[show yD (.mk y.op y.r y.mn y.mx y.lz y.cap y.nk a)=CD (.mk y.op y.r y.mn y.mx y.lz y.cap y.nk a) from(Zaa g).trans (Zac o)];grind
  ·rw[show yD (.mk y.op y.r y.mn y.mx y.lz y.cap y.nk a)=cV (.mk y.op y.r y.mn y.mx y.lz y.cap y.nk a) from((Zaa g).trans (Zaa l)).trans (Zac o)];obtain⟨b1,m⟩:=hi.1 o;have d:0<a.length:=ω;have p:dT a:=⟨Zav h.1 hk.1,h.2⟩;have b:sL (a.getD 0 bF):=by grind [kh]
   exact⟨⟨show 1<=a.length by omega,p.get d,m,λi=>⟨(((jx _).mp b).1 i).2,(((jx _).mp b).1 i).1⟩⟩,rfl,rfl,rfl,rfl,rfl,rfl,rfl,rfl⟩
  ·rw[show yD (.mk y.op y.r y.mn y.mx y.lz y.cap y.nk a)=(.mk y.op y.r y.mn y.mx y.lz y.cap y.nk a) from((Zaa g).trans (Zaa l)).trans (Zaa v)];exact⟨rfl,rfl,rfl,rfl,rfl,rfl,rfl,rfl⟩
def Qj4 (a:Ok dB):Ok IF:=RC dm υ ⟨Qrc,Qrm a,Qj3⟩ Qrp
def cP (y:List Nd):List Nd:=if dS y=true then aD (j7 (cu y).1) else[]
def oy (y:List Nd):Prop:=∀x∈y,iO x
def E7:bh D:=bO 77 (List Nd) ZE oy (λy=>[.list 7 y]) λy=>.list 7 (lk (cP y))
def Vi (y:List Nd):Prop:=let a:=(cu y).1;let q1:=ah.mk a.op a.r a.mn a.mx a.lz a.cap a.nk a.ae;let b:=Oh q1;let c:=ah.mk b.op b.r b.mn b.mx b.lz b.cap b.nk b.ae;Iv (cE y)/\RAH y (aj (!(dS y)) ([]=lk (cP y)/\True) (Iv (y.length<=1000000/\Option.isSome (fN y.length y))/\aa [y] (Iv (dO q1/\sL q1)/\aa [a.op] (aa [a.r] (aa [a.mn,a.mx] (aa [a.lz] (aa [a.cap,a.nk] (aa [a.ae] (Iv (dO c)/\aa [b.op] (aa [b.r] (aa [b.mn,b.mx] (aa [b.lz] (aa [b.cap,b.nk] (aa [b.ae] (dg c=lk (cP y)/\True)))))))))))))))
def Ol (x:Nd):Prop:=∃g:Nat,(ck x g).2
mutual
def ku:ah->Prop
 | .mk op r mn mx lz cap nk ks=>Ol ⟨op,r,mn,mx,lz,cap,ks.length⟩/\nk=ks.length/\nf ks
def nf:List ah->Prop
 | []=>True
 | t::l=>ku t/\nf l
end
def iQ (t:ah):ku t↔Ol ⟨t.op,t.r,t.mn,t.mx,t.lz,t.cap,t.ae.length⟩/\t.nk=t.ae.length/\nf t.ae:=by cases t;rw[ku];exact ZbW
theorem qq (l:List ah):nf l↔∀t∈l,ku t:=by
 induction l with
 | nil=>simp[nf]
 | cons a l b=>rw[nf,b];simp
mutual
theorem tR:∀(t:ah) (m:Nat) (rest:List Nd),ku t->(aD t++rest).length<=m->fN m (aD t++rest)=some (t,rest)
 | .mk op r mn mx lz cap nk ks,m,rest,h,hm=>by
  rw[ku] at h
  rw[aD] at hm ⊢
  simp only[Za1,Zae] at hm ⊢
  obtain⟨k,rfl⟩:∃k,m=k+1:=⟨m-1,ω⟩
  rw[fN]
  simp only[Zad]
  rw[yE ks k rest h.2.2 ω,h.2.1]
theorem yE:∀(l:List ah) (m:Nat) (rest:List Nd),nf l->(aA l++rest).length<=m->jI (fN m) l.length (aA l++rest)=some (l,rest)
 | [],m,rest,_,_=>by simp[jI,aA]
 | t::l,m,rest,h,hm=>by
  rw[nf] at h
  rw[aA,ZaD] at hm ⊢
  rw[Zae,jI,tR t m _ h.1 hm]
  simp only
  rw[yE l m rest h.2 (by simp only[Zab] at hm ⊢;omega)]
end
variable {L:List Nd}
theorem E9 {x:Nd} {g:Int} (h:(ck x g).2):(ck x g).1=x.ae/\0<=x.ae:=by
 revert h
 grind [ck]
def Gr (L:List Nd) (f:Nat->Nat->Bool×Nat×Nat):Prop:=∀a g b c,f a g=(true,b,c)->∃t,ku t/\L.drop a=aD t++L.drop b
theorem Be {f:Nat->Nat->Bool×Nat×Nat} (e:Gr L f):∀(k a g b d:Nat),fF f k a g=(true,b,d)->∃c,nf c/\c.length=k/\L.drop a=aA c++L.drop b
 | 0,a,g,b,d,h=>by cases h;exact⟨[],by grind [nf],rfl,by rfl⟩
 | k+1,a,g,b,d,h=>by
  rw[fF] at h;split at h
  ·grind
  ·rename_i h1
   obtain⟨t,i,j⟩:=e a g (f a g).2.1 (f a g).2.2 (by
    have:(f a g).1:=by grind
    rw[<-this])
   obtain⟨c,l,m,n⟩:=Be e k _ _ _ _ h;exact⟨t::c,by grind [nf],by grind,by grind [aA]⟩
theorem E' (L:List Nd):∀n,Gr L (fG L n)
 | 0=>λa g b j h=>by cases h
 | n+1=>λa g b j h=>by
  rw[fG] at h;split at h
  ·cases h
  ·rename_i hl
   have e:L.drop a=L.getD a (nd 0)::L.drop (a+1):=by simp_all
   generalize L.getD a (nd 0)=x at h e;split at h
   ·cases h
   ·rename_i hs
    have c:(ck x g).2:=by grind
    obtain⟨i,e2⟩:=E9 c;obtain⟨f,h1,k,l⟩:=Be (E' L n) _ _ _ _ _ h;rw[i] at k;have d:(f.length:Int)=x.ae:=ω;refine⟨.mk x.op x.r x.mn x.mx x.lz x.cap x.ae f,by rw[ku,d];exact⟨⟨g,c⟩,rfl,h1⟩,?_⟩;rw[e,l,aD,d];rfl
theorem jl (h:dS L):∃t,ku t/\L=aD t/\L.length<=480:=by
 unfold dS at h;simp only[ZaW,ZaP,Zb7] at h;obtain⟨⟨⟨h1,a⟩,b⟩,c⟩:=h;obtain⟨t,d,e⟩:=E' L 241 0 0 (fG L 241 0 0).2.1 (fG L 241 0 0).2.2 (by grind);grind
theorem yF {t:ah} (h:ku t):fN (aD t).length (aD t)=some (t,[]):=by
 have:=tR t (aD t).length [] h (by simp);grind
theorem pE {t:ah} (h:ku t):cu (aD t)=(t,[]):=by
 grind [cu,aC,yF]
theorem Ol.rep {x:Nd} (h:Ol x) (a:x.op=5):x.ae=1/\0<=x.mn/\x.mn<=30/\(x.mx= -1\/(x.mn<=x.mx/\x.mx<=30)):=by
 obtain⟨g,h⟩:=h;grind [ck]
mutual
theorem E_:∀t:ah,ku t->sL t
 | .mk op r mn mx lz cap nk ks,h=>by
  rw[ku] at h
  rw[sL]
  refine⟨λh5=>?_,Vj ks h.2.2⟩
  obtain⟨h1,h2,_⟩:=h.1.rep h5
  have h1:(ks.length:Int)=1:=h1
  exact⟨ω,h2⟩
theorem Vj:∀l:List ah,nf l->pD l
 | [],_=>by rw[pD];trivial
 | t::l,h=>by rw[nf] at h;rw[pD];exact⟨E_ t h.1,Vj l h.2⟩
end
theorem Qrr (y:List Nd) (j:E7.pre y):Vi y:=by
 have a:cE y:=j;unfold Vi;simp only[bC,bR,Oh,dg,aC,Zan,Zao];refine⟨a,λh=>?_,λh=>?_⟩
 ·grind [cP]
 ·obtain⟨t,h1,f,g⟩:=jl h;have d:=E_ t h1;have e:cu y=(t,[]):=by grind [pE]
  have hs:cP y=aD (j7 t):=by
   grind [cP]
  have b:NL (aD t).length (aD t):=by rw[<-f];exact⟨Zah _,a⟩
  have i:(aD t).length<=480:=by grind
  obtain⟨_,k2⟩:=qp t d b;rw[e,hs];have k1:(aD (j7 t)).length<=(aD t).length:=k2.1;have c:(aD t).length<=1000000:=Zav i (by decide);refine⟨⟨Zav g (by decide),?_⟩,⟨⟨c,b.2⟩,d⟩,⟨Zav k1 c,k2.2⟩,rfl⟩;grind [yF]
def Qcz (a:Ok dB):Ok E7:=okZ [Ie,IB,IF,IC] f77 (λ_=>dY ()) ⟨Qck a,QjG,Qj4 a,QjH⟩ Qrr
def pF (op mn mx:Int) (k s:Nat):Nat:=
 if op=2\/op=7\/op=8 then 1 else if op=4 then s+2*(k-1) else if op=6 then s+2
 else if op=5 then(if mx= -1 then mn.toNat*s+s+2 else mn.toNat*s+(mx.toNat-mn.toNat)*(s+1)) else s
mutual
def bt:ah->Nat
 | .mk op _ mn mx _ _ _ ks=>pF op mn mx ks.length (aQ ks)
def aQ:List ah->Nat
 | []=>0
 | t::l=>bt t+aQ l
end
def eP (n:Nat):Int:=min (n:Int) 401
mutual
def jK:ah->List Int
 | .mk op _ mn mx _ _ _ ks=>eP (pF op mn mx ks.length (aQ ks))::fW ks
def fW:List ah->List Int
 | []=>[]
 | t::l=>jK t++fW l
end
mutual
def qE:ah->Nat->List Int
 | .mk _ _ _ _ _ _ _ ks,a=>((a+1+(aA ks).length:Nat):Int)::lf ks (a+1)
def lf:List ah->Nat->List Int
 | [],_=>[]
 | t::l,a=>qE t a++lf l (a+(aD t).length)
end
def kx (o:List Int) (a:Nat) (s:List Int):List Int:=o.take a++s++o.drop (a+s.length)
structure nw where
 l:List Nd
 o:List Int
 a:Int
def nw.t (y:nw):ah:=lk (cu (y.l.drop y.a.toNat)).1
def nw.n (y:nw):Nat:=lk (aD y.t).length
def Qj5 (args:List (AV D.E)) (s:St D.E):C nw:=match args with
 | [l,o,a]=>az (aL D s 7 l) λl=>az (aL D s 5 o) λo=>aP (cT a) λ_ a=>.ret ⟨l,o,a⟩
 | _=>.fail
def Om (y:nw):Prop:=0<=y.a/\y.o.length=y.l.length/\y.l.length<=480/\∃t r,ku t/\y.l.drop y.a.toNat=aD t++r
abbrev Bf (l:List Int):List (Nat×AO D.E):=[(0,.arr 5 l 3 false)]
variable {a:Nat} {o s:List Int}
def F7 (y:nw):List Int:=lk (kx y.o y.a.toNat (jK y.t))
def szC:bh D:=⟨117,nw,Qj5,Om,λy=>[.list 7 y.l,.own 0 1 (ag y.o),Qvo y.a],λy=>Bf y.o,λy=>Qvo (y.a+y.n),λy=>Bf (F7 y),1,1⟩
def Θ (y:nw) (k:Nat):List Int:=lk (kx y.o (y.a.toNat+1) (fW (y.t.ae.take k)))
def Pj (y:nw) (k:Nat):Int:=lk (y.a+1+(aA (y.t.ae.take k)).length)
def szM (y:nw) (k:Nat):Int:=lk (eP (aQ (y.t.ae.take k)))
def szO (y:szC.Y):cH D:=⟨[],[],[(250,⟨Nat,[0,2,18],λx=>[(1,.own 0 1 (ag (Θ y x))),(7,.ptr 1 0),(8,Qvo (Pj y x)),(9,Qvo (szM y x)),(19,Qvo x)],[1],λx=>Bf (Θ y x),2,λx=>x<=y.t.ae.length,λx=>y.t.ae.length-x⟩)],[],1,[]⟩
def szV (y:szC.Y):Prop:=vc [szC.under (λy=>dm y.t) (dm y.t)] f117 szC szO y
def IG (y:nw):List Int:=lk (kx y.o y.a.toNat (qE y.t y.a.toNat))
def enC:bh D:=⟨118,nw,Qj5,Om,λy=>[.list 7 y.l,.own 0 1 (ag y.o),Qvo y.a],λy=>Bf y.o,λy=>Qvo (y.a+y.n),λy=>Bf (IG y),1,1⟩
def Λ (y:nw) (k:Nat):List Int:=lk (kx y.o (y.a.toNat+1) (lf (y.t.ae.take k) (y.a.toNat+1)))
def enO (y:enC.Y):cH D:=⟨[],[],[(58,⟨Nat,[0,2,14],λx=>[(1,.own 0 1 (ag (Λ y x))),(7,Qvo (Pj y x)),(15,Qvo x)],[],λx=>Bf (Λ y x),1,λx=>x<=y.t.ae.length,λx=>y.t.ae.length-x⟩)],[],1,[]⟩
def enV (y:enC.Y):Prop:=vc [enC.under (λy=>dm y.t) (dm y.t)] f118 enC enO y
def Qfi (y:nw):Prop:=let j:=F7 y;let q1:=y.a.toNat;let g:=lk (cu (List.drop q1 y.l)).1;let b:=gt (Nd.mk 0 [] 0 0 false 0 0) y.l q1;let q:=g.ae.length;let u:=gG .i64 2 (cx .i64 b.ae 1);let v:=cx .i64 b.mx b.mn;let t:=λp:Prop=>RA7 b p;let A:=y.a+((lk (aD g).length:Nat):Int);aG 0 y.a/\aw y.a (ag y.l)/\(∃z:Nat,RAJ y.l y.a b.ae (ag y.o=ag (Θ y z)/\ay .i64 y.a 1=Pj y z/\0=szM y z/\0=(z:Int)/\t (y.o=Θ y z/\(Iv (z<=q)))))/\(∀x:Nat,let f:=Θ y x;let e:=Pj y x;let d:=szM y x;let c:=ag f;let k:=F7 (nw.mk y.l f e);let m:=lk (cu (List.drop e.toNat y.l)).1;let n:=gG .i64 b.mn d;let s:=aw (x:Int) b.ae;let h:Prop:=(aG 0 y.a/\aw y.a c/\e=A/\cS f q1 (cM 1 401)=j/\True);let i:Prop:=(aj (aB b.op 4) (aG 0 y.a/\aw y.a c/\e=A/\cS f q1 (cM (ay .i64 d u) 401)=j/\True) (aj (aB b.op 6) (aG 0 y.a/\aw y.a c/\e=A/\cS f q1 (cM (ay .i64 d 2) 401)=j/\True) (aj (aB b.op 5) (aj (aB b.mx (-1)) (aG 0 y.a/\aw y.a c/\e=A/\cS f q1 (cM (ay .i64 (ay .i64 n d) 2) 401)=j/\True) (aG 0 y.a/\aw y.a c/\e=A/\cS f q1 (cM (ay .i64 n (gG .i64 v (ay .i64 d 1))) 401)=j/\True)) (aG 0 y.a/\aw y.a c/\e=A/\cS f q1 (cM d 401)=j/\True))));(Iv (x<=q))->aj s (Iv (Om (nw.mk y.l f e)/\dm m<dm g)/\RAK y.l c e f (aG 0 e/\aw e c/\∃z:Nat,aa [y.l] (aa [y.a,b.ae] (c=ag (Θ y z)/\(e+((lk (aD m).length:Nat):Int))=Pj y z/\cM (ay .i64 d (gt 0 k e.toNat)) 401=szM y z/\ay .i64 (x:Int) 1=(z:Int)/\t (k=Θ y z/\(Iv (z<=q/\(q-z)<(q-x)))))))) (aj (aB b.op 2) (aj (aB b.op 2) (h) (i)) (aj (aB b.op 7) (aj (aB b.op 7) (h) (i)) (aj (aB b.op 8) (h) (i)))))
def Qfj:∀y,Qfi y=szV y:=λy=>by kernel_rfl
def Qfk (y:nw):Prop:=let d:=lk (cu (List.drop y.a.toNat y.l)).1;let q1:=d.ae.length;let u:=gt (Nd.mk 0 [] 0 0 false 0 0) y.l y.a.toNat;let f:=λp:Prop=>RAJ y.l y.a u.ae p;aG 0 y.a/\aw y.a (ag y.l)/\(∃z:Nat,f (ag y.o=ag (Λ y z)/\ay .i64 y.a 1=Pj y z/\0=(z:Int)/\y.o=Λ y z/\(Iv (z<=q1))))/\(∀x:Nat,let b:=Pj y x;let c:=Λ y x;let e:=lk (cu (List.drop b.toNat y.l)).1;let g:=aw (x:Int) u.ae;(Iv (x<=q1))->aj g (Iv (Om (nw.mk y.l c b)/\dm e<dm d)/\RAK y.l (ag c) b c (∃z:Nat,f (ag c=ag (Λ y z)/\(b+((lk (aD e).length:Nat):Int))=Pj y z/\ay .i64 (x:Int) 1=(z:Int)/\IG (nw.mk y.l c b)=Λ y z/\(Iv (z<=q1/\(q1-z)<(q1-x)))))) (aG 0 y.a/\aw y.a (ag c)/\b=(y.a+((lk (aD d).length:Nat):Int))/\cS c y.a.toNat b=IG y/\True))
def Qfl:∀y,Qfk y=enV y:=λy=>by kernel_rfl
theorem IH {α:Type} {i b:List α} {d:α} (h:i.length<=a):(i++b).getD a d=b.getD (a-i.length) d:=by
 grind
def Lo (o:List Int) (a:Nat):kx o a []=o:=by simp[kx]
theorem Lp (h:a+s.length<=o.length):(kx o a s).length=o.length:=by
 grind [kx]
theorem Lq {b:Nat} {t:List Int} (h:a+s.length<=o.length) (d:b=a+s.length):kx (kx o a s) b t=kx o a (s++t):=by
 subst d;unfold kx;have c:(o.take a++s++o.drop (a+s.length)).take (a+s.length)=o.take a++s:=ZdF (by grind);have e2:(o.take a++s++o.drop (a+s.length)).drop (a+s.length+t.length)=o.drop (a+s.length+t.length):=by
  rw[<-ZbZ,List.drop_left' (by simp;omega),ZbZ]
 rw[c,e2,Zab,<-Za4];simp
theorem Lr (v:Int) (h:a<o.length):(kx o (a+1) s).set a v=kx o a (v::s):=by
 unfold kx;have b:o.take (a+1)=o.take a++[o[a]]:=by simp_all
 have e2:(o.take a).length=a:=by grind
 rw[b,ZaD,ZaD,ZbY _ _ ω,e2,Zb3];grind
theorem Qfm {i:Nat} (h:a<=o.length) (hi:i<s.length):(kx o a s).getD (a+i) 0=s.getD i 0:=by
 grind [kx]
theorem rB (t:ah):jK t=eP (bt t)::fW t.ae:=by cases t;rw[jK,bt];rfl
def size_eq (t:ah):bt t=pF t.op t.mn t.mx t.ae.length (aQ t.ae):=by cases t;rw[bt];rfl
theorem II (t:ah) (a:Nat):qE t a=((a+(aD t).length:Nat):Int)::lf t.ae (a+1):=by
 rw[bT];cases t with
 | mk op r mn mx lz cap nk b=>rw[qE];simp[ah.ae];omega
mutual
theorem Fa:∀t:ah,(jK t).length=(aD t).length
 | .mk op r mn mx lz cap nk ks=>by rw[jK,aD,Zae,Zae,lg ks]
theorem lg:∀l:List ah,(fW l).length=(aA l).length
 | []=>by simp[fW,aA]
 | t::l=>by rw[fW,aA,Zab,Zab,Fa t,lg l]
end
mutual
theorem Fb:∀(t:ah) (a:Nat),(qE t a).length=(aD t).length
 | .mk op r mn mx lz cap nk ks,a=>by rw[qE,aD,Zae,Zae,pG ks]
theorem pG:∀(l:List ah) (a:Nat),(lf l a).length=(aA l).length
 | [],a=>by simp[lf,aA]
 | t::l,a=>by rw[lf,aA,Zab,Zab,Fb t,pG l]
end
variable {Z:ah} {l Y:List Nd} {a:Nat}
theorem sN (a b:List ah):fW (a++b)=fW a++fW b:=by
 induction a with
 | nil=>simp[fW]
 | cons x a c=>simp[fW,c]
theorem tS (a b:List ah):aQ (a++b)=aQ a+aQ b:=by
 induction a with
 | nil=>simp[aQ]
 | cons x a c=>simp[aQ,c];omega
theorem yG:∀(l m:List ah) (a:Nat),lf (l++m) a=lf l a++lf m (a+(aA l).length)
 | [],m,a=>by rfl
 | t::l,m,a=>by
  rw[Za1,lf,yG l m,lf,aA,Zab,ZaD,Za4]
theorem Vk (h:ku Z) (r:List Nd):cu (aD Z++r)=(Z,r):=by
 grind [cu,aC,tR]
theorem ki {r:List Nd} (h:ku Z) (e:l.drop a=aD Z++r):lk (cu (l.drop a)).1=Z:=by
 rw[aC,e,Vk h]
theorem wi {x:Nat} (e:l.drop a=aD Z++Y) (d:x<Z.ae.length):l.drop (a+1+(aA (Z.ae.take x)).length)=aD (Z.ae.getD x bF)++(aA (Z.ae.drop (x+1))++Y):=by
 have c:Z.ae=Z.ae.take x++(Z.ae.getD x bF::Z.ae.drop (x+1)):=by
  simp_all
 have b:aA Z.ae=aA (Z.ae.take x)++(aD (Z.ae.getD x bF)++aA (Z.ae.drop (x+1))):=by
  grind [cG,aA]
 rw[show a+1+(aA (Z.ae.take x)).length=a+(1+(aA (Z.ae.take x)).length) by omega,<-ZbZ,e,bT,b,Za1,ZaD];grind
theorem qt (e:l.drop a=aD Z++Y):a<l.length/\l.getD a (nd 0)=⟨Z.op,Z.r,Z.mn,Z.mx,Z.lz,Z.cap,Z.ae.length⟩/\a+(aD Z).length<=l.length:=by
 grind [bT,List.length_append,List.drop_eq_getElem_cons]
theorem IJ (n:Nat):0<=eP n/\eP n<=401:=by grind [eP]
theorem lh (a b:Int):cM a b=min a b:=by grind [cM]
theorem Ξ (s u:Nat):cM (ay .i64 (eP s) (eP u)) 401=eP (s+u):=by
 grind [lh,eP]
theorem Ls (s k:Nat) (hk:k<=1000):cM (ay .i64 (eP s) (k:Int)) 401=eP (s+k):=by
 grind [lh,eP]
theorem Vl {mn:Int} (s:Nat) (h0:0<=mn) (h1:mn<=30):cM (ay .i64 (ay .i64 (gG .i64 mn (eP s)) (eP s)) 2) 401=eP (mn.toNat*s+s+2):=by
 obtain⟨m,rfl⟩:=Zau h0;by_cases hs:s<=401
 ·have a:m*s<=30*401:=Zci ω hs;grind [lh,eP]
 ·grind [eP,lh]
theorem Φ {mn mx:Int} (s:Nat) (h0:0<=mn) (h1:mn<=mx) (f:mx<=30):cM (ay .i64 (gG .i64 mn (eP s)) (gG .i64 (cx .i64 mx mn) (ay .i64 (eP s) 1))) 401=eP (mn.toNat*s+(mx.toNat-mn.toNat)*(s+1)):=by
 obtain⟨m,rfl⟩:=Zau h0;have⟨d,i⟩:=Zau (show 0<=mx-m by omega);have c:mx=((m+d:Nat):Int):=ω;subst c;have e:=IJ s;rw[jQ ω ω,show((m+d:Nat):Int) -(m:Int)=(d:Int) by omega,Zad,Zad,ZcN,ba (a:=eP s) (b:=1) ω ω];by_cases hs:s<=401
 ·have g:m*s<=30*401:=Zci ω hs;have h:d*(s+1)<=30*402:=Zci ω ω;grind [lh,eP]
 ·have g1:m*402<=m*s:=Zci ω ω;have g2:d*403<=d*(s+1):=Zci ω ω;grind [lh,eP]
theorem Om.out {y:nw} (h:Om y):∃(a:Nat) (r:List Nd),y.a=a/\ku y.t/\y.l.drop a=aD y.t++r/\y.o.length=y.l.length/\y.l.length<=480/\y.n=(aD y.t).length:=by
 have⟨h0,h1,b,t,r,c,d⟩:=h;grind [nw.t,ki,nw.n,aC]
theorem szH (y:nw) (P:szC.pre y):Qfi y:=by
 have⟨a,r,B,hw,n,O,hl,W⟩:=Om.out P;have⟨l,o,U⟩:=y;simp only at B n O hl;subst B;have⟨Z,Q,n3⟩:=qt n;have s:=(iQ _).mp hw;have J:lk (cu (List.drop a l)).1=nw.t ⟨l,o,a⟩:=rfl;have E:∀k,Pj ⟨l,o,a⟩ k=((a+1+(aA ((nw.t ⟨l,o,a⟩).ae.take k)).length:Nat):Int):=λk=>by grind [Pj,aC]
 have G:∀k,Θ ⟨l,o,a⟩ k=kx o (a+1) (fW ((nw.t ⟨l,o,a⟩).ae.take k)):=λk=>by grind [Θ,aC]
 have H:∀k,szM ⟨l,o,a⟩ k=eP (aQ ((nw.t ⟨l,o,a⟩).ae.take k)):=λk=>by unfold szM;rw[aC]
 have I:F7 ⟨l,o,a⟩=kx o a (jK (nw.t ⟨l,o,a⟩)):=by grind [F7,aC]
 unfold Qfi;simp only[Zad,J];rw[I];generalize nw.t ⟨l,o,a⟩=t at*
 have K:=bT t;have L:(aD t).length=(aA t.ae).length+1:=by grind
 have p:gt (Nd.mk 0 [] 0 0 false 0 0) l a=⟨t.op,t.r,t.mn,t.mx,t.lz,t.cap,t.ae.length⟩:=Q;have C:∀k,(aA (t.ae.take k)).length<=(aA t.ae).length:=λk=>by
  grind [List.take_append_drop,cG]
 have N:t.ae.length<=(aA t.ae).length:=by
  have key:∀l:List ah,l.length<=(aA l).length:=λl=>by
   induction l with
   | nil=>simp
   | cons x l Y=>simp only[aA,Zab,Zae];rw[bT];simp;omega
  exact key _
 have hlen:∀k,(kx o (a+1) (fW (t.ae.take k))).length=o.length:=λk=>Lp (by grind [lg])
 rw[p];simp only[E,G,H];simp only[bL,bC,au,dq,Zad,hlen,aC];refine⟨ω,ω,⟨0,by grind [aA],by rfl,rfl,by simp[fW,Lo],Zaj _⟩,λx X=>⟨λe=>?_,λe=>?_⟩⟩
 ·have b:x<t.ae.length:=ω;have hk:=wi n b;have u:ku (t.ae.getD x bF):=by grind [qq]
  have ht:=cq bF b;have⟨m1,_,m3⟩:=qt hk;have w:Om ⟨l,kx o (a+1) (fW (t.ae.take x)),((a+1+(aA (t.ae.take x)).length:Nat):Int)⟩:=⟨by grind,by grind,hl,_,_,u,by assumption⟩;have q:(cu (List.drop (a+1+(aA (t.ae.take x)).length) l)).1=t.ae.getD x bF:=by grind [aC,ki]
  have i:F7 ⟨l,kx o (a+1) (fW (t.ae.take x)),((a+1+(aA (t.ae.take x)).length:Nat):Int)⟩=kx o (a+1) (fW (t.ae.take (x+1))):=by
   unfold F7 nw.t;grind [aC,Lq,lg,sN,fW]
  have F:(kx o (a+1) (fW (t.ae.take (x+1)))).getD (a+1+(aA (t.ae.take x)).length) 0=eP (bt (t.ae.getD x bF)):=by
   rw[ht,sN,fW,fW,Zaw,<-lg,Qfm ω (by rw[rB];simp),IH ω,Zb3,rB];rfl
  rw[i,F,q];refine⟨⟨w,iP b⟩,ω,ω,x+1,?_,?_,bK ω,rfl,ω,ω⟩
  ·grind [cG,aA]
  ·grind [tS,aQ,Ξ]
 ·have b:x=t.ae.length:=ω;subst b;rw[ZaM];have c:((a+1+(aA t.ae).length:Nat):Int)=(a:Int)+(((aD t).length:Nat):Int):=ω;have fin:∀v,v=eP (bt t)->cS (kx o (a+1) (fW t.ae)) a v=kx o a (jK t):=λv D=>by
   show(kx o (a+1) (fW t.ae)).set a v=_
   grind [Lr,rB]
  have di:=size_eq t;unfold pF at di;have all:∀v,v=eP (bt t)->(0:Int)<=a/\(a:Int)<(o.length:Int)/\((a+1+(aA t.ae).length:Nat):Int)=(a:Int)+(((aD t).length:Nat):Int)/\cS (kx o (a+1) (fW t.ae)) a v=kx o a (jK t):=λv D=>⟨ω,ω,c,fin v D⟩
  have one:t.op=2\/t.op=7\/t.op=8->cM 1 401=eP (bt t):=λh=>by rw[di,Zac h];decide
  have wf:=s.1;have rest:¬(t.op=2\/t.op=7\/t.op=8)->((t.op=4->(0:Int)<=a/\(a:Int)<(o.length:Int)/\((a+1+(aA t.ae).length:Nat):Int)=(a:Int)+(((aD t).length:Nat):Int)/\cS (kx o (a+1) (fW t.ae)) a (cM (ay .i64 (eP (aQ t.ae)) (gG .i64 2 (cx .i64 (t.ae.length:Int) 1))) 401)=kx o a (jK t))/\
    (t.op≠4->(t.op=6->(0:Int)<=a/\(a:Int)<(o.length:Int)/\((a+1+(aA t.ae).length:Nat):Int)=(a:Int)+(((aD t).length:Nat):Int)/\cS (kx o (a+1) (fW t.ae)) a (cM (ay .i64 (eP (aQ t.ae)) 2) 401)=kx o a (jK t))/\
    (t.op≠6->(t.op=5->(t.mx= -1->(0:Int)<=a/\(a:Int)<(o.length:Int)/\((a+1+(aA t.ae).length:Nat):Int)=(a:Int)+(((aD t).length:Nat):Int)/\cS (kx o (a+1) (fW t.ae)) a (cM (ay .i64 (ay .i64 (gG .i64 t.mn (eP (aQ t.ae))) (eP (aQ t.ae))) 2) 401)=kx o a (jK t))/\
     (t.mx≠-1->(0:Int)<=a/\(a:Int)<(o.length:Int)/\((a+1+(aA t.ae).length:Nat):Int)=(a:Int)+(((aD t).length:Nat):Int)/\cS (kx o (a+1) (fW t.ae)) a (cM (ay .i64 (gG .i64 t.mn (eP (aQ t.ae))) (gG .i64 (cx .i64 t.mx t.mn) (ay .i64 (eP (aQ t.ae)) 1))) 401)=kx o a (jK t)))/\
    (t.op≠5->(0:Int)<=a/\(a:Int)<(o.length:Int)/\((a+1+(aA t.ae).length:Nat):Int)=(a:Int)+(((aD t).length:Nat):Int)/\cS (kx o (a+1) (fW t.ae)) a (cM (eP (aQ t.ae)) 401)=kx o a (jK t))))):=λh=>by
   rw[Zaa h] at di;refine⟨λd=>all _ ?_,λd=>⟨λz=>all _ ?_,λz=>⟨λf=>⟨λR=>all _ ?_,λR=>all _ ?_⟩,λf=>all _ ?_⟩⟩⟩
   ·rw[Zac d] at di;have M:1<=t.ae.length:=by
     have⟨g,V⟩:=wf;grind [ck]
    rw[di,A0 ω ω,xK ω ω];have:=Ls (aQ t.ae) (2*(t.ae.length-1)) ω;assumption
   ·rw[Zaa d,Zac z] at di;rw[di];exact Ls _ 2 ω
   ·have⟨_,S,T,_⟩:=wf.rep f;grind [Vl]
   ·have⟨_,S,T,w4⟩:=wf.rep f;grind [Φ]
   ·rw[Zaa d,Zaa z,Zaa f] at di;rw[di,lh];have:=IJ (aQ t.ae);omega
  refine⟨λj=>⟨λ_=>all _ (one (.inl j)),λh=>absurd j h⟩,λj=>⟨λm=>⟨λ_=>all _ (one (.inr (.inl m))),λh=>absurd m h⟩,λm=>⟨λA=>all _ (one (.inr (.inr A))),λA=>rest ω⟩⟩⟩
def Qrs:Ok szC:=RC (λy=>dm y.t) Qfj trivial szH
theorem enH (y:nw) (A:enC.pre y):Qfk y:=by
 have⟨a,r,j,hw,d,w,hl,E⟩:=Om.out A;have⟨l,o,C⟩:=y;simp only at j d w hl;subst j;have⟨H,B,I⟩:=qt d;have z:=(iQ _).mp hw;have q:lk (cu (List.drop a l)).1=nw.t ⟨l,o,a⟩:=rfl;have n:∀k,Pj ⟨l,o,a⟩ k=((a+1+(aA ((nw.t ⟨l,o,a⟩).ae.take k)).length:Nat):Int):=λk=>by grind [Pj,aC]
 have p:∀k,Λ ⟨l,o,a⟩ k=kx o (a+1) (lf ((nw.t ⟨l,o,a⟩).ae.take k) (a+1)):=λk=>by grind [Λ,aC]
 have D:IG ⟨l,o,a⟩=kx o a (qE (nw.t ⟨l,o,a⟩) a):=by grind [IG,aC]
 unfold Qfk;simp only[Zad,q];generalize nw.t ⟨l,o,a⟩=t at*
 have s:=bT t;have u:(aD t).length=(aA t.ae).length+1:=by grind
 have f:gt (Nd.mk 0 [] 0 0 false 0 0) l a=⟨t.op,t.r,t.mn,t.mx,t.lz,t.cap,t.ae.length⟩:=B;have m:∀k,(aA (t.ae.take k)).length<=(aA t.ae).length:=λk=>by
  grind [List.take_append_drop,cG]
 have v:t.ae.length<=(aA t.ae).length:=by
  have key:∀l:List ah,l.length<=(aA l).length:=λl=>by
   induction l with
   | nil=>simp
   | cons x l G=>simp only[aA,Zab,Zae];rw[bT];simp;omega
  exact key _
 have hlen:∀k,(kx o (a+1) (lf (t.ae.take k) (a+1))).length=o.length:=λk=>Lp (by grind [pG])
 rw[f];simp only[n,p];simp only[bL,bC,au,dq,Zad,hlen,aC];refine⟨ω,ω,⟨0,by grind [aA],rfl,by simp[lf,Lo],Zaj _⟩,λx F=>⟨λe=>?_,λe=>?_⟩⟩
 ·have b:x<t.ae.length:=ω;have hk:=wi d b;have h:ku (t.ae.getD x bF):=by grind [qq]
  have ht:=cq bF b;have i:Om ⟨l,kx o (a+1) (lf (t.ae.take x) (a+1)),((a+1+(aA (t.ae.take x)).length:Nat):Int)⟩:=⟨by grind,by grind,hl,_,_,h,by assumption⟩;have g:(cu (List.drop (a+1+(aA (t.ae.take x)).length) l)).1=t.ae.getD x bF:=by grind [aC,ki]
  have c:IG ⟨l,kx o (a+1) (lf (t.ae.take x) (a+1)),((a+1+(aA (t.ae.take x)).length:Nat):Int)⟩=kx o (a+1) (lf (t.ae.take (x+1)) (a+1)):=by
   unfold IG nw.t;grind [aC,Lq,pG,yG,lf]
  rw[c,g];refine⟨⟨i,iP b⟩,x+1,?_,bK ω,rfl,ω,ω⟩;grind [cG,aA]
 ·have b:x=t.ae.length:=ω;subst b;rw[ZaM];refine⟨ω,ω,ω,?_⟩;show(kx o (a+1) _).set a _=_
  grind [Lr,II]
def Qrt:Ok enC:=RC (λy=>dm y.t) Qfl trivial enH
def in0:aW:=⟨0,0,0,[]⟩
def iq (f:Nat->List aW) (sz:Nat):Nat->Nat->List aW
 | 0,_=>[]
 | n+1,b=>f b++iq f sz n (b+sz)
def fp (g:Nat->aW) (f:Nat->List aW) (sz:Nat):Nat->Nat->List aW
 | 0,_=>[]
 | n+1,b=>g b::(f (b+1)++fp g f sz n (b+1+sz))
def hZ (lz:Bool) (b out:Nat):aW:=if lz=true then⟨2,out,(b+1:Nat),[]⟩ else⟨2,(b+1:Nat),out,[]⟩
def lj (mn mx:Int):Nat:=mx.toNat-mn.toNat
def IK (f:Nat->List aW) (sz:Nat) (mn mx:Int) (lz:Bool) (b:Nat):List aW:=
 iq f sz mn.toNat b++(if mx= -1 then hZ lz (b+mn.toNat*sz) (b+mn.toNat*sz+sz+2)::(f (b+mn.toNat*sz+1)++[⟨3,(b+mn.toNat*sz:Nat),0,[]⟩])
  else fp (λi=>hZ lz i (b+mn.toNat*sz+lj mn mx*(sz+1))) f sz (lj mn mx) (b+mn.toNat*sz))
mutual
def bS:ah->Nat->List aW
 | .mk op r mn mx lz cap _ ks,b=>
  if op=2 then[⟨1,0,0,r⟩] else if op=7 then[⟨5,0,0,[]⟩] else if op=8 then[⟨6,0,0,[]⟩]
  else if op=3 then bu ks b
  else if op=4 then kj ks b (b+aQ ks+2*(ks.length-1))
  else if op=5 then IK (λb=>bu ks b) (aQ ks) mn mx lz b
  else if op=6 then⟨4,2*cap,0,[]⟩::(bu ks (b+1)++[⟨4,2*cap+1,0,[]⟩])
  else[]
def bu:List ah->Nat->List aW
 | [],_=>[]
 | t::l,b=>bS t b++bu l (b+bt t)
def kj:List ah->Nat->Nat->List aW
 | [],_,_=>[]
 | t::l,b,e=>if l.isEmpty=true then bS t b else⟨2,(b+1:Nat),(b+2+bt t:Nat),[]⟩::(bS t (b+1)++⟨3,e,0,[]⟩::kj l (b+2+bt t) e)
end
def fH:List ah->Nat->Nat->List aW
 | [],_,_=>[]
 | t::l,b,e=>⟨2,(b+1:Nat),(b+2+bt t:Nat),[]⟩::(bS t (b+1)++⟨3,e,0,[]⟩::fH l (b+2+bt t) e)
def jR:List ah->Nat->List Int
 | [],_=>[]
 | t::l,b=>(b+1+bt t:Nat)::jR l (b+2+bt t)
def jL (sz:Nat):Nat->Nat->List Int
 | 0,_=>[]
 | n+1,b=>(b:Int)::jL sz n (b+1+sz)
def ll (e:Int) (l:List aW) (j:Int):List aW:=l.set j.toNat ⟨(l.getD j.toNat in0).op,e,(l.getD j.toNat in0).y,(l.getD j.toNat in0).bm⟩
def fx (e:Int) (lz:Bool) (l:List aW) (j:Int):List aW:=l.set j.toNat ⟨(l.getD j.toNat in0).op,if lz=true then e else j+1,if lz=true then j+1 else e,(l.getD j.toNat in0).bm⟩
structure eD where
 af:List aW
 bz:List Nd
 cF:List Int
 aS:List Int
abbrev vt:=eD×Int
variable {Z:Nat} {Y:Nat->List aW} {x:Nd} {g:Nat->aW}
def Lt (n:Nat) (y:eD) (af:List aW):List (Nat×AO D.E):=[(0,.cells [.own n 4 (ag af),.list 7 y.bz,.list 5 y.cF,.list 5 y.aS] 197 false),(n,.arr 8 af 203 false)]
def Qfo (v:AV D.E) (s:St D.E):C eD:=match v with
 | .ptr b _=>az (cR (s.h.get b)) λo=>match o with
  | .cells cs _ _=>match cs with
   | [c,l,x,e]=>az (aL D s 8 c) λc=>az (aL D s 7 l) λl=>az (aL D s 5 x) λx=>az (aL D s 5 e) λe=>.ret ⟨c,l,x,e⟩
   | _=>.fail
  | _=>.fail
 | _=>.fail
def QcA (v:AV D.E):C aW:=az (asAgg v) λcs=>uW D 8 cs
def vu:bh D:=⟨119,eD×aW,λa s=>match a with
 | [p,i]=>az (Qfo p s) λy=>az (QcA i) λi=>.ret (y,i)
 | _=>.fail,λy=>y.1.af.length<=1000,λy=>[.ptr 0 0,.agg (D.a_ 8 y.2)],λy=>Lt 1 y.1 y.1.af,λy=>Qvo y.1.af.length,λy=>Lt 2 y.1 (y.1.af++[y.2]),2,3⟩
def Qru (_:vu.Y):cH D:=⟨[],[],[],[],1,[]⟩
def Fc:bh D:=⟨215,eD×Int×Int×Bool,λa s=>match a with
 | [p,i,o,b]=>az (Qfo p s) λy=>aP (cT i) λ_ i=>aP (cT o) λ_ o=>aP (zh b) λb _=>.ret (y,i,o,b)
 | _=>.fail,λy=>y.1.af.length<=1000/\0<=y.2.1/\y.2.1<y.1.af.length,λy=>[.ptr 0 0,Qvo y.2.1,Qvo y.2.2.1,.bool y.2.2.2],λy=>Lt 1 y.1 y.1.af,λ_=>.tuple [],λy=>Lt 1 y.1 (fx y.2.2.1 y.2.2.2 y.1.af y.2.1),2,2⟩
def eD.t (y:vt):ah:=lk (cu (y.1.bz.drop y.2.toNat)).1
def ln (y:vt):Prop:=0<=y.2/\y.1.bz.length<=480/\(∀x∈y.1.bz,iO x)/\∃t,ku t/\y.1.af.length+bt t<=400/\(∃r,y.1.bz.drop y.2.toNat=aD t++r)/\(∃r,y.1.cF.drop y.2.toNat=jK t++r)/\∃r,y.1.aS.drop y.2.toNat=qE t y.2.toNat++r
def Qrx (a:List (AV D.E)) (s:St D.E):C vt:=match a with
 | [p,i]=>az (Qfo p s) λy=>aP (cT i) λ_ i=>.ret (y,i)
 | _=>.fail
def ir (y:vt):List aW:=lk (y.1.af++bS (eD.t y) y.1.af.length)
def Qfp (f:FuncId) (pre:vt->Prop):bh D:=⟨f,vt,Qrx,pre,λy=>[.ptr 0 0,Qvo y.2],λy=>Lt 1 y.1 y.1.af,λ_=>.tuple [],λy=>Lt 2 y.1 (ir y),2,3⟩
def IL:bh D:=Qfp 120 ln
def Qfq (y:vt):Prop:=ln y/\(eD.t y).op=4
def Qfr (y:vt):Prop:=ln y/\(eD.t y).op=5
def On:bh D:=Qfp 177 Qfq
def Oo:bh D:=Qfp 178 Qfr
def fnM (y:vt) (n:Nat):s7:=[IL.under (λy=>2*dm (eD.t y)+1) n,On.under (λy=>2*dm (eD.t y)) n,Oo.under (λy=>2*dm (eD.t y)) n]
def vv (y:vt) (k:Nat):Int:=lk (y.2+1+(aA ((eD.t y).ae.take k)).length)
def Fe (y:vt) (k:Nat):List aW:=lk (y.1.af++bu ((eD.t y).ae.take k) y.1.af.length)
def Qj6 (y:IL.Y):cH D:=⟨[],[],[(30710,⟨Nat,[0,38],λk=>[(4,.ptr 2 0),(5,Qvo (vv y k)),(39,Qvo k)],[2],λk=>Lt 3 y.1 (Fe y k),4,λk=>k<=(eD.t y).ae.length,λk=>(eD.t y).ae.length-k⟩)],[],1,[]⟩
def Qrz (y:IL.Y):Prop:=vc (fnM y (2*dm (eD.t y)+1)++[vu]) f120 IL Qj6 y
def Ff (y:vt) (k:Nat):List aW:=lk (y.1.af++fH ((eD.t y).ae.take k) y.1.af.length 0)
def Fh (y:vt) (k:Nat):List Int:=lk (jR ((eD.t y).ae.take k) y.1.af.length)
def CG (y:vt):List aW:=lk (y.1.af++kj (eD.t y).ae y.1.af.length 0)
def CH (y:vt):List Int:=lk (jR (eD.t y).ae.dropLast y.1.af.length)
def Fi (y:vt) (j:Nat):List aW:=lk (((CH y).take j).foldl (ll (ir y).length) (CG y))
def vw (n:Nat):Nat×AO D.E:=(n,.tok 5 3)
def Qj7 (y:On.Y):cH D:=⟨[],[],[
 (58,⟨Nat,[0,1,19],λk=>[(4,.grow 5 (Fh y k) 3),(5,Qvo (vv y k)),(20,Qvo k)],[],λk=>Lt 2 y.1 (Ff y k)++[vw 3],4,λk=>k+1<=(eD.t y).ae.length,λk=>(eD.t y).ae.length-k⟩),
 (62,⟨Nat,[0,66],λj=>[(65,.grow 5 (CH y) 3),(67,Qvo j)],[],λj=>Lt 2 y.1 (Fi y j)++[vw 3],4,λj=>j<=(CH y).length,λj=>(CH y).length-j⟩)],
 [(7,⟨Unit,[0],λ_=>[(4,.grow 5 (CH y) 3)],[],λ_=>Lt 2 y.1 (CG y)++[vw 3],4,λ_=>True,λ_=>0⟩)],1,[]⟩
def QrA (y:On.Y):Prop:=vc (fnM y (2*dm (eD.t y))++[vu,Fc]) f177 On Qj7 y
def ndO (n:Nat) (x:ah):Nat×AO D.E:=(n,.cells [.int .i64 x.op,.list 6 x.r,.int .i64 x.mn,.int .i64 x.mx,.bool x.lz,.int .i64 x.cap,.int .i64 x.nk] 206 false)
def sO (y:vt) (k:Nat):List aW:=lk (y.1.af++iq (bu (eD.t y).ae) (aQ (eD.t y).ae) k y.1.af.length)
def Oq (y:vt):Nat:=lk (sO y (eD.t y).mn.toNat).length
def zL (y:vt) (k:Nat):List aW:=lk (sO y (eD.t y).mn.toNat++fp (λ_=>⟨2,0,0,[]⟩) (bu (eD.t y).ae) (aQ (eD.t y).ae) k (Oq y))
def vz (y:vt) (k:Nat):List Int:=lk (jL (aQ (eD.t y).ae) k (Oq y))
def lK (y:vt):Nat:=lk (lj (eD.t y).mn (eD.t y).mx)
def Fj (y:vt) (j:Nat):List aW:=lk (((vz y (lK y)).take j).foldl (fx (ir y).length (eD.t y).lz) (zL y (lK y)))
def Qj8 (y:Oo.Y):cH D:=⟨[],[],[
 (106,⟨Nat,[0,5,28],λk=>[(4,.ptr 2 0),(29,Qvo k)],[],λk=>Lt 3 y.1 (sO y k)++[ndO 2 (eD.t y)],4,λk=>k<=(eD.t y).mn.toNat,λk=>(eD.t y).mn.toNat-k⟩),
 (250,⟨Nat,[0,5,62],λk=>[(4,.ptr 2 0),(7,.grow 5 (vz y k) 4),(63,Qvo k)],[],λk=>Lt 3 y.1 (zL y k)++[ndO 2 (eD.t y),vw 4],5,λk=>k<=lK y,λk=>lK y-k⟩),
 (254,⟨Nat,[0,76],λj=>[(4,.ptr 2 0),(75,.grow 5 (vz y (lK y)) 4),(77,Qvo j)],[],λj=>Lt 3 y.1 (Fj y j)++[ndO 2 (eD.t y),vw 4],5,λj=>j<=lK y,λj=>lK y-j⟩)],
 [(3,⟨Unit,[0,5],λ_=>[(4,.ptr 2 0)],[],λ_=>Lt 3 y.1 (sO y (eD.t y).mn.toNat)++[ndO 2 (eD.t y)],4,λ_=>True,λ_=>0⟩)],1,[]⟩
def QrB (y:Oo.Y):Prop:=vc (fnM y (2*dm (eD.t y))++[vu,Fc]) f178 Oo Qj8 y
abbrev RAL {T0 T1 T2 T3 T4:Type} (a:T0) (b:T1) (c:T2) (d:T3) (e:T4) (p:Prop):Prop:=aa [a] (aa [b] (aa [c] (aa [d] (aa [e] p))))
def Vm (y:eD×aW):Prop:=let a:=([y.2]:List aW);let q1:=ag (bM y.1.af a);bJ q1 48=true/\RAL (ag y.1.af) y.2.op y.2.x y.2.y y.2.bm (cx .i64 q1 1=(y.1.af.length:Int)/\q1=ag (y.1.af++a)/\aa [y.1.bz] (aa [y.1.cF,y.1.aS] (bM y.1.af a=(y.1.af++a)/\True)))
abbrev RA6 (v:eD) (p:Prop):Prop:=aa [v.bz] (aa [v.cF] (aa [v.aS] p))
def Vn (y:eD×Int×Int×Bool):Prop:=let a:=ag y.1.af;let q1:=y.2.1.toNat;let i:=ay .i64 y.2.1 1;let e:=gt (aW.mk 0 0 0 []) y.1.af q1;let d:=fx y.2.2.1 y.2.2.2 y.1.af y.2.1;let j:=cS y.1.af q1 (aW.mk e.op i e.y e.bm);let f:=gt (aW.mk 0 0 0 []) j q1;let g:=cS j q1 (aW.mk f.op f.x y.2.2.1 f.bm);let h:=gt (aW.mk 0 0 0 []) g q1;let k:=cS g q1 (aW.mk h.op y.2.2.1 h.y h.bm);let b:=gt (aW.mk 0 0 0 []) k q1;let c:=λp:Prop=>RA6 y.1 p;aG 0 y.2.1=true/\aw y.2.1 a=true/\aG 0 y.2.1=true/\aw y.2.1 a=true/\RAI a a (aj y.2.2.2 (aG 0 y.2.1=true/\aw y.2.1 a=true/\aG 0 y.2.1=true/\aw y.2.1 a=true/\aa [a,a] (a=ag d/\c (cS k q1 (aW.mk b.op b.x i b.bm)=d/\True))) (a=ag d/\c (g=d/\True)))
def Vo (y:eD×Int):Prop:=let f:=ir y;let q1:=ag f;let h:=ag y.1.af;let o:=ay .i64 y.2 1;let q:=(y.1,y.2);let i:=lk (cu (List.drop y.2.toNat y.1.bz)).1;let a:=gt (Nd.mk 0 [] 0 0 false 0 0) y.1.bz y.2.toNat;let l:=i.ae.length;let m:=gG .i64 2 a.cap;let u:=ay .i64 m 1;let B:=y.1.af++[aW.mk 4 m 0 []];let s:=ag B;let j:=(eD.mk B y.1.bz y.1.cF y.1.aS,o);let d:=ir j;let b:=λp:Prop=>RA6 y.1 p;let n:=λp:Prop=>RA7 a p;let k:Prop:=(RAI y.2 h (RA6 y.1 (RAH y.1.af (ag (ir q)=q1/\b (ir q=f/\True)))));let A:=y.1.af++[aW.mk 1 0 0 a.r];let F:=y.1.af++[aW.mk 5 0 0 []];let G:=y.1.af++[aW.mk 6 0 0 []];aG 0 y.2/\aw y.2 (ag y.1.bz)/\aj (aB a.op 2) (bJ (ag a.r) 8/\Iv (y.1.af.length<=1000)/\aa ([1,0,0]:List Int) (RAI a.r h (RA6 y.1 (RAH y.1.af (ag A=q1/\b (A=f/\True)))))) (aj (aB a.op 7) (Iv (y.1.af.length<=1000)/\aa ([5,0,0]:List Int) (RAC (RAH h (RA6 y.1 (RAH y.1.af (ag F=q1/\b (F=f/\True))))))) (aj (aB a.op 8) (Iv (y.1.af.length<=1000)/\aa ([6,0,0]:List Int) (RAC (RAH h (RA6 y.1 (RAH y.1.af (ag G=q1/\b (G=f/\True))))))) (aj (aB a.op 3) ((∃z:Nat,RAH a.ae (o=vv y z/\0=(z:Int)/\n (h=ag (Fe y z)/\b (y.1.af=Fe y z/\(Iv (z<=l))))))/\(∀x:Nat,let c:=vv y x;let e:=Fe y x;let g:=(eD.mk e y.1.bz y.1.cF y.1.aS,c);let t:=aw (x:Int) a.ae;(Iv (x<=l))->aj t (Iv (ln g/\((2*dm (lk (cu (List.drop c.toNat y.1.bz)).1))+1)<((2*dm i)+1))/\aa [c,ag e] (RA6 y.1 (RAH e (aG 0 c/\aw c (ag y.1.aS)/\∃z:Nat,aa [a.ae] (gt 0 y.1.aS c.toNat=vv y z/\ay .i64 (x:Int) 1=(z:Int)/\n (ag (ir g)=ag (Fe y z)/\b (ir g=Fe y z/\(Iv (z<=l/\(l-z)<(l-x)))))))))) (ag e=q1/\b (e=f/\True)))) (aj (aB a.op 4) (Iv (Qfq q/\(2*dm i)<((2*dm i)+1))/\k) (aj (aB a.op 5) (Iv (Qfr q/\(2*dm i)<((2*dm i)+1))/\k) (aj (aB a.op 6) (Iv (y.1.af.length<=1000)/\aa ([4,m,0]:List Int) (RAC (RAH h (RA6 y.1 (RAH y.1.af (Iv (ln j/\((2*dm (lk (cu (List.drop o.toNat y.1.bz)).1))+1)<((2*dm i)+1))/\aa [o,s] (aa [y.1.bz] (aa [y.1.cF,y.1.aS] (aa [y.1.af++[aW.mk 4 m 0 []]] (Iv (d.length<=1000)/\aa ([4,u,0]:List Int) (aa ([[]]:List (List (Int×Int))) (aa [ag d] (aa [y.1.bz] (aa [y.1.cF,y.1.aS] (aa [d] (ag (d++[aW.mk 4 u 0 []])=q1/\b ((d++[aW.mk 4 u 0 []])=f/\True))))))))))))))))) (h=q1/\b (y.1.af=f/\True))))))))
def Α:∀y,Vo y=Qrz y:=λy=>by kernel_rfl
def Vp (y:eD×Int):Prop:=let d:=CH y;let q1:=ag (CG y);let A:=lk (cu (List.drop y.2.toNat y.1.bz)).1;let s:=A.ae.length;let F:=gt (Nd.mk 0 [] 0 0 false 0 0) y.1.bz y.2.toNat;let C:=λp:Prop=>RAI y.2 F.ae p;let k:=λp:Prop=>RA6 y.1 p;(aG 0 y.2/\aw y.2 (ag y.1.bz)/\(∃z:Nat,C ([]=Fh y z/\ay .i64 y.2 1=vv y z/\0=(z:Int)/\ag y.1.af=ag (Ff y z)/\k (y.1.af=Ff y z/\(Iv ((z+1)<=s)))))/\(∀x:Nat,let h:=vv y x;let c:=Ff y x;let t:=(c.length:Int);let B:=(eD.mk c y.1.bz y.1.cF y.1.aS,h);let u:=ag (c++[aW.mk 2 0 0 []]);let v:=aw (x:Int) F.ae;let w:=aB (x:Int) (cx .i64 F.ae 1);let m:=(eD.mk (c++[aW.mk 2 0 0 []]) y.1.bz y.1.cF y.1.aS,h);let a:=ir m;let n:=bM (Fh y x) [(a.length:Int)];let i:=ag (a++[aW.mk 3 0 0 []]);let o:=(a++[aW.mk 3 0 0 []]).length;let q:=fx i false (a++[aW.mk 3 0 0 []]) t;(Iv ((x+1)<=s))->aj v (aG 0 y.2/\aw y.2 (ag y.1.bz)/\aj w (Iv (ln B/\((2*dm (lk (cu (List.drop h.toNat y.1.bz)).1))+1)<(2*dm A))/\aa [h,ag c] (RA6 y.1 (RAH c (∃z:Unit,Fh y x=d/\ag (ir B)=q1/\k (ir B=CG y/\(Iv True)))))) (Iv (c.length<=1000)/\aa ([2,0,0]:List Int) (RAC (aa [ag c] (RA6 y.1 (RAH c (Iv (ln m/\((2*dm (lk (cu (List.drop h.toNat y.1.bz)).1))+1)<(2*dm A))/\aa [h,u] (aa [y.1.bz] (aa [y.1.cF,y.1.aS] (aa [c++[aW.mk 2 0 0 []]] (Iv (a.length<=1000)/\aa ([3,0,0]:List Int) (aa ([[]]:List (List (Int×Int))) (aa [ag a] (aa [y.1.bz] (aa [y.1.cF,y.1.aS] (aa [a] (bJ (ag n) 8/\Iv (o<=1000/\0<=t/\t<(o:Int))/\aa [t,i] (false=false/\aa [i] (aa [y.1.bz] (aa [y.1.cF,y.1.aS] (aa [a++[aW.mk 3 0 0 []]] (aG 0 h/\aw h (ag y.1.aS)/\∃z:Nat,C (n=Fh y z/\gt 0 y.1.aS h.toNat=vv y z/\ay .i64 (x:Int) 1=(z:Int)/\ag q=ag (Ff y z)/\k (q=Ff y z/\(Iv ((z+1)<=s/\(s-z)<(s-x))))))))))))))))))))))))))) (∃z:Unit,Fh y x=d/\ag c=q1/\k (c=CG y/\(Iv True)))))/\(∀x:Unit,(Iv True)->(∃z:Nat,RAI (ag d) d (0=(z:Int)/\q1=ag (Fi y z)/\k (CG y=Fi y z/\(Iv (z<=d.length)))))/\(∀l:Nat,let e:=Fi y l;let f:=d.length;let b:=ag e;let r:=aw (l:Int) (ag d);let g:=gt 0 d (l:Int).toNat;let j:=gt (aW.mk 0 0 0 []) e g.toNat;(Iv (l<=f))->aj r (aG 0 (l:Int)/\r/\aG 0 g/\aw g b/\RAI b b (∃z:Nat,aa [ag d] (aa [d] (ay .i64 (l:Int) 1=(z:Int)/\b=ag (Fi y z)/\k (cS e g.toNat (aW.mk j.op b j.y j.bm)=Fi y z/\(Iv (z<=f/\(f-z)<(f-l)))))))) (b=ag (ir y)/\k (e=ir y/\True))))
def Β:∀y,Vp y=QrA y:=λy=>by kernel_rfl
abbrev RAP {T0 T1 T2 T3 T4 T5 T6 T7:Type} (a:T0) (b:T1) (c:T2) (d:T3) (e:T4) (f:T5) (g:T6) (h:T7) (p:Prop):Prop:=aa [a] (aa [b] (aa [c] (aa [d] (aa [e] (aa [f] (aa [g] (aa [h] p)))))))
def Vq (y:eD×Int):Prop:=let E:=vz y (lK y);let q1:=ay .i64 y.2 1;let a:=lk (cu (List.drop y.2.toNat y.1.bz)).1;let K:=aw 0 (gt 0 y.1.cF q1.toNat);let d:=gt (Nd.mk 0 [] 0 0 false 0 0) y.1.bz y.2.toNat;let v:=a.mn.toNat;let j:=sO y v;let F:=ag j;let m:=(j.length:Int);let L:=ag (j++[aW.mk 2 0 0 []]);let q:=cx .i64 a.mx a.mn;let w:=(eD.mk (j++[aW.mk 2 0 0 []]) y.1.bz y.1.cF y.1.aS,q1);let e:=ir w;let k:=ag (e++[aW.mk 3 m 0 []]);let A:=(e++[aW.mk 3 m 0 []]).length;let B:=fx k a.lz (e++[aW.mk 3 m 0 []]) m;let b:=λp:Prop=>RA6 y.1 p;let i:=λp:Prop=>RAO a.op a.r a.mn a.mx a.lz a.cap a.nk p;let N:=((2*dm (lk (cu (List.drop q1.toNat y.1.bz)).1))+1)<(2*dm a);aG 0 y.2=true/\aw y.2 (ag y.1.bz)=true/\(aG 0 q1=true/\aw q1 (ag y.1.cF)=true/\aj K ((∃z:Nat,RAI q1 d.mn (0=(z:Int)/\d.op=a.op/\d.r=a.r/\d.mn=a.mn/\d.mx=a.mx/\d.lz=a.lz/\d.cap=a.cap/\d.ae=a.nk/\ag y.1.af=ag (sO y z)/\b (y.1.af=sO y z/\(Iv (z<=v)))))/\(∀x:Nat,let g:=sO y x;let s:=(eD.mk g y.1.bz y.1.cF y.1.aS,q1);let G:=aw (x:Int) d.mn;(Iv (x<=v))->aj G (Iv (ln s/\N)/\aa [q1,ag g] (RA6 y.1 (RAH g (∃z:Nat,aa [q1,d.mn] (ay .i64 (x:Int) 1=(z:Int)/\i (ag (ir s)=ag (sO y z)/\b (ir s=sO y z/\(Iv (z<=v/\(v-z)<(v-x)))))))))) (∃z:Unit,RAP q1 a.op a.r a.mn a.mx a.lz a.cap a.nk (ag g=F/\b (g=j/\(Iv True)))))) (∃z:Unit,RAH q1 (d.op=a.op/\d.r=a.r/\d.mn=a.mn/\d.mx=a.mx/\d.lz=a.lz/\d.cap=a.cap/\d.ae=a.nk/\ag y.1.af=F/\b (y.1.af=j/\(Iv True)))))/\(∀x:Unit,(Iv True)->aj (aB a.mx (-1)) (Iv (j.length<=1000)/\aa ([2,0,0]:List Int) (RAC (RAH F (RA6 y.1 (RAH j (Iv (ln w/\N)/\aa [q1,L] (aa [y.1.bz] (aa [y.1.cF,y.1.aS] (aa [j++[aW.mk 2 0 0 []]] (Iv (e.length<=1000)/\aa ([3,m,0]:List Int) (aa ([[]]:List (List (Int×Int))) (aa [ag e] (aa [y.1.bz] (aa [y.1.cF,y.1.aS] (aa [e] (Iv (A<=1000/\0<=m/\m<(A:Int))/\aa [m,k] (aa [a.lz] (aa [k] (aa [y.1.bz] (aa [y.1.cF,y.1.aS] (aa [e++[aW.mk 3 m 0 []]] (aa [k] (aa [a.lz] (ag B=ag (ir y)/\b (B=ir y/\True))))))))))))))))))))))))) ((∃z:Nat,RAI q1 q ([]=vz y z/\0=(z:Int)/\i (F=ag (zL y z)/\b (j=zL y z/\(Iv (z<=lK y))))))/\(∀n:Nat,let c:=zL y n;let t:=ag (vz y n);let C:=bM (vz y n) [(c.length:Int)];let H:=ag (c++[aW.mk 2 0 0 []]);let u:=(eD.mk (c++[aW.mk 2 0 0 []]) y.1.bz y.1.cF y.1.aS,q1);let I:=aw (n:Int) q;(Iv (n<=lK y))->aj I (Iv (c.length<=1000)/\aa ([2,0,0]:List Int) (RAC (aa [ag c] (RA6 y.1 (RAH c (bJ (ag C) 8=true/\Iv (ln u/\N)/\aa [q1,H] (aa [y.1.bz] (aa [y.1.cF,y.1.aS] (aa [c++[aW.mk 2 0 0 []]] (∃z:Nat,aa [q1,q] (C=vz y z/\ay .i64 (n:Int) 1=(z:Int)/\i (ag (ir u)=ag (zL y z)/\b (ir u=zL y z/\(Iv (z<=lK y/\(lK y-z)<(lK y-n)))))))))))))))) ((∃z:Nat,RAH t (vz y n=E/\0=(z:Int)/\i (ag c=ag (Fj y z)/\b (c=Fj y z/\(Iv (z<=lK y))))))/\(∀o:Nat,let f:=Fj y o;let h:=ag f;let J:=aw (o:Int) t;let l:=gt 0 E (o:Int).toNat;let D:=fx h a.lz f l;(Iv (o<=lK y))->aj J (aG 0 (o:Int)=true/\aw (o:Int) (ag E)=true/\Iv (f.length<=1000/\0<=l/\l<(f.length:Int))/\RAK l h a.lz h (RA6 y.1 (RAJ f h a.lz (∃z:Nat,aa [t] (aa [E] (ay .i64 (o:Int) 1=(z:Int)/\i (ag D=ag (Fj y z)/\b (D=Fj y z/\(Iv (z<=lK y/\(lK y-z)<(lK y-o))))))))))) (h=ag (ir y)/\b (f=ir y/\True)))))))
def Ε:∀y,Vq y=QrB y:=λy=>by kernel_rfl
def lq (t:ah) (b:Nat):bS t b=if t.op=2 then[⟨1,0,0,t.r⟩] else if t.op=7 then[⟨5,0,0,[]⟩] else if t.op=8 then[⟨6,0,0,[]⟩]
  else if t.op=3 then bu t.ae b
  else if t.op=4 then kj t.ae b (b+aQ t.ae+2*(t.ae.length-1))
  else if t.op=5 then IK (λb=>bu t.ae b) (aQ t.ae) t.mn t.mx t.lz b
  else if t.op=6 then⟨4,2*t.cap,0,[]⟩::(bu t.ae (b+1)++[⟨4,2*t.cap+1,0,[]⟩])
  else[]:=by cases t;rw[bS];rfl
theorem pH (a:∀b,(Y b).length=Z):∀(n b:Nat),(iq Y Z n b).length=n*Z
 | 0,b=>by simp[iq]
 | n+1,b=>by rw[iq,Zab,a,pH a n,ZaV,Zc1]
theorem pI (a:∀b,(Y b).length=Z):∀(n b:Nat),(fp g Y Z n b).length=n*(Z+1)
 | 0,b=>by simp[fp]
 | n+1,b=>by rw[fp,Zae,Zab,a,pI a n,ZaV];omega
theorem Bg:∀(n b:Nat),iq Y Z (n+1) b=iq Y Z n b++Y (b+n*Z)
 | 0,b=>by simp[iq]
 | n+1,b=>by
  rw[iq,Bg n,iq,ZaD,ZaV];congr 3;omega
theorem Bh:∀(n b:Nat),fp g Y Z (n+1) b=fp g Y Z n b++(g (b+n*(Z+1))::Y (b+n*(Z+1)+1))
 | 0,b=>by simp[fp]
 | n+1,b=>by
  rw[fp,Bh n,fp,Za1,ZaD,ZaV,show b+1+Z+n*(Z+1)=b+(n*(Z+1)+(Z+1)) by omega]
theorem Bi:∀(n b:Nat),jL Z (n+1) b=jL Z n b++[((b+n*(Z+1):Nat):Int)]
 | 0,b=>by simp[jL]
 | n+1,b=>by
  rw[jL,Bi n,jL,Za1,ZaV,show b+1+Z+n*(Z+1)=b+(n*(Z+1)+(Z+1)) by omega]
theorem Fl:∀(n b:Nat),(jL Z n b).length=n
 | 0,b=>rfl
 | n+1,b=>by rw[jL,Zae,Fl n]
theorem Ol.op (h:Ol x) (h1:x.op≠1):x.op=2\/x.op=7\/x.op=8\/x.op=3\/x.op=4\/x.op=5\/x.op=6:=by
 have⟨g,h⟩:=h;grind [ck]
theorem Ol.none (h:Ol x) (h1:x.op=1):x.ae=0:=by
 have⟨g,h⟩:=h;grind [ck]
theorem Ol.aH (h:Ol x) (h1:x.op=4):2<=x.ae:=by
 obtain⟨g,h⟩:=h;grind [ck]
theorem Ol.vg (h:Ol x) (h1:x.op=6):x.ae=1/\1<=x.cap/\x.cap<=4:=by
 have⟨g,h⟩:=h;grind [ck]
mutual
theorem iR:∀(t:ah) (b:Nat),ku t->(bS t b).length=bt t
 | .mk op r mn mx lz cap nk ks,b,h=>by
  rw[ku] at h
  have hl:=λb=>nh ks b h.2.2
  have ha:=λb e=>lu ks b e h.2.2
  rw[bS,bt]
  unfold pF
  by_cases h1:op=1
  ·have h0:(ks.length:Int)=0:=h.1.none h1
   have:ks=[]:=Zap ω
   subst this
   subst h1
   simp[aQ]
  ·by_cases h2:op=2
   ·simp[h2]
   ·by_cases h7:op=7
    ·simp[h7]
    ·by_cases h8:op=8
     ·simp[h8]
     ·by_cases h3:op=3
      ·simp[h3,hl]
      ·by_cases h4:op=4
       ·simp[h4,ha]
       ·by_cases h5:op=5
        ·simp only[h5]
         simp only[show ¬((5:Int)=2) by decide,show ¬((5:Int)=7) by decide,show ¬((5:Int)=8) by decide,show ¬((5:Int)=3) by decide,show ¬((5:Int)=4) by decide,show ¬((5:Int)=6) by decide,Za0,Zbv,or_self]
         unfold IK
         rw[Zab,pH hl]
         split
         ·simp[hl];omega
         ·rw[pI hl];rfl
        ·have h6:op=6:=by
          have:=h.1.op h1
          simp only at this
          omega
         simp[h6,hl]
theorem nh:∀(l:List ah) (b:Nat),nf l->(bu l b).length=aQ l
 | [],b,_=>by simp[bu,aQ]
 | t::l,b,h=>by
  rw[nf] at h
  rw[bu,aQ,Zab,iR t b h.1,nh l _ h.2]
theorem lu:∀(l:List ah) (b e:Nat),nf l->(kj l b e).length=aQ l+2*(l.length-1)
 | [],b,e,_=>by simp[kj,aQ]
 | t::l,b,e,h=>by
  rw[nf] at h
  have h1:=λb=>iR t b h.1
  have h2:=λb=>lu l b e h.2
  rw[kj,aQ]
  cases l with
  | nil=>simp[h1,aQ]
  | cons u l=>
   simp only[List.isEmpty_cons,ZaE,Za0,Zae,Zab,h1,h2]
   omega
end
variable {b:Nat} {l:List ah} {p q:List aW}
theorem nf.mem (h:nf l) (a:b<l.length):ku (l.getD b bF):=by grind [qq]
theorem nf.take (h:nf l) (n:Nat):nf (l.take n):=by grind [qq]
theorem Ζ (h:nf l) (b e:Nat):(fH l b e).length=aQ l+2*l.length:=by
 induction l generalizing b with
 | nil=>simp[fH,aQ]
 | cons t l a=>
  grind [nf,fH,iR,aQ]
theorem IM (l:List ah) (t:ah) (b:Nat):bu (l++[t]) b=bu l b++bS t (b+aQ l):=by
 induction l generalizing b with
 | nil=>simp[bu,aQ]
 | cons a l c=>rw[Za1,bu,c,bu,aQ,ZaD,Za4]
theorem Ot (l:List ah) (t:ah) (b e:Nat):fH (l++[t]) b e=fH l b e++(⟨2,(b+(aQ l+2*l.length)+1:Nat),(b+(aQ l+2*l.length)+2+bt t:Nat),[]⟩::(bS t (b+(aQ l+2*l.length)+1)++[⟨3,e,0,[]⟩])):=by
 induction l generalizing b with
 | nil=>simp[fH,aQ]
 | cons a l c=>
  rw[Za1,fH,c,fH,aQ,Zae,Za1,ZaD,Za1,show b+2+bt a+(aQ l+2*l.length)=b+(bt a+aQ l+2*(l.length+1)) by omega]
theorem Ou (l:List ah) (t:ah) (b:Nat):jR (l++[t]) b=jR l b++[((b+(aQ l+2*l.length)+1+bt t:Nat):Int)]:=by
 induction l generalizing b with
 | nil=>simp[jR,aQ]
 | cons a l c=>
  rw[Za1,jR,c,jR,aQ,Zae,Za1,show b+2+bt a+(aQ l+2*l.length)=b+(bt a+aQ l+2*(l.length+1)) by omega]
theorem Fp (l:List ah) (b:Nat):(jR l b).length=l.length:=by
 induction l generalizing b with
 | nil=>rfl
 | cons a l c=>rw[jR,Zae,c,Zae]
theorem qu (l:List ah) (t:ah) (b e:Nat):kj (l++[t]) b e=fH l b e++bS t (b+(aQ l+2*l.length)):=by
 induction l generalizing b with
 | nil=>simp[kj,fH,aQ]
 | cons a l c=>
  grind [kj,fH,aQ,List.length_cons]
theorem Vr {x:aW} {e:Int} (a:p.length=b):ll e (p++x::q) (b:Int)=p++⟨x.op,e,x.y,x.bm⟩::q:=by
 grind [ll]
theorem sP {x:aW} {e:Int} {lz:Bool} (a:p.length=b):fx e lz (p++x::q) (b:Int)=p++⟨x.op,if lz=true then e else(b:Int)+1,if lz=true then(b:Int)+1 else e,x.bm⟩::q:=by
 grind [fx]
theorem iS (e:Int) (l:List aW) (j:Int):(ll e l j).length=l.length:=by grind [ll]
theorem ep (e:Int) (lz:Bool) (l:List aW) (j:Int):(fx e lz l j).length=l.length:=by grind [fx]
theorem Bj (e:Int):∀(a:List Int) (l:List aW),(a.foldl (ll e) l).length=l.length
 | [],l=>rfl
 | j::a,l=>by rw[Zb2,Bj e a,iS]
theorem Bk (e:Int) (lz:Bool):∀(a:List Int) (l:List aW),(a.foldl (fx e lz) l).length=l.length
 | [],l=>rfl
 | j::a,l=>by rw[Zb2,Bk e lz a,ep]
theorem CI {e:Nat}:∀(l:List ah) (p q:List aW) (b:Nat),nf l->p.length=b->(jR l b).foldl (ll e) (p++(fH l b 0++q))=p++(fH l b e++q)
 | [],p,q,b,_,_=>by rfl
 | t::l,p,q,b,h,hb=>by
  have h1:=iR t (b+1) h.1;rw[jR,fH,fH,Zb2];have a:p++((⟨2,(b+1:Nat),(b+2+bt t:Nat),[]⟩::(bS t (b+1)++⟨3,(0:Nat),0,[]⟩::fH l (b+2+bt t) 0))++q)=(p++(⟨2,(b+1:Nat),(b+2+bt t:Nat),[]⟩::bS t (b+1)))++(⟨3,(0:Nat),0,[]⟩::(fH l (b+2+bt t) 0++q)):=by simp
  rw[a,Vr (by grind)];have e2:∀x:aW,(p++(⟨2,(b+1:Nat),(b+2+bt t:Nat),[]⟩::bS t (b+1)))++(x::(fH l (b+2+bt t) 0++q))=((p++(⟨2,(b+1:Nat),(b+2+bt t:Nat),[]⟩::bS t (b+1)))++[x])++(fH l (b+2+bt t) 0++q):=λx=>by simp
  rw[e2,CI l _ q (b+2+bt t) h.2 (by simp;omega)];simp
theorem CJ {lz:Bool} {f:Nat->List aW} {sz:Nat} (c:∀e,(f e).length=sz):∀(n:Nat) (p:List aW) (e:Nat),p.length=e->(jL sz n e).foldl (fx b lz) (p++fp (λ_=>⟨2,0,0,[]⟩) f sz n e)=p++fp (λi=>hZ lz i b) f sz n e
 | 0,p,e,_=>by rfl
 | n+1,p,e,a=>by
  rw[jL,fp,fp,Zb2,sP a];have e2:∀x:aW,p++x::(f (e+1)++fp (λ_=>⟨2,0,0,[]⟩) f sz n (e+1+sz))=(p++x::f (e+1))++fp (λ_=>⟨2,0,0,[]⟩) f sz n (e+1+sz):=λx=>by simp
  rw[e2,CJ c n _ (e+1+sz) (by grind)];grind [hZ]
theorem QrC (y:eD×aW) (a:vu.pre y):Vm y:=by
 have h:y.1.af.length<=1000:=a;grind [Vm]
def Lu:Ok vu:=okZ [] f119 Qru trivial QrC
theorem CK {α:Type} {l:List α} {v d:α} (h:b<l.length):gt d (cS l b v) b=v:=by
 grind [cS]
theorem tT {α:Type} (l:List α) (i:Nat) (a b:α):cS (cS l i a) i b=cS l i b:=by grind [cS,List.set_set]
def QrD (y:eD×Int×Int×Bool) (f:Fc.pre y):Vn y:=by
 have⟨m,a,o,lz⟩:=y;obtain⟨h1,b,c⟩:m.af.length<=1000/\0<=a/\a<m.af.length:=f;have hi:a.toNat<m.af.length:=ω;unfold Vn;simp only[bC,fm,dA,au,ep,CK hi,tT];have e:ay .i64 a 1=a+1:=ba ω ω;have d:gt (aW.mk 0 0 0 []) m.af a.toNat=m.af.getD a.toNat in0:=rfl;refine⟨b,c,b,c,λh=>⟨b,c,b,c,?_⟩,λh=>?_⟩
 ·simp only[e,d,h,fx,Zbv];rfl
 ·simp only[e,d,h,fx,ZaE,Za0];rfl
def QcB:Ok Fc:=okZ [] f215 (λ_=>dY ()) trivial QrD
structure AtK (m:eD) (a:Nat) (t:ah):Prop where
 len:m.bz.length<=480
 nds:∀x∈m.bz,iO x
 wf:ku t
 fit:m.af.length+bt t<=400
 nd:∃r,m.bz.drop a=aD t++r
 sz:∃r,m.cF.drop a=jK t++r
 en:∃r,m.aS.drop a=qE t a++r
variable {a x:Nat} {Z:ah} {m:eD}
theorem ln.out {i:Int} (h:ln (m,i)):∃a:Nat,i=a/\AtK m a (eD.t (m,i)):=by
 have⟨h0,h1,b,t,c,d,⟨r,f⟩,g,j⟩:=h;obtain⟨a,rfl⟩:=Zau h0;have e:eD.t (m,(a:Int))=t:=by grind [eD.t,ki]
 exact⟨a,rfl,by rw[e];exact⟨h1,b,c,d,⟨r,f⟩,g,j⟩⟩
theorem AtK.t (h:AtK m a Z):eD.t (m,(a:Int))=Z:=by
 have⟨r,b⟩:=h.nd;exact ki h.wf b
def AtK.nda (h:AtK m a Z):ln (m,(a:Int)):=
 ⟨ω,h.len,h.nds,Z,h.wf,h.fit,by simp only[Zad];exact h.nd,by simp only[Zad];exact h.sz,by simp only[Zad];exact h.en⟩
def AtK.cod (h:AtK m a Z):ir (m,(a:Int))=m.af++bS Z m.af.length:=by
 unfold ir;rw[aC,h.t]
def fO (t:ah) (a x:Nat):Nat:=a+1+(aA (t.ae.take x)).length
theorem Bl (l:List ah) (x:Nat) (a:x<l.length):aQ l=aQ (l.take x)+bt (l.getD x bF)+aQ (l.drop (x+1)):=by
 grind [List.drop_eq_getElem_cons,List.take_append_drop,tS,aQ]
theorem yH {α:Type} {l:List α} {b:Nat} {u v w r:List α} (h:l.drop a=(u++(v++w))++r) (c:b=a+u.length):l.drop b=v++(w++r):=by
 subst c;rw[<-ZbZ,h];simp
theorem AtK.Vs (h:AtK m a Z) (b:x<Z.ae.length) (c:List aW) (d:c.length+bt (Z.ae.getD x bF)<=400):AtK ⟨c,m.bz,m.cF,m.aS⟩ (fO Z a x) (Z.ae.getD x bF):=by
 have⟨r,h1⟩:=h.nd;have⟨g,j⟩:=h.sz;have⟨i,k⟩:=h.en;have e:Z.ae=Z.ae.take x++(Z.ae.getD x bF::Z.ae.drop (x+1)):=by
  simp_all
 have hk:=wi h1 b;refine⟨h.len,h.nds,((iQ _).mp h.wf).2.2.mem b,d,⟨_,hk⟩,⟨fW (Z.ae.drop (x+1))++g,?_⟩,lf (Z.ae.drop (x+1)) (fO Z a x+(aD (Z.ae.getD x bF)).length)++i,?_⟩
 ·have f:jK Z=(eP (bt Z)::fW (Z.ae.take x))++(jK (Z.ae.getD x bF)++fW (Z.ae.drop (x+1))):=by
   grind [rB,sN,fW]
  grind [yH,fO,lg]
 ·have f:qE Z a=(((a+(aD Z).length:Nat):Int)::lf (Z.ae.take x) (a+1))++(qE (Z.ae.getD x bF) (fO Z a x)++lf (Z.ae.drop (x+1)) (fO Z a x+(aD (Z.ae.getD x bF)).length)):=by
   rw[II]
   conv=>lhs;rw[e]
   rw[yG,lf];rfl
  grind [yH,fO,pG]
theorem Bm (b:x<Z.ae.length):fO Z a (x+1)=fO Z a x+(aD (Z.ae.getD x bF)).length:=by
 grind [fO,cq,cG,aA]
theorem Lv {α:Type} {l r:List α} {x d:α} (h:l.drop a=x::r):a<l.length/\l.getD a d=x:=by
 grind [List.drop_of_length_le,List.drop_eq_getElem_cons]
theorem AtK.enx (h:AtK m a Z):a<m.aS.length/\m.aS.getD a 0=((a+(aD Z).length:Nat):Int):=by
 have⟨r,b⟩:=h.en;grind [II,Lv]
theorem AtK.ndx (h:AtK m a Z):a<m.bz.length/\gt (Nd.mk 0 [] 0 0 false 0 0) m.bz a=⟨Z.op,Z.r,Z.mn,Z.mx,Z.lz,Z.cap,Z.ae.length⟩:=by
 have⟨r,b⟩:=h.nd;grind [qt]
theorem AtK.num (h:AtK m a Z):a<=480/\Z.ae.length<=480:=by
 have⟨r,h1⟩:=h.nd;have b:=qt h1;have c:=h.len;have key:∀l:List ah,l.length<=(aA l).length:=λl=>by
  induction l with
  | nil=>simp
  | cons x l d=>simp only[aA,Zab,Zae];rw[bT];simp;omega
 grind [bT]
def Lw (h:AtK m a Z) (k:Nat):vv (m,(a:Int)) k=(fO Z a k:Nat):=by
 unfold vv fO;rw[aC,h.t];omega
theorem ky (t:ah) (a:Nat):fO t a 0=a+1:=by rfl
def Vt (h:a<Z.ae.length):2*dm (Z.ae.getD a bF)+1<2*dm Z:=by have:=iP h;omega
def AtK.go (h:AtK m a Z) (b:x<Z.ae.length) (c:List aW) (e:c.length+bt (Z.ae.getD x bF)<=400):
  ln (⟨c,m.bz,m.cF,m.aS⟩,(fO Z a x:Nat))/\eD.t (⟨c,m.bz,m.cF,m.aS⟩,(fO Z a x:Nat))=Z.ae.getD x bF/\ir (⟨c,m.bz,m.cF,m.aS⟩,(fO Z a x:Nat))=c++bS (Z.ae.getD x bF) c.length/\(bS (Z.ae.getD x bF) c.length).length=bt (Z.ae.getD x bF)/\(fO Z a x:Nat)<m.aS.length/\m.aS.getD (fO Z a x) 0=(fO Z a (x+1):Nat):=by
 have hk:=h.Vs b c e;have⟨d,e2⟩:=hk.enx;exact⟨hk.nda,hk.t,hk.cod,iR _ _ hk.wf,d,by rw[e2,Bm b]⟩
theorem QrG (y:vt) (l:IL.pre y):Vo y:=by
 have⟨m,i⟩:=y;obtain⟨a,rfl,h⟩:=ln.out l;have d:ln (m,(a:Int)):=l;have C:lk (cu (List.drop a m.bz)).1=eD.t (m,(a:Int)):=rfl;have z:=h.cod;have A:∀k,Fe (m,(a:Int)) k=m.af++bu ((eD.t (m,(a:Int))).ae.take k) m.af.length:=λk=>by grind [Fe,aC]
 have B:∀k,vv (m,(a:Int)) k=(fO (eD.t (m,(a:Int))) a k:Nat):=Lw h;unfold Vo Qfq Qfr;simp only[Zad,C,A,B,z];generalize eD.t (m,(a:Int))=t at*
 have⟨g1,g2⟩:=h.ndx;have⟨b1,I⟩:=h.num;rw[g2];have wf:=(iQ _).mp h.wf;have j:=h.fit;have f:=lq t m.af.length;have di:=size_eq t;unfold pF at di;have J:t.r.length<=1000000:=by
  have⟨r,h1⟩:=h.nd;have:(⟨t.op,t.r,t.mn,t.mx,t.lz,t.cap,t.ae.length⟩:Nd)∈m.bz:=Zc5 (i:=a) (by grind [bT]);exact h.nds _ this
 simp only[bL,bC,au,dq,br,Zad];refine⟨ω,ω,λE=>⟨ω,ω,?_⟩,λE=>⟨λG=>⟨ω,?_⟩,λG=>⟨λH=>⟨ω,?_⟩,λH=>⟨λF=>⟨⟨0,by grind [ky],rfl,by simp[bu],by simp[bu],Zaj _⟩,λx K=>⟨λe=>?_,λe=>?_⟩⟩,λF=>⟨λn=>⟨⟨d,n⟩,ω⟩,λn=>⟨λo=>⟨⟨d,o⟩,ω⟩,λo=>⟨λp=>?_,λp=>?_⟩⟩⟩⟩⟩⟩⟩
 ·grind
 ·grind
 ·grind
 ·have c:x<t.ae.length:=ω;have g:=Bl t.ae x c;have hl:=nh (t.ae.take x) m.af.length (wf.2.2.take x);have⟨c1,c2,c3,c4,c5,c6⟩:=h.go c (m.af++bu (t.ae.take x) m.af.length) (by grind);have b:lk (cu (List.drop (fO t a x) m.bz)).1=t.ae.getD x bF:=c2;have ht:=cq bF c;rw[b,c3];have hs:m.af++bu (t.ae.take x) m.af.length++bS (t.ae.getD x bF) (m.af++bu (t.ae.take x) m.af.length).length=m.af++bu (t.ae.take (x+1)) m.af.length:=by
   grind [IM]
  exact⟨⟨c1,by have:=Vt c;omega⟩,ω,ω,x+1,c6,bK ω,by rw[hs],hs,ω,ω⟩
 ·grind
 ·have⟨q,s,u⟩:=wf.1.vg p;have q:(t.ae.length:Int)=1:=q;have s:1<=t.cap:=s;have u:t.cap<=4:=u;have c:0<t.ae.length:=ω;have D:t.ae=[t.ae.getD 0 bF]:=by
   match hk:t.ae,(show t.ae.length=1 by omega) with
   | [k],_=>rfl
  have qX:aQ t.ae=bt (t.ae.getD 0 bF):=by grind [aQ]
  have e8:gG .i64 2 t.cap=2*t.cap:=xK ω ω;have w:ay .i64 (2*t.cap) 1=2*t.cap+1:=ba ω ω;have v:ay .i64 (a:Int) 1=(fO t a 0:Nat):=by grind [ky]
  simp only[e8,w,v,Zad];have⟨c1,c2,c3,c4,c5,c6⟩:=h.go c (m.af++[aW.mk 4 (2*t.cap) 0 []]) (by grind);have b:lk (cu (List.drop (fO t a 0) m.bz)).1=t.ae.getD 0 bF:=c2;rw[b,c3];have hs:m.af++[aW.mk 4 (2*t.cap) 0 []]++bS (t.ae.getD 0 bF) (m.af++[aW.mk 4 (2*t.cap) 0 []]).length++[aW.mk 4 (2*t.cap+1) 0 []]=m.af++bS t m.af.length:=by
   grind [bu]
  refine⟨ω,⟨c1,by have:=Vt c;omega⟩,?_,by rw[hs],hs⟩;grind
 ·grind
theorem QrH (y:vt) (hy:On.pre y):Vp y:=by
 have⟨m,i⟩:=y;obtain⟨B,F⟩:ln (m,i)/\(eD.t (m,i)).op=4:=hy;obtain⟨a,rfl,h⟩:=ln.out B;have T:lk (cu (List.drop a m.bz)).1=eD.t (m,(a:Int)):=rfl;have O:=h.cod;have Q:∀k,Ff (m,(a:Int)) k=m.af++fH ((eD.t (m,(a:Int))).ae.take k) m.af.length 0:=λk=>by grind [Ff,aC]
 have P:∀k,Fh (m,(a:Int)) k=jR ((eD.t (m,(a:Int))).ae.take k) m.af.length:=λk=>by grind [Fh,aC]
 have S:CG (m,(a:Int))=m.af++kj (eD.t (m,(a:Int))).ae m.af.length 0:=by unfold CG;rw[aC]
 have N:CH (m,(a:Int))=jR (eD.t (m,(a:Int))).ae.dropLast m.af.length:=by unfold CH;rw[aC]
 have U:∀j,Fi (m,(a:Int)) j=((CH (m,(a:Int))).take j).foldl (ll (ir (m,(a:Int))).length) (CG (m,(a:Int))):=λj=>by unfold Fi;rw[aC]
 have R:∀k,vv (m,(a:Int)) k=(fO (eD.t (m,(a:Int))) a k:Nat):=Lw h;unfold Vp;simp only[Zad,T,Q,P,U,R,O,S,N];generalize eD.t (m,(a:Int))=t at*
 have⟨g1,g2⟩:=h.ndx;have⟨b1,b2⟩:=h.num;rw[g2];have wf:=(iQ _).mp h.wf;have J:=h.fit;have o:=lq t m.af.length;rw[Zaa ω,Zaa ω,Zaa ω,Zaa ω,Zac F] at o;have di:=size_eq t;unfold pF at di;rw[Zaa ω,Zac F] at di;have X:2<=t.ae.length:=by have h:=wf.1.aH F;simp only at h;omega
 have g:t.ae=t.ae.dropLast++[t.ae.getD (t.ae.length-1) bF]:=by
  conv=>lhs;rw[<-ZaM (l:=t.ae),show t.ae.length=(t.ae.length-1)+1 by omega]
  grind [cq]
 have r:t.ae.take (t.ae.length-1)=t.ae.dropLast:=by grind
 have D:nf t.ae.dropLast:=by rw[<-r];exact wf.2.2.take _
 simp only[bL,bC,au,dq,br,Zad,aT,ZaX,ZaY,ZaZ];have A:ay .i64 (a:Int) 1=(fO t a 0:Nat):=by rw[ba ω ω,ky];rfl
 have K:cx .i64 (t.ae.length:Int) 1=((t.ae.length-1:Nat):Int):=A0 ω ω;refine⟨⟨ω,ω,⟨0,by rfl,A,rfl,by simp[fH],by simp[fH],ω⟩,λx hx=>⟨λe=>?_,λe=>ω⟩⟩,⟨0,rfl,by simp,rfl,Zaj _⟩,λj hj=>⟨λe=>?_,λe=>?_⟩⟩
 ·have d:x<t.ae.length:=ω;have H:=Bl t.ae x d;have hl:=Ζ (wf.2.2.take x) m.af.length 0;have s:(t.ae.take x).length=x:=by grind
  have c:(m.af++fH (t.ae.take x) m.af.length 0).length=m.af.length+(aQ (t.ae.take x)+2*x):=by grind
  refine⟨ω,ω,λel=>?_,λel=>?_⟩
  ·have E:x=t.ae.length-1:=ω;have⟨c1,c2,c3,c4,c5,c6⟩:=h.go d (m.af++fH (t.ae.take x) m.af.length 0) ω;have f:lk (cu (List.drop (fO t a x) m.bz)).1=t.ae.getD x bF:=c2;rw[f,c3];have hs:m.af++fH (t.ae.take x) m.af.length 0++bS (t.ae.getD x bF) (m.af++fH (t.ae.take x) m.af.length 0).length=m.af++kj t.ae m.af.length 0:=by
    conv=>rhs;rw[g,qu]
    rw[c,E,r,ZaD,show t.ae.dropLast.length=t.ae.length-1 by simp]
   exact⟨⟨c1,by have:=Vt d;omega⟩,by grind,by rw[hs],hs⟩
  ·have⟨c1,c2,c3,c4,c5,c6⟩:=h.go d (m.af++fH (t.ae.take x) m.af.length 0++[aW.mk 2 0 0 []]) (by grind);have f:lk (cu (List.drop (fO t a x) m.bz)).1=t.ae.getD x bF:=c2;rw[f,c3];have hs:fx (((m.af++fH (t.ae.take x) m.af.length 0++[aW.mk 2 0 0 []]++bS (t.ae.getD x bF) (m.af++fH (t.ae.take x) m.af.length 0++[aW.mk 2 0 0 []]).length++[aW.mk 3 0 0 []]).length:Nat):Int) false (m.af++fH (t.ae.take x) m.af.length 0++[aW.mk 2 0 0 []]++bS (t.ae.getD x bF) (m.af++fH (t.ae.take x) m.af.length 0++[aW.mk 2 0 0 []]).length++[aW.mk 3 0 0 []]) ((m.af++fH (t.ae.take x) m.af.length 0).length:Nat)=m.af++fH (t.ae.take (x+1)) m.af.length 0:=by
    rw[cq bF d,Ot,s];have M:∀(p:List aW) (u v:aW) (q:List aW),p++[u]++q++[v]=p++u::(q++[v]):=λp u v q=>by simp
    rw[M,sP rfl,ZaD,c];have z:(m.af++fH (t.ae.take x) m.af.length 0++[(aW.mk 2 0 0 []:aW)]).length=m.af.length+(aQ (t.ae.take x)+2*x)+1:=by grind
    rw[z];have n2:(m.af++(fH (t.ae.take x) m.af.length 0++(aW.mk 2 0 0 []:aW)::(bS (t.ae.getD x bF) (m.af.length+(aQ (t.ae.take x)+2*x)+1)++[aW.mk 3 0 0 []]))).length=m.af.length+(aQ (t.ae.take x)+2*x)+2+bt (t.ae.getD x bF):=by
     grind
    simp only[ZaD,n2];rfl
   have n3:(m.af++fH (t.ae.take x) m.af.length 0++[aW.mk 2 0 0 []]++bS (t.ae.getD x bF) (m.af++fH (t.ae.take x) m.af.length 0++[aW.mk 2 0 0 []]).length).length=m.af.length+(aQ (t.ae.take x)+2*x)+1+bt (t.ae.getD x bF):=by
    grind
   refine⟨ω,⟨c1,Vt d⟩,ω,?_,⟨?_,ω,?_⟩,ω,ω,x+1,?_,c6,bK ω,by rw[hs],hs,ω,ω⟩
   ·grind [Fp]
   ·grind
   ·grind
   ·rw[cq bF d,Ou,s,n3]
 ·have d:j<(jR t.ae.dropLast m.af.length).length:=ω;have L:(List.foldl (ll ((m.af++bS t m.af.length).length:Nat)) (m.af++kj t.ae m.af.length 0) ((jR t.ae.dropLast m.af.length).take j)).length=(m.af++bS t m.af.length).length:=by
   grind [Bj,lu]
  have Y:∀(l:List ah) (b:Nat) (v:Int),v∈jR l b->0<=v/\v<(b+aQ l+2*l.length:Nat):=λl=>by
   induction l with
   | nil=>intro b v w;cases w
   | cons u l ih=>
    intro b v w;rw[aQ,Zae];rcases List.mem_cons.mp w with w | w
    ·omega
    ·grind
  have V:(jR t.ae.dropLast m.af.length).getD j 0∈jR t.ae.dropLast m.af.length:=by grind
  have⟨v1,v2⟩:=Y _ _ _ V;have Z:aQ t.ae.dropLast<=aQ t.ae:=by
   grind [tS]
  have z:(m.af++bS t m.af.length).length=m.af.length+(aQ t.ae+2*(t.ae.length-1)):=by grind [lu]
  have I:t.ae.dropLast.length=t.ae.length-1:=by simp
  have C:∀(n:List Int) (l:List aW) (e:Int),n.take (j+1)=n.take j++[n.getD j 0]->List.foldl (ll e) l (n.take (j+1))=ll e (List.foldl (ll e) l (n.take j)) (n.getD j 0):=λn l e h=>by grind
  have G:=C _ (m.af++kj t.ae m.af.length 0) ((m.af++bS t m.af.length).length:Nat) (cq 0 d);have W:=Fp t.ae.dropLast m.af.length;rw[L];refine⟨ω,e,v1,ω,j+1,bK ω,?_,?_,ω,ω⟩
  ·rw[G,iS,L]
  ·rw[G];rfl
 ·have d:j=(jR t.ae.dropLast m.af.length).length:=ω;have hs:List.foldl (ll ((m.af++bS t m.af.length).length:Nat)) (m.af++kj t.ae m.af.length 0) (jR t.ae.dropLast m.af.length)=m.af++bS t m.af.length:=by
   have z:(m.af++bS t m.af.length).length=m.af.length+aQ t.ae+2*(t.ae.length-1):=by grind [lu]
   rw[z];have:=CI (e:=m.af.length+aQ t.ae+2*(t.ae.length-1)) t.ae.dropLast m.af (bS (t.ae.getD (t.ae.length-1) bF) (m.af.length+(aQ t.ae.dropLast+2*t.ae.dropLast.length))) m.af.length D rfl;grind [qu]
  grind
theorem AtK.QrI (h:AtK m a Z) (g:x<Z.ae.length):fO Z a x<m.cF.length/\m.cF.getD (fO Z a x) 0=eP (bt (Z.ae.getD x bF)):=by
 have⟨i,c⟩:=h.sz;have f:Z.ae=Z.ae.take x++(Z.ae.getD x bF::Z.ae.drop (x+1)):=by
  simp_all
 have d:jK Z=(eP (bt Z)::fW (Z.ae.take x))++(jK (Z.ae.getD x bF)++fW (Z.ae.drop (x+1))):=by
  grind [rB,sN,fW]
 rw[d] at c;have e:=yH (b:=fO Z a x) c (by grind [fO,lg]);grind [rB,Lv]
theorem QrJ (y:vt) (hy:Oo.pre y):Vq y:=by
 have⟨m,i⟩:=y;obtain⟨K,R⟩:ln (m,i)/\(eD.t (m,i)).op=5:=hy;obtain⟨a,rfl,h⟩:=ln.out K;have eT:lk (cu (List.drop a m.bz)).1=eD.t (m,(a:Int)):=rfl;have Z:=h.cod;have eK:∀k,sO (m,(a:Int)) k=m.af++iq (bu (eD.t (m,(a:Int))).ae) (aQ (eD.t (m,(a:Int))).ae) k m.af.length:=λk=>by grind [sO,aC]
 have Y:Oq (m,(a:Int))=(sO (m,(a:Int)) (eD.t (m,(a:Int))).mn.toNat).length:=by grind [Oq,aC]
 have eS:∀k,zL (m,(a:Int)) k=sO (m,(a:Int)) (eD.t (m,(a:Int))).mn.toNat++fp (λ_=>aW.mk 2 0 0 []) (bu (eD.t (m,(a:Int))).ae) (aQ (eD.t (m,(a:Int))).ae) k (Oq (m,(a:Int))):=λk=>by unfold zL;rw[aC]
 have eJ:∀k,vz (m,(a:Int)) k=jL (aQ (eD.t (m,(a:Int))).ae) k (Oq (m,(a:Int))):=λk=>by unfold vz;rw[aC]
 have eM:lK (m,(a:Int))=lj (eD.t (m,(a:Int))).mn (eD.t (m,(a:Int))).mx:=by unfold lK;rw[aC]
 have eX:∀j,Fj (m,(a:Int)) j=((vz (m,(a:Int)) (lK (m,(a:Int)))).take j).foldl (fx (ir (m,(a:Int))).length (eD.t (m,(a:Int))).lz) (zL (m,(a:Int)) (lK (m,(a:Int)))):=λj=>by unfold Fj;rw[aC]
 unfold Vq;simp only[Zad,eT,eX,Z,eJ,eS,Y,eM,eK];generalize eD.t (m,(a:Int))=t at*
 have⟨g1,g2⟩:=h.ndx;have⟨b1,b2⟩:=h.num;rw[g2];have wf:=(iQ _).mp h.wf;have T:=h.fit;have d:=lq t m.af.length;rw[Zaa ω,Zaa ω,Zaa ω,Zaa ω,Zaa ω,Zac R] at d;unfold IK at d;have di:=size_eq t;unfold pF at di;rw[Zaa ω,Zaa ω,Zaa ω,Zac R] at di;have⟨V,W,X,w4⟩:=wf.1.rep R;have V:(t.ae.length:Int)=1:=V;have W:0<=t.mn:=W;have X:t.mn<=30:=X;have w4:t.mx= -1\/(t.mn<=t.mx/\t.mx<=30):=w4;have B:0<t.ae.length:=ω;have hks:t.ae=[t.ae.getD 0 bF]:=by
  match hk:t.ae,(show t.ae.length=1 by omega) with
  | [k],_=>rfl
 have qX:aQ t.ae=bt (t.ae.getD 0 bF):=by grind [aQ]
 have hcl:∀b,bu t.ae b=bS (t.ae.getD 0 bF) b:=λb=>by grind [bu]
 have f:∀b,(bu t.ae b).length=aQ t.ae:=λb=>nh _ b wf.2.2
 have hrl:=λn=>pH f n m.af.length
 have I:ay .i64 (a:Int) 1=(fO t a 0:Nat):=by grind [ky]
 have⟨s1,U⟩:=h.QrI B;rw[<-qX] at U;have L:(t.ae.length:Int)=t.nk:=wf.2.1.symm;have hk1:=ky t a;have s:=Vt B;have hN:t.mn=(t.mn.toNat:Int):=ω
 
 have go:∀c:List aW,c.length+aQ t.ae<=400->ln (⟨c,m.bz,m.cF,m.aS⟩,(fO t a 0:Nat))/\ir (⟨c,m.bz,m.cF,m.aS⟩,(fO t a 0:Nat))=c++bu t.ae c.length:=λc r=>by
  rw[qX] at r;have⟨c1,c2,c3,c4,c5,c6⟩:=h.go B c r;grind
 have c2:∀c:List aW,c.length+aQ t.ae<=400->lk (cu (List.drop (fO t a 0) m.bz)).1=t.ae.getD 0 bF:=λc r=>by
  rw[qX] at r;exact(h.go B c r).2.1
 simp only[bL,bC,I,au,dq,br,Zad,aT,ZaX,ZaY,ZaZ,L,U];generalize aQ t.ae=sz at*
 generalize hNn:t.mn.toNat=N at*
 refine⟨ω,ω,⟨ω,ω,λe=>⟨⟨0,rfl,by simp[iq],by simp[iq],Zaj _⟩,λx hx=>⟨λE=>?_,λE=>?_⟩⟩,λe=>?_⟩,λem=>?_,λem=>?_⟩
 ·have o:x+1<=N:=ω;have hle:x*sz+sz<=N*sz:=by rw[<-ZaV];exact Zbc _ o
  have H:m.af.length+N*sz<=400:=by grind
  have C:(m.af++iq (bu t.ae) sz x m.af.length).length=m.af.length+x*sz:=by grind
  have⟨z,A⟩:=go (m.af++iq (bu t.ae) sz x m.af.length) ω;have hs:m.af++iq (bu t.ae) sz x m.af.length++bu t.ae (m.af++iq (bu t.ae) sz x m.af.length).length=m.af++iq (bu t.ae) sz (x+1) m.af.length:=by
   grind [Bg]
  grind [bK]
 ·grind
 ·have hz:sz=0:=by unfold eP at e;omega
  grind
 ·rw[Zac em] at di d;have C:(m.af++iq (bu t.ae) sz N m.af.length).length=m.af.length+N*sz:=by grind
  have F:m.af++bS t m.af.length=(m.af++iq (bu t.ae) sz N m.af.length)++hZ t.lz (m.af.length+N*sz) (m.af.length+N*sz+sz+2)::(bu t.ae (m.af.length+N*sz+1)++[⟨3,(m.af.length+N*sz:Nat),0,[]⟩]):=by
   grind
  rw[F,<-C];generalize m.af++iq (bu t.ae) sz N m.af.length=c0 at*
  have⟨z,A⟩:=go (c0++[aW.mk 2 0 0 []]) (by grind);have D:=c2 (c0++[aW.mk 2 0 0 []]) (by grind);have P:(c0++[aW.mk 2 0 0 []]).length=c0.length+1:=by simp
  rw[D,A,P];have Q:(c0++[aW.mk 2 0 0 []]++bu t.ae (c0.length+1)++[aW.mk 3 c0.length 0 []]).length=c0.length+sz+2:=by grind
  have hs:fx ((c0++[aW.mk 2 0 0 []]++bu t.ae (c0.length+1)++[aW.mk 3 c0.length 0 []]).length:Nat) t.lz (c0++[aW.mk 2 0 0 []]++bu t.ae (c0.length+1)++[aW.mk 3 c0.length 0 []]) (c0.length:Nat)=c0++hZ t.lz c0.length (c0.length+sz+2)::(bu t.ae (c0.length+1)++[aW.mk 3 c0.length 0 []]):=by
   rw[Q];have E:∀(p:List aW) (u v:aW) (q:List aW),p++[u]++q++[v]=p++u::(q++[v]):=λp u v q=>by simp
   rw[E,sP rfl];unfold hZ;cases t.lz<;>simp
  have n4:(c0++[aW.mk 2 0 0 []]++bu t.ae (c0.length+1)).length=c0.length+sz+1:=by grind
  exact⟨ω,⟨z,s⟩,ω,⟨ω,ω,ω⟩,by rw[hs],hs⟩
 ·rw[Zaa em] at di d;have C:(m.af++iq (bu t.ae) sz N m.af.length).length=m.af.length+N*sz:=by grind
  have F:m.af++bS t m.af.length=(m.af++iq (bu t.ae) sz N m.af.length)++fp (λi=>hZ t.lz i (m.af.length+N*sz+lj t.mn t.mx*(sz+1))) (bu t.ae) sz (lj t.mn t.mx) (m.af.length+N*sz):=by
   grind
  have hM:cx .i64 t.mx t.mn=((lj t.mn t.mx:Nat):Int):=by
   grind [lj]
  have G:t.mx.toNat-N=lj t.mn t.mx:=by unfold lj;omega
  have hMb:lj t.mn t.mx<=30:=ω;rw[G] at di;rw[F,hM,<-C];generalize lj t.mn t.mx=M at*
  generalize m.af++iq (bu t.ae) sz N m.af.length=c0 at*
  have O:∀(g:Nat->aW) (k:Nat),(fp g (bu t.ae) sz k c0.length).length=k*(sz+1):=λg k=>pI f k _
  have J:∀k,(jL sz k c0.length).length=k:=λk=>Fl k _
  refine⟨⟨0,by rfl,rfl,by simp[fp],by simp[fp],Zaj _⟩,λx hx=>⟨λe=>?_,λe=>⟨⟨0,?_,rfl,?_,?_,Zaj _⟩,λj hj=>⟨λe2=>?_,λe2=>?_⟩⟩⟩⟩
  ·have o:x+1<=M:=ω;have hle:x*(sz+1)+(sz+1)<=M*(sz+1):=by rw[<-ZaV];exact Zbc _ o
   have P:(c0++fp (λ_=>aW.mk 2 0 0 []) (bu t.ae) sz x c0.length).length=c0.length+x*(sz+1):=by grind
   have Q:(c0++fp (λ_=>aW.mk 2 0 0 []) (bu t.ae) sz x c0.length++[aW.mk 2 0 0 []]).length=c0.length+x*(sz+1)+1:=by grind
   have⟨z,A⟩:=go (c0++fp (λ_=>aW.mk 2 0 0 []) (bu t.ae) sz x c0.length++[aW.mk 2 0 0 []]) ω;have D:=c2 (c0++fp (λ_=>aW.mk 2 0 0 []) (bu t.ae) sz x c0.length++[aW.mk 2 0 0 []]) ω;have hs:c0++fp (λ_=>aW.mk 2 0 0 []) (bu t.ae) sz x c0.length++[aW.mk 2 0 0 []]++bu t.ae (c0++fp (λ_=>aW.mk 2 0 0 []) (bu t.ae) sz x c0.length++[aW.mk 2 0 0 []]).length=c0++fp (λ_=>aW.mk 2 0 0 []) (bu t.ae) sz (x+1) c0.length:=by
    rw[Bh,Q];simp
   rw[D,A];refine⟨ω,?_,⟨z,s⟩,x+1,?_,bK ω,by rw[hs],hs,ω,ω⟩
   ·grind
   ·rw[Bi,P]
  ·grind
  ·grind
  ·grind
  ·have w:x=M:=ω;subst w;rw[J] at e2;have e3:j<(jL sz x c0.length).length:=by grind
   have n0:(List.foldl (fx ((c0++fp (λi=>hZ t.lz i (c0.length+x*(sz+1))) (bu t.ae) sz x c0.length).length:Nat) t.lz) (c0++fp (λ_=>aW.mk 2 0 0 []) (bu t.ae) sz x c0.length) ((jL sz x c0.length).take j)).length=c0.length+x*(sz+1):=by grind [Bk]
   have n5:(c0++fp (λi=>hZ t.lz i (c0.length+x*(sz+1))) (bu t.ae) sz x c0.length).length=c0.length+x*(sz+1):=by grind
   have hp:∀(k b:Nat) (v:Int),v∈jL sz k b->0<=v/\v<(b+k*(sz+1):Nat):=λk=>by
    induction k with
    | zero=>intro b v hv;cases hv
    | succ k ih=>
     grind [jL]
   have⟨v1,v2⟩:=hp _ _ _ (show(jL sz x c0.length).getD j 0∈jL sz x c0.length by grind);have S:∀(l:List aW) (e:Int),List.foldl (fx e t.lz) l ((jL sz x c0.length).take (j+1))=fx e t.lz (List.foldl (fx e t.lz) l ((jL sz x c0.length).take j)) ((jL sz x c0.length).getD j 0):=λl e=>by grind [cq]
   rw[n0];rw[n5] at*
   refine⟨ω,ω,⟨ω,v1,v2⟩,j+1,bK ω,?_,?_,ω,ω⟩
   ·rw[S,ep]
   ·rw[S]
  ·have w:x=M:=ω;have hs:List.foldl (fx ((c0++fp (λi=>hZ t.lz i (c0.length+j*(sz+1))) (bu t.ae) sz j c0.length).length:Nat) t.lz) (c0++fp (λ_=>aW.mk 2 0 0 []) (bu t.ae) sz j c0.length) ((jL sz j c0.length).take j)=c0++fp (λi=>hZ t.lz i (c0.length+j*(sz+1))) (bu t.ae) sz j c0.length:=by
    rw[ZaA (by grind),Zab,O];exact CJ f j c0 c0.length rfl
   grind
def rC (l:List Nd):ah:=lk (cu l).1
def qF (t:ah) (r b:Nat):List aW:=⟨4,0,0,[]⟩::(bS t (b+1)++[⟨4,1,0,[]⟩,⟨7,r,0,[]⟩])
def ni:List (List Nd)->Nat->List aW->List Int->(List aW×List Int)×Int×Int
 | [],_,c,s=>((c,s),0,0)
 | l::ls,r,c,s=>if dS l=false then(([],[]),1,r) else if 400<c.length+bt (rC l)+3 then(([],[]),12,r) else ni ls (r+1) (c++qF (rC l) r c.length) (s++[(c.length:Int)])
def IN (y:List (List Nd)):(List aW×List Int)×Int×Int:=if 8<y.length then(([],[]),13,8) else ni y 0 [] []
def bZ (y:List (List Nd)):(List aW×List Int)×Int×Int:=lk (IN y)
def Qj9 (args:List (AV D.E)) (s:St D.E):C (List (List Nd)):=match args with
 | [a]=>az (aL D s 9 a) λl=>.ret (l:List (List Nd))
 | _=>.fail
def pJ (y:List (List Nd)):Prop:=y.length<=1000000/\∀l∈y,∀x∈l,iO x
def IP:bh D:=bO 76 (List (List Nd)) Qj9 pJ (λy=>[.list 9 y]) λy=>.tuple [.agg [.list 8 (bZ y).1.1,.list 5 (bZ y).1.2],Qvo (bZ y).2.1,Qvo (bZ y).2.2]
structure CmX where
 c:List aW
 s:List Int
 n:List Nd
 z:List Int
 e:List Int
 r:Nat
def Η (y:List (List Nd)) (x:CmX):Prop:=x.r<=y.length/\y.length<=8/\x.c.length<=400/\x.s.length=x.r/\ni (y.drop x.r) x.r x.c x.s=bZ y
def QrK (y:IP.Y):cH D:=⟨[],[],[(250,⟨CmX,[15,16],λx=>[(2,.ptr 0 0),(3,.num .i64 0),(4,.num .i64 0),(5,.ptr 1 0),(6,.grow 5 x.s 3),(17,Qvo x.r)],[],λx=>[(0,.cells [.dF,.dF] 88 false),(1,.cells [.own 2 4 (ag x.c),.list 7 x.n,.list 5 x.z,.list 5 x.e] 197 false),(2,.arr 8 x.c 203 false),(3,.tok 5 3)],4,Η y,λx=>y.length-x.r⟩)],[],1,[]⟩
def Vu (y:List (List Nd)):Prop:=let k:=(bZ y).2.2;let q1:=(bZ y).2.1;aj (aw 8 (ag y)) ([]=(bZ y).1.1/\[]=(bZ y).1.2/\13=q1/\8=k/\True) ((∃z:CmX,aa [y] (aa [ag y] ([]=z.s/\0=((z.r:Nat):Int)/\0=ag z.c/\[]=z.n/\[]=z.z/\[]=z.e/\[]=z.c/\(Iv (Η y z)))))/\(∀x:CmX,let f:=((x.r:Nat):Int);let d:=gt [] y f.toNat;let g:=ag d;let o:=bM x.s [(x.c.length:Int)];let i:=oF g 0;let b:=nw.mk d i 0;let t:=ag (x.c++[aW.mk 4 0 0 []]);let q:=gt 0 (F7 b) 0;let l:=aw 400 (ay .i64 (ay .i64 (ag x.c) q) 3);let h:=(eD.mk (x.c++[aW.mk 4 0 0 []]) d (F7 b) (IG b),(0:Int));let a:=ir h;let m:=ag (a++[aW.mk 4 1 0 []]);let j:=λp:Prop=>aa [d] (aa ([ag i,0]:List Int) (aa [i] p));(Iv (Η y x))->aj (aw f (ag y)) (aG 0 f/\aw f (ag y)/\Iv (cE d)/\aa [d] (aj (!(dS d)) ([]=(bZ y).1.1/\[]=(bZ y).1.2/\1=q1/\f=k/\True) (aG 0 g/\aG g g/\bJ g 8/\aG 0 g/\aG g g/\bJ g 8/\Iv (Om b)/\j (Iv (Om b)/\j (Tt 1 (aw 0 (ag i)/\aa [ag x.c,ag i,q] (aj l ([]=(bZ y).1.1/\[]=(bZ y).1.2/\12=q1/\f=k/\True) (Iv (x.c.length<=1000)/\aa ([4,0,0]:List Int) (aa ([[]]:List (List (Int×Int))) (aa [ag x.c] (aa [d] (aa [F7 b,IG b] (aa [x.c] (bJ (ag o) 8/\Iv (ln h)/\aa ([0,t]:List Int) (aa [d] (aa [F7 b,IG b] (aa [x.c++[aW.mk 4 0 0 []]] (Iv (a.length<=1000)/\aa ([4,1,0]:List Int) (aa ([[]]:List (List (Int×Int))) (aa [ag a] (aa [d] (aa [F7 b,IG b] (aa [a] (Iv ((a++[aW.mk 4 1 0 []]).length<=1000)/\aa ([7,f,0]:List Int) (aa ([[]]:List (List (Int×Int))) (aa [m] (aa [d] (aa [F7 b,IG b] (aa [a++[aW.mk 4 1 0 []]] (∃z:CmX,aa [y] (aa [ag y] (o=z.s/\ay .i64 f 1=((z.r:Nat):Int)/\ag ((a++[aW.mk 4 1 0 []])++[aW.mk 7 f 0 []])=ag z.c/\d=z.n/\F7 b=z.z/\IG b=z.e/\((a++[aW.mk 4 1 0 []])++[aW.mk 7 f 0 []])=z.c/\(Iv (Η y z/\(y.length-z.r)<(y.length-x.r))))))))))))))))))))))))))))))))))) (x.c=(bZ y).1.1/\x.s=(bZ y).1.2/\0=q1/\0=k/\True)))
inductive Fk where
 | n | a | r
noncomputable section
def fkC:Fk->bh D
 | .n=>IL | .a=>On | .r=>Oo
def QrM:∀i,(fkC i).Y->Nat
 | .n=>λy=>2*dm (eD.t y)+1 | .a=>λy=>2*dm (eD.t y) | .r=>λy=>2*dm (eD.t y)
def fkF:Fk->Func
 | .n=>f120 | .a=>f177 | .r=>f178
def Qkb:Fk->s7
 | .n=>[vu] | .a=>[vu,Fc] | .r=>[vu,Fc]
def fkO:∀i,(fkC i).Y->cH D
 | .n=>Qj6 | .a=>Qj7 | .r=>Qj8
def QrN:∀i,Ok (fkC i):=
 xH [.n,.a,.r] fkC QrM (fn:=fkF) (tab:=Qkb) (fI:=fkO)
  (λi=>match i with
   | .n=>Lu | .a=>⟨Lu,QcB⟩ | .r=>⟨Lu,QcB⟩)
  (λi=>match i with
   | .n=>by kernel_rfl | .a=>by kernel_rfl | .r=>by kernel_rfl)
  (λi=>match i with
   | .n=>by kernel_rfl | .a=>by kernel_rfl | .r=>by kernel_rfl)
  λi=>match i with
   | .n=>λy b=>Eq.mp (Α y) (QrG y b) | .a=>λy b=>Eq.mp (Β y) (QrH y b) | .r=>λy b=>Eq.mp (Ε y) (QrJ y b)
end
theorem QrO (y:List (List Nd)) (J:IP.pre y):Vu y:=by
 obtain⟨h1,v⟩:y.length<=1000000/\∀l∈y,∀x∈l,iO x:=J;have i:bZ y=IN y:=by grind [bZ,aC]
 unfold Vu;simp only[bL,bC,au,dq,br,Zad,aT,Zan,Zao,Zah,ZaQ,ZaF];unfold IN at i;refine⟨λe=>?_,λe=>?_⟩
 ·grind
 ·rw[Zaa ω] at i;refine⟨⟨⟨[],[],[],[],[],0⟩,rfl,rfl,rfl,rfl,rfl,rfl,rfl,Zaj _,ω,Zaj _,rfl,i.symm⟩,λx I=>?_⟩;obtain⟨c,s,n,z,en,r⟩:=x;obtain⟨i1,i2,i3,i4,i5⟩:=I;simp only at i1 i3 i4 i5 ⊢;refine⟨λe2=>?_,λe2=>?_⟩
  ·have M:r<y.length:=ω;have D:y.drop r=y.getD r []::y.drop (r+1):=by simp_all
   have d:cE (y.getD r []):=v _ (by grind);rw[D,ni] at i5;generalize y.getD r []=l at*
   refine⟨e2,d,λq=>?_,λq=>?_⟩
   ·grind
   ·rw[Zaa (by grind)] at i5;obtain⟨t,h,L,u⟩:=jl q;have ht:rC l=t:=by
     have:=ki (a:=0) (r:=[]) h (show l.drop 0=aD t++[] by grind);assumption
    have f:(oF (l.length:Int) (0:Int)).length=l.length:=by simp[oF]
    have g:Om ⟨l,oF (l.length:Int) 0,0⟩:=⟨ZaQ _,f,u,t,[],h,by grind⟩;have K:nw.t ⟨l,oF (l.length:Int) 0,0⟩=t:=by assumption
    have H:∀s:List Int,s.length=l.length->kx (oF (l.length:Int) 0) 0 s=s:=λs hs=>by
     grind [kx]
    have F:(aD t).length=l.length:=by rw[L]
    have di:F7 ⟨l,oF (l.length:Int) 0,0⟩=jK t:=by grind [F7,aC,Fa]
    have j:IG ⟨l,oF (l.length:Int) 0,0⟩=qE t 0:=by grind [IG,aC,Fb]
    have p:0<l.length:=by grind [sM]
    have k:(jK t).getD 0 0=eP (bt t):=by rw[rB];rfl
    rw[ht] at i5;rw[di,j,k,f];have B:=IJ (bt t);rw[ba (a:=(c.length:Int)) (b:=eP (bt t)) ω ω,ba ω ω];have o:eP (bt t)=min (bt t:Int) 401:=rfl;refine⟨ω,ω,g,g,ω,λA=>?_,λA=>?_⟩
    ·grind
    ·rw[Zaa ω] at i5;have m:AtK ⟨c++[aW.mk 4 0 0 []],l,jK t,qE t 0⟩ 0 t:=⟨u,d,h,by grind,⟨[],by grind⟩,⟨[],by simp⟩,⟨[],by simp⟩⟩;have w:ir (⟨c++[aW.mk 4 0 0 []],l,jK t,qE t 0⟩,(0:Int))=c++[aW.mk 4 0 0 []]++bS t (c++[aW.mk 4 0 0 []]).length:=m.cod;have G:ln (⟨c++[aW.mk 4 0 0 []],l,jK t,qE t 0⟩,(0:Int)):=m.nda;have C:=iR t (c++[aW.mk 4 0 0 []]).length h;rw[w];have hs:c++[aW.mk 4 0 0 []]++bS t (c++[aW.mk 4 0 0 []]).length++[aW.mk 4 1 0 []]++[aW.mk 7 r 0 []]=c++qF t r c.length:=by
      unfold qF;simp
     have E:(c++qF t r c.length).length=c.length+bt t+3:=by
      grind
     refine⟨ω,by grind,G,?_,?_,⟨c++qF t r c.length,s++[(c.length:Int)],l,jK t,qE t 0,r+1⟩,rfl,bK ω,by rw[hs],rfl,rfl,rfl,hs,⟨show r+1<=y.length by omega,i2,show(c++qF t r c.length).length<=400 by omega,by simp[i4],i5⟩,show y.length-(r+1)<y.length-r by omega⟩
     ·grind
     ·grind
  ·grind [ni]
def Qkc (a:Ok dB):Ok IP:=okZ [Ie,szC,enC,vu,IL] f76 QrK ⟨Qck a,Qrs,Qrt,Lu,QrN .n⟩ QrO
def nmB (c:UInt8):Bool:=(97<=c.toNat&&c.toNat<=122)||(65<=c.toNat&&c.toNat<=90)||(48<=c.toNat&&c.toNat<=57)||c.toNat==45||c.toNat==95||c.toNat==46
def iZ (s:By):Bool:=decide (s≠[])&&decide (s.length<=32)&&s.all nmB
def IQ:bh D:=bO 111 By (λa _=>Y5 a) (λ_=>True) (λy=>[.str y]) λy=>.bool (iZ y)
def vA (y:By) (i:Nat):Prop:=i<=y.length/\∀j,j<i->nmB (y.getD j 0)
def QrP (y:IQ.Y):cH D:=⟨[],[],[(58,⟨Nat,[0,14],λi=>[(15,Qvo i)],[],λ_=>[],0,vA y,λi=>y.length-i⟩)],[],1,[]⟩
def Ov:bh D:=bO 78 By (λa _=>Y5 a) (λ_=>True) (λy=>[.str y]) λy=>.bool (iZ y)
def QrR (y:Ov.Y):cH D:=⟨[],[],[(58,⟨Nat,[0],λi=>[(3,Qvo i)],[],λ_=>[],0,vA y,λi=>y.length-i⟩)],[],1,[]⟩
def CL (l:List Row):Prop:=l.Pairwise λa b=>a.k<b.k
def IS:Row:=⟨[],0⟩
def lL (l:List Row) (k:By):Nat:=l.findIdx λr=>!decide (r.k<k)
def jM (l:List Row) (k:By):Bool:=l.any λr=>decide (r.k=k)
def rD (l:List Row) (k:By) (v:Int):List Row:=if jM l k=true then l.set (lL l k) ⟨(l.getD (lL l k) IS).k,v⟩ else l.take (lL l k)++⟨k,v⟩::l.drop (lL l k)
structure XJ where
 l:List Row
 k:By
 v:Int
def tbO (n:Nat) (l:List Row):List (Nat×AO D.E):=[(0,.cells [.own n 2 (ag l)] 271 false),(n,.arr 16 l 275 false)]
def Qft (v:AV D.E) (s:St D.E):C (List Row):=match v with
 | .ptr b _=>az (cR (s.h.get b)) λo=>match o with
  | .cells cs _ _=>match cs with
   | [c]=>az (aL D s 16 c) λc=>.ret (c:List Row)
   | _=>.fail
  | _=>.fail
 | _=>.fail
def TbP (y:XJ):Prop:=CL y.l/\y.l.length<=1000
def Ow:bh D:=⟨171,XJ,λa s=>match a with
 | [p,k]=>az (Qft p s) λl=>az (fY k) λk=>.ret ⟨l,k,0⟩
 | _=>.fail,TbP,λy=>[.ptr 0 0,.str y.k],λy=>tbO 1 y.l,λy=>.tuple [Qvo (lL y.l y.k),.bool (jM y.l y.k)],λy=>tbO 1 y.l,2,2⟩
def Vv (y:XJ) (x:Nat×Nat):Prop:=x.1<=x.2/\x.2<=y.l.length/\(∀j,j<x.1->(y.l.getD j IS).k<y.k)/\∀j,x.2<=j->j<y.l.length->¬(y.l.getD j IS).k<y.k
def QrT (y:Ow.Y):cH D:=⟨[],[],[(28,⟨Nat×Nat,[0,1],λx=>[(6,Qvo x.1),(7,Qvo x.2)],[],λ_=>tbO 1 y.l,2,Vv y,λx=>x.2-x.1⟩)],[],1,[]⟩
def IT:bh D:=⟨112,XJ,λa s=>match a with
 | [p,k,v]=>az (Qft p s) λl=>az (fY k) λk=>aP (cT v) λ_ v=>.ret ⟨l,k,v⟩
 | _=>.fail,TbP,λy=>[.ptr 0 0,.str y.k,Qvo y.v],λy=>tbO 1 y.l,λy=>.bool (!jM y.l y.k),λy=>tbO 2 (rD y.l y.k y.v),2,3⟩
def Vw:bh D:=⟨110,Unit,λ_ _=>.ret (),λ_=>True,λ_=>[],λ_=>[],λ_=>.ptr 0 0,λ_=>[(0,.cells [.own 1 2 0] 271 false),(1,.arr 16 [] 275 false)],0,2⟩
structure cj where
 r:List iX
 c:By
variable {y:By} {x:Nat} {l:List Row}
def Lx (a:List (AV D.E)) (s:St D.E):C cj:=match a with
 | [x]=>az (asAgg x) λcs=>match cs with
  | [r,c]=>az (aL D s 3 r) λr=>az (fY c) λc=>.ret ⟨r,c⟩
  | _=>.fail
 | _=>.fail
def CM (y:cj):AV D.E:=.agg [.list 3 y.r,.str y.c]
def Vx:bh D:=bO 74 cj Lx (λy=>y.r.length<=1000) (λy=>[CM y]) CM
def Vy (y:List UInt8):Prop:=let c:=y.length;let h:=λp:Prop=>RAI y (dD y) p;aj (seq y []) (false=iZ y/\True) (aj (aw 32 (dD y)) (false=iZ y/\True) ((∃z:Nat,h (0=(z:Int)/\(Iv (vA y z))))/\(∀x:Nat,let a:=sat y (x:Int);let d:=aw (x:Int) (dD y);let b:Prop:=(∃z:Nat,h (ay .i64 (x:Int) 1=(z:Int)/\(Iv (vA y z/\(c-z)<(c-x)))));let e:Prop:=(aj (aB a 45) (b) (aj (aB a 95) (b) (aj (!(aB a 46)) (false=iZ y/\True) (b))));let f:Prop:=(aj (aG 48 a) (aj (aG a 57) (b) (e)) (e));let g:Prop:=(aj (aG 65 a) (aj (aG a 90) (b) (f)) (f));(Iv (vA y x))->aj d (aG 0 (x:Int)/\d/\aj (aG 97 a) (aj (aG a 122) (b) (g)) (g)) (true=iZ y/\True))))
def Vz (y:List UInt8):Prop:=let c:=y.length;let h:=λp:Prop=>RAH y p;aj (seq y []) (false=iZ y/\True) (aj (aw 32 (dD y)) (false=iZ y/\True) ((∃z:Nat,h (0=(z:Int)/\(Iv (vA y z))))/\(∀x:Nat,let a:=sat y (x:Int);let d:=aw (x:Int) (dD y);let b:Prop:=(∃z:Nat,h (ay .i64 (x:Int) 1=(z:Int)/\(Iv (vA y z/\(c-z)<(c-x)))));let e:Prop:=(aj (!(aB a 45)) (aj (!(aB a 95)) (aj (!(aB a 46)) (false=iZ y/\True) (b)) (b)) (b));let f:Prop:=(aj (aw a 48) (e) (aj (aw 57 a) (e) (b)));let g:Prop:=(aj (aw a 65) (f) (aj (aw 90 a) (f) (b)));(Iv (vA y x))->aj d (aG 0 (x:Int)/\d/\aj (aw a 97) (g) (aj (aw 122 a) (g) (b))) (true=iZ y/\True))))
def VA (y:XJ):Prop:=let b:=ag y.l;let d:=λp:Prop=>RAI b y.l p;RAH b ((∃z:Nat×Nat,aa [y.k] (0=(z.1:Int)/\b=(z.2:Int)/\d ((Iv (Vv y z)))))/\(∀x:Nat×Nat,let a:=(x.1:Int);let e:=(x.2:Int);let c:=XT .i64 (ay .i64 a e) 2;let f:=slt (gt (Row.mk [] 0) y.l c.toNat).k y.k;(Iv (Vv y x))->aj (aw a e) (Tt 1 (aG 0 c/\aw c b/\aj f (∃z:Nat×Nat,aa [y.k] (ay .i64 c 1=(z.1:Int)/\e=(z.2:Int)/\d ((Iv (Vv y z/\(z.2-z.1)<(x.2-x.1)))))) (∃z:Nat×Nat,aa [y.k] (a=(z.1:Int)/\c=(z.2:Int)/\d ((Iv (Vv y z/\(z.2-z.1)<(x.2-x.1)))))))) (aj (aw a b) (aG 0 a/\aw a b/\aa [b,b] (aa [(gt (Row.mk [] 0) y.l a.toNat).k] (a=((lL y.l y.k:Nat):Int)/\seq (gt (Row.mk [] 0) y.l a.toNat).k y.k=jM y.l y.k/\d (True)))) (aa [b] (a=((lL y.l y.k:Nat):Int)/\false=jM y.l y.k/\d (True))))))
def QcC (y:Unit):Prop:=(0:Int)=(0:Int)/\aa ([[]]:List (List Row)) (True)
def QcD (y:cj):Prop:=bJ (ag y.r) 32/\aa [y.r] (aa [y.c] (True))
theorem Ly (c:UInt8):nmB c↔(97<=c.toNat/\c.toNat<=122)\/(65<=c.toNat/\c.toNat<=90)\/(48<=c.toNat/\c.toNat<=57)\/c.toNat=45\/c.toNat=95\/c.toNat=46:=by
 grind [nmB]
theorem Fq (h:vA y x) (b:x<y.length) (h0:y≠[]) (h1:y.length<=32):(nmB (y.getD x 0)->∃z:Nat,ay .i64 (x:Int) 1=(z:Int)/\vA y z/\y.length-z<y.length-x)/\(¬nmB (y.getD x 0)->false=iZ y):=by
 refine⟨λh=>⟨x+1,bK ω,⟨b,λj c=>?_⟩,ω⟩,λh=>?_⟩
 ·rename_i a
  rcases Zbm j x with e | e
  ·exact a.2 j e
  ·grind
 ·grind [iZ]
theorem LA (h:vA y y.length) (h0:y≠[]) (h1:y.length<=32):true=iZ y:=by
 unfold iZ;symm;simp only[ZaW,ZaP,List.all_eq_true];refine⟨⟨h0,h1⟩,λc a=>?_⟩;obtain⟨i,hi,rfl⟩:=Za3 a;have:=h.2 i hi;grind
theorem Qke (y:By) (_:IQ.pre y):Vy y/\Vz y:=by
 unfold Vy Vz;have hs:∀x:Nat,sat y (x:Int)=((y.getD x 0).toNat:Int):=λ_=>rfl
 simp only[bL,bC,ib,xJ,hs,Zan,Zao];have f:∀{s:By},seq s []=false↔s≠[]:=λ{s}=>by grind
 have c:y=[]->false=iZ y:=λh=>by subst h;rfl
 have d:32<(y.length:Int)->false=iZ y:=λh=>by
  grind [iZ]
 have i0:vA y 0:=⟨Zaj _,λj g=>absurd g (Zbo _)⟩;refine⟨⟨c,λh0=>⟨d,λh1=>⟨⟨0,rfl,i0⟩,λx a=>⟨λe=>⟨ω,e,?_⟩,λe=>?_⟩⟩⟩⟩,⟨c,λh0=>⟨d,λh1=>⟨⟨0,rfl,i0⟩,λx a=>⟨λe=>⟨ω,e,?_⟩,λe=>?_⟩⟩⟩⟩⟩
 all_goals have b:=f.mp h0
 ·obtain⟨p,q⟩:=Fq a ω b ω;rw[Ly] at p q
  with_reducible repeat' first | apply And.intro | intro _
  all_goals first | exact p ω | exact q ω
 ·rw[show x=y.length by have:=a.1;omega] at a;grind [LA]
 ·obtain⟨p,q⟩:=Fq a ω b ω;rw[Ly] at p q
  with_reducible repeat' first | apply And.intro | intro _
  all_goals first | exact p ω | exact q ω
 ·rw[show x=y.length by have:=a.1;omega] at a;grind [LA]
def Qkf:Ok IQ:=okZ (V:=Vy) [] f111 QrP trivial λy a=>(Qke y a).1
def Qkg:Ok Ov:=okZ (V:=Vz) [] f78 QrR trivial λy a=>(Qke y a).2
theorem CN (h:CL l) {j:Nat} (a:x<j) (b:j<l.length):(l.getD x IS).k<(l.getD j IS).k:=by
 rw[eL b,eL ω];exact List.pairwise_iff_getElem.mp h x j ω b a
theorem Qfu (h1:x<=l.length) (a:∀j,j<x->(l.getD j IS).k<y) (b:x<l.length->¬(l.getD x IS).k<y):lL l y=x:=by
 grind [lL,List.findIdx_eq]
theorem Qfv (f:CL l) (h1:x<l.length) (c:∀j,j<x->(l.getD j IS).k<y) (d:¬(l.getD x IS).k<y):jM l y=seq (l.getD x IS).k y:=by
 rw[ZaG];unfold jM;simp only[ZcT,ZaP,xJ];constructor
 ·rintro⟨r,a,rfl⟩;obtain⟨i,hi,e⟩:=Za3 a;have b:l.getD i IS=r:=by grind
  grind [CN]
 ·grind
theorem QrX (y:XJ) (q:Ow.pre y):VA y:=by
 obtain⟨l,k,v⟩:=y;obtain⟨g,hl⟩:CL l/\l.length<=1000:=q;unfold VA;have m:∀n,gt (Row.mk [] 0) l n=l.getD n IS:=λ_=>rfl
 have st:∀{a b:By},slt a b↔a<b:=λ{a b}=>by simp[slt]
 have r:∀{a b:By},slt a b=false↔¬a<b:=λ{a b}=>by grind
 simp only[bL,bC,au,m,st,r,Zad];refine⟨⟨(0,l.length),rfl,rfl,Zaj _,Zah _,λj d=>absurd d (Zbo _),λj h1 f=>absurd (show l.length<=j from h1) (Nat.not_le_of_lt f)⟩,λx p=>?_⟩;obtain⟨lo,hi⟩:=x;obtain⟨i1,i2,i3,i4⟩:=p;simp only at i1 i2 i3 i4 ⊢;refine⟨λe=>?_,λe=>?_⟩
 ·have o:XT .i64 (ay .i64 (lo:Int) (hi:Int)) 2=(((lo+hi) / 2:Nat):Int):=by
   grind [XT,dG,sq]
  rw[o];simp only[Zad];refine⟨ω,ω,λc=>⟨((lo+hi) / 2+1,hi),bK ω,rfl,⟨show(lo+hi) / 2+1<=hi by omega,i2,λj d=>?_,i4⟩,show hi-((lo+hi) / 2+1)<hi-lo by omega⟩,λc=>⟨(lo,(lo+hi) / 2),rfl,rfl,⟨show lo<=(lo+hi) / 2 by omega,show(lo+hi) / 2<=l.length by omega,i3,λj h1 f=>?_⟩,show(lo+hi) / 2-lo<hi-lo by omega⟩⟩
  ·have d:j<(lo+hi) / 2+1:=d;rcases Zbm j ((lo+hi) / 2) with e2 | e2
   ·exact Zdk (CN g e2 ω) c
   ·grind
  ·have h1:(lo+hi) / 2<=j:=h1;rcases Zbm ((lo+hi) / 2) j with e2 | e2
   ·exact λc2=>c (Zdk (CN g e2 f) c2)
   ·grind
 ·have i:lo=hi:=ω;subst i;have s:lL l k=lo:=Qfu i2 i3 λh=>i4 lo (Zah _) h
  grind [Qfv,jM,List.getElem_of_mem]
def Qkh:Ok Ow:=okZ [] f171 QrT trivial QrX
theorem Qki:Ok Vw:=okZ (V:=QcC) [] f110 (λ_=>dY ()) trivial λy _=>by grind [QcC]
theorem Qkj:Ok Vx:=okZ (V:=QcD) [] f74 (λ_=>dY ()) trivial λy a=>by
 have:y.r.length<=1000:=a;grind [QcD]
structure Qkk where
 tab:List Row
 out:List (List Nd)
 an:Int
 at_:Int
def l3:List iX->Nat->List Row->List (List Nd)->Qkk
 | [],_,t,o=>⟨t,o,0,0⟩
 | x::l,i,t,o=>if iZ x.name=false then⟨[],[],14,i⟩ else if jM t x.name=true then⟨[],[],8,i⟩ else if (cm x.text).2.1≠0 then⟨[],[],(cm x.text).2.1,i⟩ else l3 l (i+1) (rD t x.name i) (o++[cP (cm x.text).1])
def bs (y:cj):Qkk:=lk (l3 y.r 0 [] [])
def zM (y:cj):Bool:=decide ((bs y).an=0)
def CO (k:cj->Bool) (args:List (AV D.E)) (s:St D.E):C (cj×Bool):=az (Lx args s) λp=>.split (k p) (.ret (p,true)) (.ret (p,false))
def VB (y:cj×Bool):Prop:=y.1.r.length<=8/\y.2=zM y.1
def Ft:bh D:=⟨73,cj×Bool,CO zM,VB,λy=>[CM y.1],λ_=>[],
 λy=>match y.2 with
  | true=>.tuple [.list 9 (bs y.1).out,.ptr 0 0,Qvo 0,Qvo 0]
  | false=>.tuple [.dF,.fT,Qvo (bs y.1).an,Qvo (bs y.1).at_],
 λy=>match y.2 with
  | true=>tbO 1 (bs y.1).tab
  | false=>[],0,2⟩
structure CP where
 t:List Row
 o:List (List Nd)
 i:Nat
def yI (y:cj) (x:CP):Prop:=x.i<=y.r.length/\CL x.t/\x.t.length<=x.i/\x.o.length=x.i/\l3 (y.r.drop x.i) x.i x.t x.o=bs y
def Qkl (y:Ft.Y):cH D:=⟨[],[],[(122,⟨CP,[15,16],λx=>[(6,.ptr 0 0),(7,.grow 9 x.o 2),(17,Qvo x.i)],[],λx=>tbO 1 x.t++[(2,.tok 9 138)],3,yI y.1,λx=>y.1.r.length-x.i⟩)],[],1,[]⟩
structure LdR where
 af:List aW
 st:List Int
 cc:List aW
 cs:List Int
 an:Int
 at_:Int
def LB (e a:Int):LdR:=⟨[],[],[],[],e,a⟩
def jm (y:cj):LdR:=
 if 8<y.r.length then LB 13 8
 else if (bs y).an≠0 then LB (bs y).an (bs y).at_
 else if y.c≠[]/\(cm y.c).2.1≠0 then LB (cm y.c).2.1 y.r.length
 else if (bZ (bs y).out).2.1≠0 then LB (bZ (bs y).out).2.1 (bZ (bs y).out).2.2
 else if y.c≠[] then(if (bZ [cP (cm y.c).1]).2.1≠0 then LB (bZ [cP (cm y.c).1]).2.1 y.r.length
  else⟨(bZ (bs y).out).1.1,(bZ (bs y).out).1.2,(bZ [cP (cm y.c).1]).1.1,(bZ [cP (cm y.c).1]).1.2,0,0⟩)
 else⟨(bZ (bs y).out).1.1,(bZ (bs y).out).1.2,[],[],0,0⟩
def b9 (y:cj):LdR:=lk (jm y)
def oK (y:cj):Bool:=decide ((b9 y).an=0)
def Qfw (n:Nat) (y:cj) (l:LdR) (t:List Row):List (Nat×AO D.E):=(n,.cells [.list 3 y.r,.str y.c,.list 8 l.af,.list 5 l.st,.list 8 l.cc,.list 5 l.cs,.ptr (n+1) 0] 137 false)::[(n+1,.cells [.own (n+2) 2 (ag t)] 271 false),(n+2,.arr 16 t 275 false)]
def qG (y:cj×Bool):Prop:=y.1.r.length<=1000/\y.2=oK y.1
def zN:bh D:=⟨28,cj×Bool,CO oK,qG,λy=>[CM y.1],λ_=>[],
 λy=>match y.2 with
  | true=>.tuple [.ptr 0 0,Qvo 0,Qvo 0]
  | false=>.tuple [.fT,Qvo (b9 y.1).an,Qvo (b9 y.1).at_],
 λy=>match y.2 with
  | true=>Qfw 0 y.1 (b9 y.1) (bs y.1).tab
  | false=>[],0,3⟩
def CQ (y:cj):List Nd:=lk (if y.c≠[] then(cm y.c).1 else[])
def Qkp (y:zN.Y):cH D:=⟨[],[],[],[(127,⟨Unit,[5,8],λ_=>[(1,.ptr 0 0),(9,.ptr 1 0),(10,.list 7 (CQ y.1))],[],λ_=>[(0,.cells [.list 3 y.1.r,.str y.1.c] 24 false)]++Qfw 1 y.1 (LB 0 0) (bs y.1).tab,4,λ_=>y.1.c≠[]->(cm y.1.c).2.1=0,λ_=>0⟩)],1,[]⟩
def Ox:bh D:={ QhN with f:=103 }
def QrY (y:Ox.Y):cH D:=Qn0 y
structure j8 where
 s:cj
 p:iC
 q:iC
 t:List Row
def IU (y:j8):List (Nat×AO D.E):=Qfw 0 y.s ⟨y.p.af,y.p.av,y.q.af,y.q.av,0,0⟩ y.t
def Qfx (v:AV D.E) (s:St D.E):C j8:=match v with
 | .ptr b _=>az (cR (s.h.get b)) λo=>match o with
  | .cells cs _ _=>match cs with
   | [r,c,p,q,a,b,t]=>az (aL D s 3 r) λr=>az (fY c) λc=>az (aL D s 8 p) λp=>az (aL D s 5 q) λq=>az (aL D s 8 a) λa=>az (aL D s 5 b) λb=>az (Qft t s) λt=>.ret ⟨⟨r,c⟩,⟨p,q⟩,⟨a,b⟩,t⟩
   | _=>.fail
  | _=>.fail
 | _=>.fail
def Τ (a:List (AV D.E)) (s:St D.E):C j8:=match a with
 | [p]=>Qfx p s
 | _=>.fail
def Oy (y:j8):Prop:=XG y.p
def Υ (y:j8):Prop:=XG y.q
def Χ:bh D:=⟨65,j8,Τ,Oy,λ_=>[.ptr 0 0],IU,λy=>Hj y.p,IU,3,3⟩
def ϊ:bh D:=⟨63,j8,Τ,Υ,λ_=>[.ptr 0 0],IU,λy=>.tuple [Hj y.q,.bool (!seq y.s.c [])],IU,3,3⟩
abbrev RA4 (v:cj) (p:Prop):Prop:=aa [v.r] (aa [v.c] p)
def QcE (y:j8):Prop:=Iv (XG y.p)/\RA3 y.p (RA3 y.p (RA4 y.s (RA3 y.p (RA3 y.q (RAI (ag y.t) y.t (True))))))
def QcF (y:j8):Prop:=Iv (XG y.q)/\RA3 y.q (RA3 y.q (RAJ y.s.c y.s.c y.s.c (RA3 y.q (aa [!(seq y.s.c [])] (RA4 y.s (RA3 y.p (RA3 y.q (RAI (ag y.t) y.t (True)))))))))
def QcG:Ok Ox:=okZ [] f103 QrY trivial Qn6
def Qks:Ok Χ:=okZ (V:=QcE) [Ox] f65 (λ_=>dY ()) QcG λy a=>by
 unfold QcE;simp only[dw,Zai,kU];exact a
def Qkt:Ok ϊ:=okZ (V:=QcF) [Ox] f63 (λ_=>dY ()) QcG λy a=>by
 unfold QcF;simp only[dw,Zai,kU];exact a
def F5.pg {p:iC} (h:F5 p):XG p:=⟨by have:=h.1;omega,by have:=h.2.1;omega,h.2.2.2.1⟩
def RwD (d:S2) (p:Prop):Prop:=aa [d.a,d.b,d.c,d.d,d.n] p
def RwM (v:pq) (p:Prop):Prop:=aa [v.p.af] (aa [v.p.av] (aa [v.aI,ag v.L,ag v.s.pl,ag v.s.us] (aa [v.s.us] (aa [v.s.pl] (aa [v.L] p)))))
def RwU (v:pq) (p:Prop):Prop:=aa [v.p.af] (aa [v.p.av] (aa [v.aI,ag v.L,ag v.s.pl,ag v.s.us] (aa [v.s.pl] (aa [v.s.us] (aa [v.L] p)))))
def RwS (s:Dg) (p:Prop):Prop:=RwM s.v (RwD s.d p)
def RwE (s:Dg) (p:Prop):Prop:=RwD s.d (RwU s.v p)
def IV (y:j8) (p:Prop):Prop:=aa [y.p.af] (aa [y.p.av] (aa [y.q.af] (aa [y.q.av] p)))
def sQ (y:j8) (p:Prop):Prop:=aa [y.s.r] (aa [y.s.c] (IV y (aa [ag y.t] (aa [y.t] p))))
def RwR (y:j8) (p:Prop):Prop:=sQ y (IV y p)
def j9:(∀d p,RwD d p=p)/\(∀v p,RwM v p=p)/\(∀v p,RwU v p=p)/\(∀s p,RwS s p=p)/\(∀s p,RwE s p=p)/\(∀y p,IV y p=p)/\(∀y p,sQ y p=p)/\∀y p,RwR y p=p:=by
 refine⟨λ_ _=>?_,λ_ _=>?_,λ_ _=>?_,λ_ _=>?_,λ_ _=>?_,λ_ _=>?_,λ_ _=>?_,λ_ _=>?_⟩<;>simp[RwD,RwM,RwU,RwS,RwE,IV,sQ,RwR]
structure ώ where
 ru:j8
 pos:Int
 bN:Int
 bj:Int
 size:Int
 ch:Bool
 aS:List dd
 aH:Dg
 aZ:Dg
 a8:Dg
inductive SFm where
 | n | p | c | o | a
def sfJ (f:SFm):Bool:=match f with
 | .n=>false | .p=>false | _=>true
def Qr4 (f:SFm) (y:ώ):Prop:=Ue y.aH/\(sfJ f->Ue y.aZ/\0<(Qe7 y.aZ).length)/\(f=.o->Ue y.a8/\y.aS.length<=1000/\0<=y.size/\y.size<=500)
def Qr5 (f:SFm) (y:ώ):Prop:=Qr4 f y/\0<=y.bN/\y.bN<=y.pos/\y.pos<=100000000/\(y.ch=false->y.pos-y.bN<=200)
theorem VC {v:pq} {N:Int} {l:List Gt} (h:Y4 v N):∀x,x<=l.length->(HH v (l.take x)).p=v.p
 | 0,_=>by rfl
 | x+1,a=>by
  rw[AX (show x<l.length by omega)];exact((Ct _ (Cu (l:=l) h x ω).1 _).2.1).trans (VC h x ω)
theorem VD {s:Dg} (h:Ue s):(Qe7 s).length=s.v.L.length:=by
 have c:=h.1.2.2;have b:=Uf c;have a:=Cu b (l:=bdG (uoF (HG s.d)).n.toNat) _ (Zah _);have f:=VC b (l:=bdG (uoF (HG s.d)).n.toNat) _ (Zah _);rw[ZaM] at a f;have e:=(KV a.1.1 (Im s).L.length).2;have e2:(Qe7 s).length=(Im s).L.length:=e;have g:(Im s).p.av.length=(Im s).L.length:=a.2.1;have i:(Im s).p=s.v.p:=f;rw[e2,<-g,i];exact c.2.1
end
end sx
end Go.Proofs.YtiiiphndmbabcaaGreat
