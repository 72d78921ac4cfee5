/- StreamRises: a part of the proof. -/
import Derived.Test.YtadfknojfbmjgaaGreatC21
set_option linter.all false
namespace Go.Proofs.YtadfknojfbmjgaaGreat
set_option maxRecDepth 100000
set_option maxHeartbeats 4000000
namespace sx
noncomputable section
open Go Go.RowKit cls syn
variable {l:List Tree} {a:Nat} {k:Tree}
theorem QrM (y:Tree) (z:TU.pre y):TW y:=by
 obtain⟨h1,n,B,C⟩:1<=y.kids.length/\dG (bs y)/\0<=y.mn/\((bs y).op=5->0<=(bs y).mn/\1<=(bs y).kids.length):=z;have hk:y.kids.getD 0 (Tree.mk 0 [] 0 0 false 0 0 [])=bs y:=rfl;have s:(bs y).kids.getD 0 (Tree.mk 0 [] 0 0 false 0 0 [])=bs (bs y):=rfl;unfold TW;simp only[QaU,dq,aj,dA,bG,aq,hk,s,Zan,Zao];have k:∀x:Nd,eN x->x.op=5/\x.mn<=1:=λx h=>by
  grind [eN]
 have E:∀X,cJ y=X->X.op=(cJ y).op/\X.r=(cJ y).r/\X.mn=(cJ y).mn/\X.mx=(cJ y).mx/\X.lz=(cJ y).lz/\X.cap=(cJ y).cap/\X.nk=(cJ y).nk/\X.kids=(cJ y).kids:=λX h=>by
  grind
 have V:∀b,uV y=Tree.mk y.op y.r y.mn y.mx b y.cap y.nk y.kids->¬(bs y).op=1->¬(y.mn=1/\y.mx=1)->¬(y.mx=0/\fm (bs y)=false)->
   (eN ⟨y.op,y.r,y.mn,y.mx,b,y.cap,y.nk⟩->(eN ⟨(bs y).op,(bs y).r,(bs y).mn,(bs y).mx,(bs y).lz,(bs y).cap,(bs y).nk⟩->(0:Int)<((bs y).kids.length:Int)/\((bs (bs y)).op=2->iR .i64 (bs y).mn y.mn=(bs y).mn*y.mn/\cJ y=ET (bs y) y.mn)/\((bs (bs y)).op≠2->cJ y=uV y))/\(eN ⟨(bs y).op,(bs y).r,(bs y).mn,(bs y).mx,(bs y).lz,(bs y).cap,(bs y).nk⟩=false->cJ y=uV y))/\(eN ⟨y.op,y.r,y.mn,y.mx,b,y.cap,y.nk⟩=false->cJ y=uV y):=λb j o p q=>by
  have e:cJ y=if eN (KX (uV y))/\eN (KX (bs y))/\(bs (bs y)).op=2 then ET (bs y) y.mn else uV y:=by
   grind [cJ]
  have A:eN (KX (uV y))=eN ⟨y.op,y.r,y.mn,y.mx,b,y.cap,y.nk⟩:=by rw[j];rfl
  grind [KX]
 have t:(bs y).op=1->cJ y=bs y:=λh=>by grind [cJ]
 have u:¬(bs y).op=1->y.mn=1->y.mx=1->cJ y=bs y:=λh a b=>by grind [cJ]
 have m:¬(bs y).op=1->¬(y.mn=1/\y.mx=1)->y.mx=0->fm (bs y)=false->cJ y=.mk 1 [] 0 0 false 0 0 []:=λh a b c=>by grind [cJ]
 have F:∀b,uV y=Tree.mk y.op y.r y.mn y.mx b y.cap y.nk y.kids->cJ y=uV y->y.op=(cJ y).op/\y.r=(cJ y).r/\y.mn=(cJ y).mn/\y.mx=(cJ y).mx/\b=(cJ y).lz/\y.cap=(cJ y).cap/\y.nk=(cJ y).nk/\y.kids=(cJ y).kids:=λb j h=>by
  rw[h,j];exact⟨rfl,rfl,rfl,rfl,rfl,rfl,rfl,rfl⟩
 have M:iR .i64 (bs y).mn y.mn=(bs y).mn*y.mn/\cJ y=ET (bs y) y.mn->(bs y).op=(cJ y).op/\(bs y).r=(cJ y).r/\iR .i64 (bs y).mn y.mn=(cJ y).mn/\(bs y).mx=(cJ y).mx/\(bs y).lz=(cJ y).lz/\(bs y).cap=(cJ y).cap/\(bs y).nk=(cJ y).nk/\(bs y).kids=(cJ y).kids:=λ⟨a,h⟩=>by
  rw[a,h];exact⟨rfl,rfl,rfl,rfl,rfl,rfl,rfl,rfl⟩
 have w:y.lz->uV y=Tree.mk y.op y.r y.mn y.mx (!az y.mn y.mx) y.cap y.nk y.kids:=λh=>by
  grind [uV]
 have v:y.lz=false->uV y=Tree.mk y.op y.r y.mn y.mx false y.cap y.nk y.kids:=λh=>by
  grind [uV]
 refine⟨λl=>?_,λl=>?_⟩
 ·have j:=w l;have W:=λo p q=>V _ j o p q
  have G:=F _ j;refine⟨ω,λk1=>E _ (t k1),λk1=>⟨λk2=>⟨λk3=>E _ (u k1 k2 k3),λk3=>⟨λk4=>⟨n,λk5=>E _ (m k1 (λh=>k3 h.2) k4 k5),λk5=>?_⟩,λk4=>?_⟩⟩,λk2=>⟨λk4=>⟨n,λk5=>E _ (m k1 (λh=>k2 h.1) k4 k5),λk5=>?_⟩,λk4=>?_⟩⟩⟩
  ·obtain⟨f,i⟩:=W k1 (λh=>k3 h.2) (λh=>by grind);exact⟨λo1=>⟨λd=>⟨((f o1).1 d).1,λg=>M (((f o1).1 d).2.1 g),λg=>G (((f o1).1 d).2.2 g)⟩,λd=>G ((f o1).2 d)⟩,λo1=>G (i o1)⟩
  ·obtain⟨f,i⟩:=W k1 (λh=>k3 h.2) (λh=>k4 h.1);exact⟨λo1=>⟨λd=>⟨((f o1).1 d).1,λg=>M (((f o1).1 d).2.1 g),λg=>G (((f o1).1 d).2.2 g)⟩,λd=>G ((f o1).2 d)⟩,λo1=>G (i o1)⟩
  ·obtain⟨f,i⟩:=W k1 (λh=>k2 h.1) (λh=>by grind);exact⟨λo1=>⟨λd=>⟨((f o1).1 d).1,λg=>M (((f o1).1 d).2.1 g),λg=>G (((f o1).1 d).2.2 g)⟩,λd=>G ((f o1).2 d)⟩,λo1=>G (i o1)⟩
  ·obtain⟨f,i⟩:=W k1 (λh=>k2 h.1) (λh=>k4 h.1);exact⟨λo1=>⟨λd=>⟨((f o1).1 d).1,λg=>M (((f o1).1 d).2.1 g),λg=>G (((f o1).1 d).2.2 g)⟩,λd=>G ((f o1).2 d)⟩,λo1=>G (i o1)⟩
 ·have j:=v l;have W:=λo p q=>V _ j o p q
  have G:=F _ j;refine⟨ω,λk1=>E _ (t k1),λk1=>⟨λk2=>⟨λk3=>E _ (u k1 k2 k3),λk3=>⟨λk4=>⟨n,λk5=>E _ (m k1 (λh=>k3 h.2) k4 k5),λk5=>?_⟩,λk4=>?_⟩⟩,λk2=>⟨λk4=>⟨n,λk5=>E _ (m k1 (λh=>k2 h.1) k4 k5),λk5=>?_⟩,λk4=>?_⟩⟩⟩
  ·obtain⟨f,i⟩:=W k1 (λh=>k3 h.2) (λh=>by grind);exact⟨λo1=>⟨λd=>⟨((f o1).1 d).1,λg=>M (((f o1).1 d).2.1 g),λg=>G (((f o1).1 d).2.2 g)⟩,λd=>G ((f o1).2 d)⟩,λo1=>G (i o1)⟩
  ·obtain⟨f,i⟩:=W k1 (λh=>k3 h.2) (λh=>k4 h.1);exact⟨λo1=>⟨λd=>⟨((f o1).1 d).1,λg=>M (((f o1).1 d).2.1 g),λg=>G (((f o1).1 d).2.2 g)⟩,λd=>G ((f o1).2 d)⟩,λo1=>G (i o1)⟩
  ·obtain⟨f,i⟩:=W k1 (λh=>k2 h.1) (λh=>by grind);exact⟨λo1=>⟨λd=>⟨((f o1).1 d).1,λg=>M (((f o1).1 d).2.1 g),λg=>G (((f o1).1 d).2.2 g)⟩,λd=>G ((f o1).2 d)⟩,λo1=>G (i o1)⟩
  ·obtain⟨f,i⟩:=W k1 (λh=>k2 h.1) (λh=>k4 h.1);exact⟨λo1=>⟨λd=>⟨((f o1).1 d).1,λg=>M (((f o1).1 d).2.1 g),λg=>G (((f o1).1 d).2.2 g)⟩,λd=>G ((f o1).2 d)⟩,λo1=>G (i o1)⟩
def Qj8:Ok TU:=okZ [Nu,Tk] Tryz.f83 (λ_=>cX ()) ⟨Qri .g,QjJ⟩ QrM
def jM (l:List Tree):List Tree:=bt [] (dK [] l)
def jN:Nat->List Tree->List Tree
 | 0,l=>l
 | n+1,l=>if (jM l).length=l.length then l else jN n (jM l)
def Cg (t:Tree):Tree:=hI 4 (jN (aw 4 t.kids).length (aw 4 t.kids))
def atC:bf D:=bZ 82 Tree (λa _=>uU a) (λy=>y.kids.length<=1000000/\dH (aw 4 y.kids)) (λy=>[.agg (D.aX 15 y)]) λy=>.agg (D.aX 15 (lk (Cg y)))
def atI (y:Tree) (x:List Tree):Prop:=dH x/\∃n,x.length<=n/\jN n x=jN (aw 4 y.kids).length (aw 4 y.kids)
def atO (y:atC.Y):cH D:=⟨[],[],[(14,⟨List Tree,[],λx=>[(2,.ptr 0 0),(3,.list 15 x)],[],λ_=>[(0,.cells (D.aX 15 bn) 134 false)],1,atI y,λx=>x.length⟩)],[],1,[]⟩
def QeX (y:Tree):Prop:=let a:=lk (Cg y);let d:=λp:Prop=>aa ([0]:List Int) (aa ([[]]:List (List (Int×Int))) (aa ([0,0]:List Int) p));let e:=λp:Prop=>aa ([0,0]:List Int) (aa ([[]]:List (List Tree)) p);Iv (y.kids.length<=1000000/\(aw 4 y.kids).length<=1000000)/\aa ([4]:List Int) (aa [y.kids] ((∃z:List Tree,aw 4 y.kids=z/\d (false=false/\e ((Iv (atI y z)))))/\(∀x:List Tree,let c:=dK [] x;let b:=lk (hI 4 x);let f:=az (ab (bt [] c)) (ab x);(Iv (atI y x))->Iv (dH x)/\aa [x] (Iv (c.length<=1000000/\tG c)/\aa [c] (ag f (Iv (x.length<=1000000)/\aa ([4]:List Int) (aa [x] (b.op=a.op/\b.r=a.r/\b.mn=a.mn/\b.mx=a.mx/\b.lz=a.lz/\b.cap=a.cap/\b.nk=a.nk/\b.kids=a.kids/\True))) (∃z:List Tree,bt [] c=z/\d (false=false/\e ((Iv (atI y z/\z.length<x.length))))))))))
def NL (n:Nat) (l:List Nd):Prop:=l.length<=n/\∀x∈l,iK x
def NL.app {b:Nat} {l m:List Nd} (h:NL a l) (c:NL b m):NL (a+b) (l++m):=
 ⟨by rw[Zab];have:=h.1;have:=c.1;omega,λx d=>(List.mem_append.mp d).elim (h.2 x) (c.2 x)⟩
theorem cU (t:Tree) (l:List Tree):au (t::l)=ay t++au l:=by rfl
def Iu (r:List Rg):NL 1 (ay (pk (r))):=by
 rw[bJ];refine⟨by simp[pk,Tree.kids,au],λx a=>?_⟩;have a:x=⟨2,aL r,0,0,false,0,0⟩:=by simpa [pk,Tree.kids,au,Tree.op,Tree.r,Tree.mn,Tree.mx,Tree.lz,Tree.cap] using a
 rw[a];exact kV r
theorem TX (ht:NL 1 (ay k)):∀(l:List Tree) (i n:Nat),NL n (au l)->NL n (au (l.set i k))
 | [],_,_,h=>h
 | a::l,0,n,h=>by
  rw[Zdb,cU];rw[cU] at h;have h1:=h.1;rw[Zab] at h1;have d:1<=(ay a).length:=by rw[bJ];simp
  have:=ht.1;exact⟨by grind,λx b=>(List.mem_append.mp b).elim (ht.2 x) λb=>h.2 x (ZaC _ b)⟩
 | a::l,i+1,n,h=>by
  rw[Zdd,cU];rw[cU] at h;have h1:=h.1;rw[Zab] at h1;have:=TX ht l i (au l).length ⟨Zah _,λx b=>h.2 x (ZaC _ b)⟩;have c:=this.1;exact⟨by grind,λx b=>(List.mem_append.mp b).elim (λb=>h.2 x (Zay _ b)) (this.2 x)⟩
theorem x4 (o:List Tree) (k:Tree):au (o++[k])=au o++ay k:=by grind [ct,au]
def TY {b:Nat} (h:NL a (au l)) (hk:NL b (ay k)):NL (a+b) (au (dv l k)):=by
 unfold dv;split
 ·have:=TX (Iu ((lU l).r++k.r)) l (l.length-1) a h;exact⟨by have:=this.1;omega,this.2⟩
 ·rw[x4];exact h.app hk
def nT (h:NL a (au (k::l))):NL (ay k).length (ay k)/\NL (au l).length (au l)/\(ay k).length+(au l).length<=a:=by
 rw[cU] at h;have h1:=h.1;rw[Zab] at h1;exact⟨⟨Zah _,λx n=>h.2 x (Zay _ n)⟩,⟨Zah _,λx n=>h.2 x (ZaC _ n)⟩,h1⟩
theorem tH:∀(l o:List Tree) (a b:Nat),NL a (au o)->NL b (au l)->NL (a+b) (au (bt o l))/\(bt o l).length<=o.length+l.length
 | [],o,a,b,h,_=>⟨⟨by have:=h.1;unfold bt;omega,h.2⟩,Zah _⟩
 | k::l,o,a,b,h,h2=>by
  obtain⟨p1,p2,p3⟩:=nT h2;obtain⟨c,d⟩:=tH l _ _ _ (TY h p1) p2;have:=jk o k;have:=c.1;rw[bt];exact⟨⟨ω,c.2⟩,by grind⟩
theorem qb:∀(l o:List Tree) (a b:Nat),NL a (au o)->NL b (au l)->NL (a+b) (au (dK o l))/\(dK o l).length<=o.length+l.length
 | [],o,a,b,h,_=>⟨⟨by have:=h.1;unfold dK;omega,h.2⟩,Zah _⟩
 | k::l,o,a,b,h,h2=>by
  obtain⟨p1,p2,p3⟩:=nT h2;rw[dK];split
  ·obtain⟨c,d⟩:=qb l o _ _ h p2;have:=c.1;exact⟨⟨ω,c.2⟩,by grind⟩
  ·obtain⟨c,d⟩:=qb l (o++[k]) _ _ (by rw[x4];exact h.app p1) p2;have:=c.1;simp only[Zab,Zae,Zak] at d;exact⟨⟨ω,c.2⟩,by grind⟩
theorem Ch:NL 0 (au []):=⟨by simp[au],λx a=>by grind [au]⟩
theorem Z3 (h:dH l):dH (dK [] l)/\(dK [] l).length<=l.length:=by
 obtain⟨a,b⟩:=qb l [] 0 1000000 Ch h;exact⟨⟨by have:=a.1;omega,a.2⟩,by grind⟩
theorem KY (h:dH l):dH (bt [] l)/\(bt [] l).length<=l.length:=by
 obtain⟨a,b⟩:=tH l [] 0 1000000 Ch h;exact⟨⟨by have:=a.1;omega,a.2⟩,by grind⟩
theorem dH.rt (h:dH l):tG l:=λt ht=>by
 obtain⟨i,hi,rfl⟩:=Za3 ht;have:=h.get hi;rw[bk hi] at this;have a:=this.2 ⟨l[i].op,l[i].r,l[i].mn,l[i].mx,l[i].lz,l[i].cap,l[i].kids.length⟩ (by grind [bJ]);exact a
theorem atH (y:Tree) (c:atC.pre y):QeX y:=by
 obtain⟨h1,a⟩:y.kids.length<=1000000/\dH (aw 4 y.kids):=c;unfold QeX;simp only[dq,gg,iH,aj,aq];refine⟨⟨h1,a.len⟩,⟨_,rfl,a,_,Zah _,rfl⟩,λx b=>?_⟩;obtain⟨i1,n,i2,i3⟩:=b;obtain⟨o1,g⟩:=Z3 i1;obtain⟨d,f⟩:=KY o1;refine⟨i1,⟨o1.len,o1.rt⟩,λe=>⟨i1.len,?_⟩,λe=>⟨_,rfl,?_,ω⟩⟩
 ·have e:(jM x).length=x.length:=by grind [jM]
  have:Cg y=hI 4 x:=by
   unfold Cg;rw[<-i3];cases n with
   | zero=>rfl
   | succ n=>rw[jN,Zac e]
  grind
 ·have e:¬(jM x).length=x.length:=by grind [jM]
  cases n with
  | zero=>exact absurd (show(jM x).length=x.length by omega) e
  | succ n=>
   rw[jN,Zaa e] at i3;exact⟨d,n,ω,i3⟩
def QrN (a:Ok dc):Ok atC:=okZ [Ns,NF,NG,Nr] Tryz.f82 atO ⟨QjK,Qj6,Qj7 a,Qcz⟩ atH
def x5 (t:Tree):Tree:=if t.op=3 then EP t else if t.op=4 then Cg t else if t.op=5 then cJ t else t
mutual
def j8:Tree->Tree
 | .mk op r mn mx lz cap nk ks=>x5 (.mk op r mn mx lz cap nk (dm ks))
def dm:List Tree->List Tree
 | []=>[]
 | t::l=>j8 t::dm l
end
mutual
def sF:Tree->Prop
 | .mk op _ mn _ _ _ _ ks=>(op=5->1<=ks.length/\0<=mn)/\oG ks
def oG:List Tree->Prop
 | []=>True
 | t::l=>sF t/\oG l
end
variable {l:List Tree} {k:Tree}
def NH (t:Tree):Tree:=lk (j8 t)
def EW (t:Tree) (n:Nat):List Tree:=lk ((dm t.kids).take n)
def Iw:bf D:=bZ 50 Tree (λa _=>uU a) (λy=>dG y/\sF y) (λy=>[.agg (D.aX 15 y)]) λy=>.agg (D.aX 15 (NH y))
def QrO (y:Iw.Y):cH D:=⟨[],[],[(58,⟨Nat,[11,12],λx=>[(1,.ptr 0 0),(2,.ptr 1 0),(3,.grow 15 (EW y x) 2),(13,Qu9 x)],[],λ_=>[(0,.cells (D.aX 15 y) 134 false),(1,.cells (D.aX 15 bn) 134 false),(2,.tok 15 134)],3,λx=>x<=y.kids.length,λx=>y.kids.length-x⟩)],[],1,[]⟩
def QrP (y:Iw.Y):Prop:=vc [Iw.under cZ (cZ y),ctC,atC,TU] Tryz.f50 Iw QrO y
def TZ (y:Tree):Prop:=let a:=NH y;let i:=y.kids;let k:=ab i;let o:=λp:Prop=>aa ([0]:List Int) (aa ([[]]:List (List (Int×Int))) (aa ([0,0]:List Int) p));let q:=λp:Prop=>aa ([0,0]:List Int) (aa ([[]]:List (List Tree)) (aa [y.op] (aa [y.r] (aa [y.mn,y.mx] (aa [y.lz] (aa [y.cap,y.nk] (aa [i] p)))))));Tt 1 (aC 0 k/\fits k 96/\(∃z:Nat,aa [i] (aa [k] ([]=EW y z/\0=(z:Int)/\o (false=false/\q ((Iv (z<=i.length)))))))/\(∀x:Nat,let g:=EW y x;let m:=i.length;let e:=gt (Tree.mk 0 [] 0 0 false 0 0 []) i (x:Int).toNat;let n:=Tree.mk y.op y.r y.mn y.mx y.lz y.cap y.nk g;let h:=lk (EP n);let b:=lk (Cg n);let c:=lk (cJ n);let f:=Tree.mk e.op e.r e.mn e.mx e.lz e.cap e.nk e.kids;let d:=NH f;let l:=aZ g [Tree.mk d.op d.r d.mn d.mx d.lz d.cap d.nk d.kids];let j:=λp:Prop=>aa [y.op] (aa [y.r] (aa [y.mn,y.mx] (aa [y.lz] (aa [y.cap,y.nk] (aa [g] p)))));(Iv (x<=m))->ag (ax (x:Int) k) (aC 0 (x:Int)/\ax (x:Int) k/\Iv ((dG f/\sF f)/\cZ f<cZ y)/\aa [e.op] (aa [e.r] (aa [e.mn,e.mx] (aa [e.lz] (aa [e.cap,e.nk] (aa [e.kids] (fits (ab l) 96/\∃z:Nat,aa [i] (aa [k] (l=EW y z/\an .i64 (x:Int) 1=(z:Int)/\o (false=false/\q ((Iv (z<=m/\(m-z)<(m-x)))))))))))))) (ag (az y.op 3) (Iv (g.length<=1000000/\(aw 3 g).length<=1000000)/\j (h.op=a.op/\h.r=a.r/\h.mn=a.mn/\h.mx=a.mx/\h.lz=a.lz/\h.cap=a.cap/\h.nk=a.nk/\h.kids=a.kids/\True)) (ag (az y.op 4) (Iv (g.length<=1000000/\dH (aw 4 g))/\j (b.op=a.op/\b.r=a.r/\b.mn=a.mn/\b.mx=a.mx/\b.lz=a.lz/\b.cap=a.cap/\b.nk=a.nk/\b.kids=a.kids/\True)) (ag (az y.op 5) (Iv (Z0 n)/\j (c.op=a.op/\c.r=a.r/\c.mn=a.mn/\c.mx=a.mx/\c.lz=a.lz/\c.cap=a.cap/\c.nk=a.nk/\c.kids=a.kids/\True)) (y.op=a.op/\y.r=a.r/\y.mn=a.mn/\y.mx=a.mx/\y.lz=a.lz/\y.cap=a.cap/\y.nk=a.nk/\g=a.kids/\True))))))
def Z4:∀y,TZ y=QrP y:=λy=>by kernel_rfl
theorem jz (t:Tree):sF t↔(t.op=5->1<=t.kids.length/\0<=t.mn)/\oG t.kids:=by cases t;rw[sF];exact ZbW
theorem kh (l:List Tree):oG l↔∀t∈l,sF t:=by
 induction l with
 | nil=>simp[oG]
 | cons a l b=>rw[oG,b];simp
theorem qd (l:List Tree):(dm l).length=l.length:=by
 induction l with
 | nil=>simp[dm]
 | cons a l b=>simp[dm,b]
theorem NI (l:List Tree):dm l=l.map j8:=by
 induction l with
 | nil=>simp[dm]
 | cons a l b=>simp[dm,b]
def Z5 (t:Tree):j8 t=x5 (.mk t.op t.r t.mn t.mx t.lz t.cap t.nk (dm t.kids)):=by cases t;rw[j8];rfl
theorem EX {op:Int} (h:op≠5) (hl:oG l):sF (hI op l):=by
 match l,hl with
 | [],_=>rw[hI,sF];exact⟨λh=>ω,by assumption⟩
 | [k],hl=>exact(kh _).mp hl k (by simp)
 | a::b::l,hl=>
  grind [hI,sF]
theorem AM {op:Int} (hl:oG l):oG (aw op l):=by
 grind [kh,aw,jz]
def Z6 (hl:oG l):oG (gT l):=by
 rw[kh] at*
 exact λt ht=>hl t (List.mem_filter.mp ht).1
theorem Ci:∀(l o:List Tree),oG o->oG l->oG (dK o l)
 | [],o,h,_=>by assumption
 | k::l,o,h,h2=>by
  rw[dK];rw[oG] at h2;split
  ·exact Ci l o h h2.2
  ·refine Ci l _ ?_ h2.2;grind [kh]
theorem T0 (r:List Rg):sF (pk r):=by grind [pk,sF,oG]
theorem T1 (h:oG l) (hk:sF k):oG (dv l k):=by
 grind [kh,dv,T0]
theorem AN:∀(l o:List Tree),oG o->oG l->oG (bt o l)
 | [],o,h,_=>by assumption
 | k::l,o,h,h2=>by
  rw[bt];rw[oG] at h2;exact AN l _ (T1 h h2.1) h2.2
theorem EY:∀(n:Nat) (l:List Tree),oG l->oG (jN n l)
 | 0,l,h=>h
 | n+1,l,h=>by
  rw[jN];split
  ·exact h
  ·exact EY n _ (AN _ _ (by grind [oG]) (Ci _ _ (by grind [oG]) h))
def NL.to {a b:Nat} {l:List Nd} (h:NL a l) (c:a<=b):NL b l:=⟨Zav h.1 c,h.2⟩
theorem yr (op:Int):∀(l:List Tree) (n:Nat),NL n (au l)->NL n (au (aw op l))
 | [],n,h=>h
 | k::l,n,h=>by
  obtain⟨p1,p2,p3⟩:=nT h;have e:aw op (k::l)=(if k.op=op then k.kids else[k])++aw op l:=rfl;have r:=yr op l _ p2;rw[e,ct];split
  ·rw[bJ] at p1 p3;simp only[Zae] at p3;have q:NL (au k.kids).length (au k.kids):=⟨Zah _,λx a=>p1.2 x (ZaU _ a)⟩;exact(q.app r).to ω
  ·rw[show au [k]=ay k by grind [au]];exact(p1.app r).to ω
theorem KZ:∀(l:List Tree) (n:Nat),NL n (au l)->NL n (au (gT l))
 | [],n,h=>h
 | k::l,n,h=>by
  obtain⟨p1,p2,p3⟩:=nT h;have r:=KZ l _ p2;unfold gT at r ⊢;rw[List.filter_cons];split
  ·rw[cU];exact(p1.app r).to ω
  ·exact r.to ω
theorem K0 (op:Int):NL 1 (ay (.mk op [] 0 0 false 0 0 [])):=by
 rw[ay];refine⟨by simp[au],λx a=>?_⟩;have a:x=⟨op,[],0,0,false,0,0⟩:=by grind [au]
 rw[a];exact Zaj _
theorem EZ (op:Int) {n:Nat} (h:NL n (au l)):NL (n+1) (ay (hI op l)):=by
 match l,h with
 | [],_=>exact(K0 1).to ω
 | [k],h=>
  rw[show au [k]=ay k by grind [au]] at h;exact h.to ω
 | a::b::l,h=>
  rw[show hI op (a::b::l)=.mk op [] 0 0 false 0 0 (a::b::l) from rfl,ay];refine⟨by have:=h.1;simp only[Zae];omega,λx c=>?_⟩;rcases List.mem_cons.mp c with c | c
  ·rw[c];exact Zaj _
  ·exact h.2 x c
theorem E0:∀(n:Nat) (l:List Tree) (m:Nat),NL m (au l)->NL m (au (jN n l))
 | 0,l,m,h=>h
 | n+1,l,m,h=>by
  rw[jN];split
  ·exact h
  ·have h1:=(qb l [] 0 m Ch h).1;have a:=(tH _ [] 0 _ Ch h1).1;exact E0 n _ m (a.to ω)
def QcC (l:List Tree):Prop:=∀x∈au l,iK x
theorem QeZ (h:0<l.length) (hl:QcC l) {a:Nd}:NL (a::au l).length (ay (l.getD 0 bn)):=by
 cases l with
 | nil=>cases h
 | cons k l=>
  have e:(k::l).getD 0 bn=k:=rfl;rw[e,cU];refine⟨by grind,λx b=>hl x (by grind [cU])⟩
def Kept (t u:Tree):Prop:=sF u/\NL (ay t).length (ay u)
def Z7 (h:sF k) (b:NL (ay k).length (ay k)):Kept k (uV k):=by
 unfold uV;refine⟨?_,?_⟩
 ·rw[jz] at*;exact h
 ·rw[bJ] at b;rw[bJ k];rw[ay];refine⟨Zah _,λx a=>?_⟩;rcases List.mem_cons.mp a with a | a
  ·rw[a];exact b.2 ⟨k.op,k.r,k.mn,k.mx,k.lz,k.cap,k.kids.length⟩ Za8
  ·exact b.2 x (ZaU _ a)
theorem T2 (hk:1<=k.kids.length) (h:sF k) (a:NL (ay k).length (ay k)):Kept k (bs k):=by
 have c:=(kh _).mp ((jz k).mp h).2;unfold bs;refine⟨by grind,?_⟩;rw[bJ] at a ⊢;have hl:QcC k.kids:=λx b=>a.2 x (ZaU _ b)
 exact QeZ hk hl
theorem sG (t:Tree):1<=(ay t).length:=by rw[bJ];simp
theorem T3 (hk:1<=k.kids.length) (h0:0<=k.mn) (h:sF k) (b:NL (ay k).length (ay k)):Kept k (cJ k):=by
 have K:=T2 hk h b;unfold cJ;split
 ·exact K
 ·split
  ·exact K
  ·split
   ·exact⟨by grind [sF,oG],(K0 1).to (sG k)⟩
   ·split
    ·obtain⟨k1,k2⟩:=K;generalize bs k=t at*
     rw[jz] at k1;refine⟨?_,?_⟩
     ·grind [ET,sF,Int.mul_nonneg]
     ·rw[bJ t] at k2;unfold ET;rw[ay];refine⟨by have:=k2.1;simpa using this,λx a=>?_⟩;rcases List.mem_cons.mp a with a | a
      ·rw[a];exact k2.2 ⟨t.op,t.r,t.mn,t.mx,t.lz,t.cap,t.kids.length⟩ Za8
      ·exact k2.2 x (ZaU _ a)
    ·exact Z7 h b
theorem NJ {t:Tree} (h:sF t) (a:NL (ay t).length (ay t)):Kept t (x5 t):=by
 have hi:=(jz t).mp h;have hl:NL (au t.kids).length (au t.kids):=by
  rw[bJ] at a;exact⟨Zah _,λx b=>a.2 x (ZaU _ b)⟩
 have e:(ay t).length=(au t.kids).length+1:=by rw[bJ];simp
 unfold x5;split
 ·refine⟨EX ω (Z6 (AM hi.2)),?_⟩;grind [EP,EZ,KZ,yr]
 ·split
  ·refine⟨EX ω (EY _ _ (AM hi.2)),?_⟩;grind [Cg,EZ,E0,yr]
  ·split
   ·grind [T3]
   ·exact⟨h,a⟩
mutual
theorem qe:∀t:Tree,sF t->NL (ay t).length (ay t)->Kept t (j8 t)
 | .mk op r mn mx lz cap nk ks,h,hn=>by
  rw[sF] at h
  rw[ay] at hn
  obtain⟨r1,r2⟩:=nU ks h.2 ⟨Zah _,λx hx=>hn.2 x (ZaU _ hx)⟩
  have hN:NL (ay (.mk op r mn mx lz cap nk ks)).length (ay (.mk op r mn mx lz cap nk (dm ks))):=by
   rw[ay,ay]
   refine⟨by have:=r2.1;simp only[Zae];omega,λx hx=>?_⟩
   rcases List.mem_cons.mp hx with hx | hx
   ·rw[hx];exact hn.2 ⟨op,r,mn,mx,lz,cap,ks.length⟩ Za8
   ·exact r2.2 x hx
  have B:=NJ (t:=.mk op r mn mx lz cap nk (dm ks)) (by rw[sF,qd];exact⟨h.1,r1⟩) ⟨Zah _,hN.2⟩
  rw[j8]
  exact⟨B.1,B.2.to hN.1⟩
theorem nU:∀l:List Tree,oG l->NL (au l).length (au l)->oG (dm l)/\NL (au l).length (au (dm l))
 | [],_,h=>⟨by rw[dm,oG];trivial,by rw[dm];exact h⟩
 | t::l,h,hn=>by
  rw[oG] at h
  obtain⟨p1,p2,p3⟩:=nT hn
  have a:=qe t h.1 p1
  have b:=nU l h.2 p2
  rw[dm,oG,cU (j8 t)]
  exact⟨⟨a.1,b.1⟩,(a.2.app b.2).to p3⟩
end
theorem QrQ (y:Tree) (u:Iw.pre y):TZ y:=by
 obtain⟨h1,n⟩:dG y/\sF y:=u;have hi:=(jz y).mp n;have hk:=h1.kids;have hl:=hk.len;have t:=qd y.kids;obtain⟨z,h⟩:=nU y.kids hi.2 ⟨Zah _,hk.2⟩;unfold TZ;simp only[QaU,dq,aj,aO,aU,dA,bG,Zad,NH,EW,aq];refine⟨ω,ω,⟨0,rfl,rfl,Zaj _⟩,λx k=>⟨λe=>?_,λe=>?_⟩⟩
 ·have c:x<y.kids.length:=ω;have q:y.kids.getD x (Tree.mk 0 [] 0 0 false 0 0 [])=y.kids.getD x bn:=rfl;rw[q];have ht:(dm y.kids).take (x+1)=(dm y.kids).take x++[j8 (y.kids.getD x bn)]:=by
   rw[take_one bn ω,bk (show x<(dm y.kids).length by omega),bk c];grind [NI]
  have f:sF (y.kids.getD x bn):=by grind [kh]
  exact⟨ω,e,⟨⟨hk.get c,f⟩,gY c⟩,by grind,x+1,ht.symm,bz ω,ω,ω⟩
 ·have k:(dm y.kids).take x=dm y.kids:=ZaA ω;rw[k,Z5 y];generalize s:dm y.kids=a at*
  have w:∀op,(aw op a).length<=1000000/\dH (aw op a):=λop=>by
   have:=yr op a _ h;have j:dH (aw op a):=⟨Zav this.1 hk.1,this.2⟩;exact⟨j.len,j⟩
  refine⟨λo=>?_,λg=>⟨λo=>?_,λl=>⟨λo=>?_,λv=>?_⟩⟩⟩
  ·rw[show x5 (.mk y.op y.r y.mn y.mx y.lz y.cap y.nk a)=EP (.mk y.op y.r y.mn y.mx y.lz y.cap y.nk a) from Zac o];grind
  ·rw[show x5 (.mk y.op y.r y.mn y.mx y.lz y.cap y.nk a)=Cg (.mk y.op y.r y.mn y.mx y.lz y.cap y.nk a) from(Zaa g).trans (Zac o)];grind
  ·rw[show x5 (.mk y.op y.r y.mn y.mx y.lz y.cap y.nk a)=cJ (.mk y.op y.r y.mn y.mx y.lz y.cap y.nk a) from((Zaa g).trans (Zaa l)).trans (Zac o)];obtain⟨b1,m⟩:=hi.1 o;have d:0<a.length:=ω;have p:dH a:=⟨Zav h.1 hk.1,h.2⟩;have b:sF (a.getD 0 bn):=by grind [kh]
   exact⟨⟨show 1<=a.length by omega,p.get d,m,λi=>⟨(((jz _).mp b).1 i).2,(((jz _).mp b).1 i).1⟩⟩,rfl,rfl,rfl,rfl,rfl,rfl,rfl,rfl⟩
  ·rw[show x5 (.mk y.op y.r y.mn y.mx y.lz y.cap y.nk a)=(.mk y.op y.r y.mn y.mx y.lz y.cap y.nk a) from((Zaa g).trans (Zaa l)).trans (Zaa v)];exact⟨rfl,rfl,rfl,rfl,rfl,rfl,rfl,rfl⟩
def Qj9 (a:Ok dc):Ok Iw:=OJ cZ Z4 ⟨QrD,QrN a,Qj8⟩ QrQ
def aN (y:List Nd):List Nd:=if cR y=true then ay (j8 (bS y).1) else[]
def ov (y:List Nd):Prop:=∀x∈y,iK x
def E1:bf D:=bZ 21 (List Nd) Zf ov (λy=>[.list 7 y]) λy=>.list 7 (lk (aN y))
def T4 (y:List Nd):Prop:=let a:=(bS y).1;let c:=Tree.mk a.op a.r a.mn a.mx a.lz a.cap a.nk a.kids;let b:=NH c;let d:=Tree.mk b.op b.r b.mn b.mx b.lz b.cap b.nk b.kids;Iv (cn y)/\aa [y] (ag (!(cR y)) ([]=lk (aN y)/\True) (Iv (y.length<=1000000/\Option.isSome (fH y.length y))/\aa [y] (Iv (dG c/\sF c)/\aa [a.op] (aa [a.r] (aa [a.mn,a.mx] (aa [a.lz] (aa [a.cap,a.nk] (aa [a.kids] (Iv (dG d)/\aa [b.op] (aa [b.r] (aa [b.mn,b.mx] (aa [b.lz] (aa [b.cap,b.nk] (aa [b.kids] (cW d=lk (aN y)/\True)))))))))))))))
def NK (x:Nd):Prop:=∃g:Nat,(bw x g).2
mutual
def kz:Tree->Prop
 | .mk op r mn mx lz cap nk ks=>NK ⟨op,r,mn,mx,lz,cap,ks.length⟩/\nk=ks.length/\mm ks
def mm:List Tree->Prop
 | []=>True
 | t::l=>kz t/\mm l
end
def iM (t:Tree):kz t↔NK ⟨t.op,t.r,t.mn,t.mx,t.lz,t.cap,t.kids.length⟩/\t.nk=t.kids.length/\mm t.kids:=by cases t;rw[kz];exact ZbW
theorem qf (l:List Tree):mm l↔∀t∈l,kz t:=by
 induction l with
 | nil=>simp[mm]
 | cons a l b=>rw[mm,b];simp
mutual
theorem tI:∀(t:Tree) (m:Nat) (rest:List Nd),kz t->(ay t++rest).length<=m->fH m (ay t++rest)=some (t,rest)
 | .mk op r mn mx lz cap nk ks,m,rest,h,hm=>by
  rw[kz] at h
  rw[ay] at hm ⊢
  simp only[Za1,Zae] at hm ⊢
  obtain⟨k,rfl⟩:∃k,m=k+1:=⟨m-1,ω⟩
  rw[fH]
  simp only[Zad]
  rw[x6 ks k rest h.2.2 ω,h.2.1]
theorem x6:∀(l:List Tree) (m:Nat) (rest:List Nd),mm l->(au l++rest).length<=m->jL (fH m) l.length (au l++rest)=some (l,rest)
 | [],m,rest,_,_=>by simp[jL,au]
 | t::l,m,rest,h,hm=>by
  rw[mm] at h
  rw[au,ZaD] at hm ⊢
  rw[Zae,jL,tI t m _ h.1 hm]
  simp only
  rw[x6 l m rest h.2 (by simp only[Zab] at hm ⊢;omega)]
end
variable {L:List Nd}
theorem E2 {x:Nd} {g:Int} (h:(bw x g).2):(bw x g).1=x.kids/\0<=x.kids:=by
 revert h
 grind [bw]
def Gr (L:List Nd) (f:Nat->Nat->Bool×Nat×Nat):Prop:=∀a g b c,f a g=(true,b,c)->∃t,kz t/\L.drop a=ay t++L.drop b
theorem AP {f:Nat->Nat->Bool×Nat×Nat} (e:Gr L f):∀(k a g b d:Nat),ee f k a g=(true,b,d)->∃c,mm c/\c.length=k/\L.drop a=au c++L.drop b
 | 0,a,g,b,d,h=>by cases h;exact⟨[],by grind [mm],rfl,by rfl⟩
 | k+1,a,g,b,d,h=>by
  rw[ee] at h;split at h
  ·grind
  ·rename_i h1
   obtain⟨t,i,j⟩:=e a g (f a g).2.1 (f a g).2.2 (by
    have:(f a g).1:=by grind
    rw[<-this])
   obtain⟨c,l,m,n⟩:=AP e k _ _ _ _ h;exact⟨t::c,by grind [mm],by grind,by grind [au]⟩
theorem E3 (L:List Nd):∀n,Gr L (eL L n)
 | 0=>λa g b j h=>by cases h
 | n+1=>λa g b j h=>by
  rw[eL] at h;split at h
  ·cases h
  ·rename_i hl
   have e:L.drop a=L.getD a (nd 0)::L.drop (a+1):=by simp_all
   generalize L.getD a (nd 0)=x at h e;split at h
   ·cases h
   ·rename_i hs
    have c:(bw x g).2:=by grind
    obtain⟨i,e2⟩:=E2 c;obtain⟨f,h1,k,l⟩:=AP (E3 L n) _ _ _ _ _ h;rw[i] at k;have d:(f.length:Int)=x.kids:=ω;refine⟨.mk x.op x.r x.mn x.mx x.lz x.cap x.kids f,by rw[kz,d];exact⟨⟨g,c⟩,rfl,h1⟩,?_⟩;rw[e,l,ay,d];rfl
theorem jl (h:cR L):∃t,kz t/\L=ay t/\L.length<=480:=by
 unfold cR at h;simp only[ZaW,ZaP,Zb7] at h;obtain⟨⟨⟨h1,a⟩,b⟩,c⟩:=h;obtain⟨t,d,e⟩:=E3 L 241 0 0 (eL L 241 0 0).2.1 (eL L 241 0 0).2.2 (by grind);grind
theorem x7 {t:Tree} (h:kz t):fH (ay t).length (ay t)=some (t,[]):=by
 have:=tI t (ay t).length [] h (by simp);grind
theorem po {t:Tree} (h:kz t):bS (ay t)=(t,[]):=by
 grind [bS,aq,x7]
theorem NK.rep {x:Nd} (h:NK x) (a:x.op=5):x.kids=1/\0<=x.mn/\x.mn<=30/\(x.mx= -1\/(x.mn<=x.mx/\x.mx<=30)):=by
 obtain⟨g,h⟩:=h;grind [bw]
mutual
theorem E4:∀t:Tree,kz t->sF t
 | .mk op r mn mx lz cap nk ks,h=>by
  rw[kz] at h
  rw[sF]
  refine⟨λh5=>?_,T5 ks h.2.2⟩
  obtain⟨h1,h2,_⟩:=h.1.rep h5
  have h1:(ks.length:Int)=1:=h1
  exact⟨ω,h2⟩
theorem T5:∀l:List Tree,mm l->oG l
 | [],_=>by rw[oG];trivial
 | t::l,h=>by rw[mm] at h;rw[oG];exact⟨E4 t h.1,T5 l h.2⟩
end
theorem QrS (y:List Nd) (j:E1.pre y):T4 y:=by
 have a:cn y:=j;unfold T4;simp only[dq,bG,NH,cW,aq,Zan,Zao];refine⟨a,λh=>?_,λh=>?_⟩
 ·grind [aN]
 ·obtain⟨t,h1,f,g⟩:=jl h;have d:=E4 t h1;have e:bS y=(t,[]):=by grind [po]
  have hs:aN y=ay (j8 t):=by
   grind [aN]
  have b:NL (ay t).length (ay t):=by rw[<-f];exact⟨Zah _,a⟩
  have i:(ay t).length<=480:=by grind
  obtain⟨_,k2⟩:=qe t d b;rw[e,hs];have k1:(ay (j8 t)).length<=(ay t).length:=k2.1;have c:(ay t).length<=1000000:=Zav i (by decide);refine⟨⟨Zav g (by decide),?_⟩,⟨⟨c,b.2⟩,d⟩,⟨Zav k1 c,k2.2⟩,rfl⟩;grind [x7]
def QcD (a:Ok dc):Ok E1:=okZ [HQ,Ir,Iw,Is] Tryz.f21 (λ_=>cX ()) ⟨Qcm a,QjL,Qj9 a,QjM⟩ QrS
def pq (op mn mx:Int) (k s:Nat):Nat:=
 if op=2\/op=7\/op=8 then 1 else if op=4 then s+2*(k-1) else if op=6 then s+2
 else if op=5 then(if mx= -1 then mn.toNat*s+s+2 else mn.toNat*s+(mx.toNat-mn.toNat)*(s+1)) else s
mutual
def bd:Tree->Nat
 | .mk op _ mn mx _ _ _ ks=>pq op mn mx ks.length (aG ks)
def aG:List Tree->Nat
 | []=>0
 | t::l=>bd t+aG l
end
def dI (n:Nat):Int:=min (n:Int) 401
mutual
def jO:Tree->List Int
 | .mk op _ mn mx _ _ _ ks=>dI (pq op mn mx ks.length (aG ks))::fR ks
def fR:List Tree->List Int
 | []=>[]
 | t::l=>jO t++fR l
end
mutual
def qw:Tree->Nat->List Int
 | .mk _ _ _ _ _ _ _ ks,a=>((a+1+(au ks).length:Nat):Int)::ki ks (a+1)
def ki:List Tree->Nat->List Int
 | [],_=>[]
 | t::l,a=>qw t a++ki l (a+(ay t).length)
end
def kA (o:List Int) (a:Nat) (s:List Int):List Int:=o.take a++s++o.drop (a+s.length)
structure mq where
 l:List Nd
 o:List Int
 a:Int
def mq.t (y:mq):Tree:=lk (bS (y.l.drop y.a.toNat)).1
def mq.n (y:mq):Nat:=lk (ay y.t).length
def Qka (args:List (AV D.E)) (s:St D.E):C mq:=match args with
 | [l,o,a]=>av (rowsOf D s 7 l) λl=>av (rowsOf D s 5 o) λo=>aI (cT a) λ_ a=>.ret ⟨l,o,a⟩
 | _=>.fail
def NM (y:mq):Prop:=0<=y.a/\y.o.length=y.l.length/\y.l.length<=480/\∃t r,kz t/\y.l.drop y.a.toNat=ay t++r
abbrev AQ (l:List Int):List (Nat×AO D.E):=[(0,.arr 5 l 3 false)]
variable {a:Nat} {o s:List Int}
def Ge (y:mq):List Int:=lk (kA y.o y.a.toNat (jO y.t))
def szC:bf D:=⟨45,mq,Qka,NM,λy=>[.list 7 y.l,.own 0 1 (ab y.o),Qu9 y.a],λy=>AQ y.o,λy=>Qu9 (y.a+y.n),λy=>AQ (Ge y),1,1⟩
def Z9 (y:mq) (k:Nat):List Int:=lk (kA y.o (y.a.toNat+1) (fR (y.t.kids.take k)))
def OL (y:mq) (k:Nat):Int:=lk (y.a+1+(au (y.t.kids.take k)).length)
def szM (y:mq) (k:Nat):Int:=lk (dI (aG (y.t.kids.take k)))
def szO (y:szC.Y):cH D:=⟨[],[],[(250,⟨Nat,[0,2,18],λx=>[(1,.own 0 1 (ab (Z9 y x))),(7,.ptr 1 0),(8,Qu9 (OL y x)),(9,Qu9 (szM y x)),(19,Qu9 x)],[1],λx=>AQ (Z9 y x),2,λx=>x<=y.t.kids.length,λx=>y.t.kids.length-x⟩)],[],1,[]⟩
def szV (y:szC.Y):Prop:=vc [szC.under (λy=>cZ y.t) (cZ y.t)] Tryz.f45 szC szO y
def Ix (y:mq):List Int:=lk (kA y.o y.a.toNat (qw y.t y.a.toNat))
def enC:bf D:=⟨46,mq,Qka,NM,λy=>[.list 7 y.l,.own 0 1 (ab y.o),Qu9 y.a],λy=>AQ y.o,λy=>Qu9 (y.a+y.n),λy=>AQ (Ix y),1,1⟩
def Z' (y:mq) (k:Nat):List Int:=lk (kA y.o (y.a.toNat+1) (ki (y.t.kids.take k) (y.a.toNat+1)))
def enO (y:enC.Y):cH D:=⟨[],[],[(58,⟨Nat,[0,2,14],λx=>[(1,.own 0 1 (ab (Z' y x))),(7,Qu9 (OL y x)),(15,Qu9 x)],[],λx=>AQ (Z' y x),1,λx=>x<=y.t.kids.length,λx=>y.t.kids.length-x⟩)],[],1,[]⟩
def enV (y:enC.Y):Prop:=vc [enC.under (λy=>cZ y.t) (cZ y.t)] Tryz.f46 enC enO y
def Qe2 (y:mq):Prop:=let k:=Ge y;let g:=y.a.toNat;let h:=lk (bS (List.drop g y.l)).1;let b:=gt (Nd.mk 0 [] 0 0 false 0 0) y.l g;let s:=h.kids.length;let v:=iR .i64 2 (da .i64 b.kids 1);let w:=da .i64 b.mx b.mn;let u:=λp:Prop=>aa [b.op] (aa [b.r] (aa [b.mn,b.mx] (aa [b.lz] (aa [b.cap,b.kids] p))));aC 0 y.a/\ax y.a (ab y.l)/\(∃z:Nat,aa [y.l] (aa [y.a,b.kids] (ab y.o=ab (Z9 y z)/\an .i64 y.a 1=OL y z/\0=szM y z/\0=(z:Int)/\u (y.o=Z9 y z/\(Iv (z<=s))))))/\(∀x:Nat,let f:=Z9 y x;let e:=OL y x;let d:=szM y x;let c:=ab f;let m:=Ge (mq.mk y.l f e);let n:=lk (bS (List.drop e.toNat y.l)).1;let q:=iR .i64 b.mn d;let t:=ax (x:Int) b.kids;let i:Prop:=(aC 0 y.a/\ax y.a c/\e=(y.a+((lk (ay h).length:Nat):Int))/\cA f g (fN 1 401)=k/\True);let j:Prop:=(ag (az b.op 4) (aC 0 y.a/\ax y.a c/\e=(y.a+((lk (ay h).length:Nat):Int))/\cA f g (fN (an .i64 d v) 401)=k/\True) (ag (az b.op 6) (aC 0 y.a/\ax y.a c/\e=(y.a+((lk (ay h).length:Nat):Int))/\cA f g (fN (an .i64 d 2) 401)=k/\True) (ag (az b.op 5) (ag (az b.mx (-1)) (aC 0 y.a/\ax y.a c/\e=(y.a+((lk (ay h).length:Nat):Int))/\cA f g (fN (an .i64 (an .i64 q d) 2) 401)=k/\True) (aC 0 y.a/\ax y.a c/\e=(y.a+((lk (ay h).length:Nat):Int))/\cA f g (fN (an .i64 q (iR .i64 w (an .i64 d 1))) 401)=k/\True)) (aC 0 y.a/\ax y.a c/\e=(y.a+((lk (ay h).length:Nat):Int))/\cA f g (fN d 401)=k/\True))));(Iv (x<=s))->ag t (Iv (NM (mq.mk y.l f e)/\cZ n<cZ h)/\aa [y.l] (aa [c,e] (aa [f] (aC 0 e/\ax e c/\∃z:Nat,aa [y.l] (aa [y.a,b.kids] (c=ab (Z9 y z)/\(e+((lk (ay n).length:Nat):Int))=OL y z/\fN (an .i64 d (gt 0 m e.toNat)) 401=szM y z/\an .i64 (x:Int) 1=(z:Int)/\u (m=Z9 y z/\(Iv (z<=s/\(s-z)<(s-x)))))))))) (ag (az b.op 2) (ag (az b.op 2) (i) (j)) (ag (az b.op 7) (ag (az b.op 7) (i) (j)) (ag (az b.op 8) (i) (j)))))
def Qe3:∀y,Qe2 y=szV y:=λy=>by kernel_rfl
def Qe4 (y:mq):Prop:=let e:=lk (bS (List.drop y.a.toNat y.l)).1;let d:=e.kids.length;let g:=λp:Prop=>aa [y.l] (aa [y.a,(gt (Nd.mk 0 [] 0 0 false 0 0) y.l y.a.toNat).kids] p);aC 0 y.a/\ax y.a (ab y.l)/\(∃z:Nat,g (ab y.o=ab (Z' y z)/\an .i64 y.a 1=OL y z/\0=(z:Int)/\y.o=Z' y z/\(Iv (z<=d))))/\(∀x:Nat,let b:=OL y x;let c:=Z' y x;let f:=lk (bS (List.drop b.toNat y.l)).1;let h:=ax (x:Int) (gt (Nd.mk 0 [] 0 0 false 0 0) y.l y.a.toNat).kids;(Iv (x<=d))->ag h (Iv (NM (mq.mk y.l c b)/\cZ f<cZ e)/\aa [y.l] (aa [ab c,b] (aa [c] (∃z:Nat,g (ab c=ab (Z' y z)/\(b+((lk (ay f).length:Nat):Int))=OL y z/\an .i64 (x:Int) 1=(z:Int)/\Ix (mq.mk y.l c b)=Z' y z/\(Iv (z<=d/\(d-z)<(d-x)))))))) (aC 0 y.a/\ax y.a (ab c)/\b=(y.a+((lk (ay e).length:Nat):Int))/\cA c y.a.toNat b=Ix y/\True))
def Qe5:∀y,Qe4 y=enV y:=λy=>by kernel_rfl
theorem Iy {α:Type} {i b:List α} {d:α} (h:i.length<=a):(i++b).getD a d=b.getD (a-i.length) d:=by
 grind
def K1 (o:List Int) (a:Nat):kA o a []=o:=by simp[kA]
theorem K2 (h:a+s.length<=o.length):(kA o a s).length=o.length:=by
 grind [kA]
theorem K3 {b:Nat} {t:List Int} (h:a+s.length<=o.length) (d:b=a+s.length):kA (kA o a s) b t=kA o a (s++t):=by
 subst d;unfold kA;have c:(o.take a++s++o.drop (a+s.length)).take (a+s.length)=o.take a++s:=ZdF (by grind);have e2:(o.take a++s++o.drop (a+s.length)).drop (a+s.length+t.length)=o.drop (a+s.length+t.length):=by
  rw[<-ZbZ,List.drop_left' (by simp;omega),ZbZ]
 rw[c,e2,Zab,<-Za4];simp
theorem K5 (v:Int) (h:a<o.length):(kA o (a+1) s).set a v=kA o a (v::s):=by
 unfold kA;have b:o.take (a+1)=o.take a++[o[a]]:=by simp_all
 have e2:(o.take a).length=a:=by grind
 rw[b,ZaD,ZaD,ZbY _ _ ω,e2,Zb3];grind
theorem Qe6 {i:Nat} (h:a<=o.length) (hi:i<s.length):(kA o a s).getD (a+i) 0=s.getD i 0:=by
 grind [kA]
theorem ri (t:Tree):jO t=dI (bd t)::fR t.kids:=by cases t;rw[jO,bd];rfl
def size_eq (t:Tree):bd t=pq t.op t.mn t.mx t.kids.length (aG t.kids):=by cases t;rw[bd];rfl
theorem Iz (t:Tree) (a:Nat):qw t a=((a+(ay t).length:Nat):Int)::ki t.kids (a+1):=by
 rw[bJ];cases t with
 | mk op r mn mx lz cap nk b=>rw[qw];simp[Tree.kids];omega
mutual
theorem E5:∀t:Tree,(jO t).length=(ay t).length
 | .mk op r mn mx lz cap nk ks=>by rw[jO,ay,Zae,Zae,kW ks]
theorem kW:∀l:List Tree,(fR l).length=(au l).length
 | []=>by simp[fR,au]
 | t::l=>by rw[fR,au,Zab,Zab,E5 t,kW l]
end
mutual
theorem E6:∀(t:Tree) (a:Nat),(qw t a).length=(ay t).length
 | .mk op r mn mx lz cap nk ks,a=>by rw[qw,ay,Zae,Zae,pr ks]
theorem pr:∀(l:List Tree) (a:Nat),(ki l a).length=(au l).length
 | [],a=>by simp[ki,au]
 | t::l,a=>by rw[ki,au,Zab,Zab,E6 t,pr l]
end
variable {Z:Tree} {l Y:List Nd} {a:Nat}
theorem sH (a b:List Tree):fR (a++b)=fR a++fR b:=by
 induction a with
 | nil=>simp[fR]
 | cons x a c=>simp[fR,c]
theorem tJ (a b:List Tree):aG (a++b)=aG a+aG b:=by
 induction a with
 | nil=>simp[aG]
 | cons x a c=>simp[aG,c];omega
theorem x8:∀(l m:List Tree) (a:Nat),ki (l++m) a=ki l a++ki m (a+(au l).length)
 | [],m,a=>by rfl
 | t::l,m,a=>by
  rw[Za1,ki,x8 l m,ki,au,Zab,ZaD,Za4]
theorem T6 (h:kz Z) (r:List Nd):bS (ay Z++r)=(Z,r):=by
 grind [bS,aq,tI]
theorem kj {r:List Nd} (h:kz Z) (e:l.drop a=ay Z++r):lk (bS (l.drop a)).1=Z:=by
 rw[aq,e,T6 h]
theorem vO {x:Nat} (e:l.drop a=ay Z++Y) (d:x<Z.kids.length):l.drop (a+1+(au (Z.kids.take x)).length)=ay (Z.kids.getD x bn)++(au (Z.kids.drop (x+1))++Y):=by
 have c:Z.kids=Z.kids.take x++(Z.kids.getD x bn::Z.kids.drop (x+1)):=by
  simp_all
 have b:au Z.kids=au (Z.kids.take x)++(ay (Z.kids.getD x bn)++au (Z.kids.drop (x+1))):=by
  grind [ct,au]
 rw[show a+1+(au (Z.kids.take x)).length=a+(1+(au (Z.kids.take x)).length) by omega,<-ZbZ,e,bJ,b,Za1,ZaD];grind
theorem qg (e:l.drop a=ay Z++Y):a<l.length/\l.getD a (nd 0)=⟨Z.op,Z.r,Z.mn,Z.mx,Z.lz,Z.cap,Z.kids.length⟩/\a+(ay Z).length<=l.length:=by
 grind [bJ,List.length_append,List.drop_eq_getElem_cons]
theorem IA (n:Nat):0<=dI n/\dI n<=401:=by grind [dI]
theorem kX (a b:Int):fN a b=min a b:=by grind [fN]
theorem Z_ (s u:Nat):fN (an .i64 (dI s) (dI u)) 401=dI (s+u):=by
 grind [kX,dI]
theorem K8 (s k:Nat) (hk:k<=1000):fN (an .i64 (dI s) (k:Int)) 401=dI (s+k):=by
 grind [kX,dI]
theorem T7 {mn:Int} (s:Nat) (h0:0<=mn) (h1:mn<=30):fN (an .i64 (an .i64 (iR .i64 mn (dI s)) (dI s)) 2) 401=dI (mn.toNat*s+s+2):=by
 obtain⟨m,rfl⟩:=Zau h0;rw[Zad];by_cases hs:s<=401
 ·have e:dI s=s:=by grind [dI]
  have a:m*s<=30*401:=Zci ω hs;grind [kX,dI]
 ·grind [dI,kX]
theorem δ {mn mx:Int} (s:Nat) (h0:0<=mn) (h1:mn<=mx) (g:mx<=30):fN (an .i64 (iR .i64 mn (dI s)) (iR .i64 (da .i64 mx mn) (an .i64 (dI s) 1))) 401=dI (mn.toNat*s+(mx.toNat-mn.toNat)*(s+1)):=by
 obtain⟨m,rfl⟩:=Zau h0;obtain⟨d,j⟩:=Zau (show 0<=mx-m by omega);have c:mx=((m+d:Nat):Int):=ω;subst c;have f:=IA s;rw[o6 ω ω,show((m+d:Nat):Int) -(m:Int)=(d:Int) by omega,Zad,Zad,ZcN,aV (a:=dI s) (b:=1) ω ω];by_cases hs:s<=401
 ·have e:dI s=s:=by grind [dI]
  have h:m*s<=30*401:=Zci ω hs;have i:d*(s+1)<=30*402:=Zci ω ω;grind [kX,dI]
 ·have e:dI s=401:=by grind [dI]
  have g1:m*402<=m*s:=Zci (Zah _) ω;have g2:d*403<=d*(s+1):=Zci (Zah _) ω;grind [kX,dI]
theorem NM.out {y:mq} (h:NM y):∃(a:Nat) (r:List Nd),y.a=a/\kz y.t/\y.l.drop a=ay y.t++r/\y.o.length=y.l.length/\y.l.length<=480/\y.n=(ay y.t).length:=by
 obtain⟨h0,h1,b,t,r,c,d⟩:=h;grind [mq.t,kj,mq.n,aq]
theorem szH (y:mq) (R:szC.pre y):Qe2 y:=by
 obtain⟨a,r,D,hw,q,P,hl,X⟩:=NM.out R;obtain⟨l,o,V⟩:=y;simp only at D q P hl;subst D;obtain⟨n1,S,n3⟩:=qg q;have w:=(iM _).mp hw;have K:lk (bS (List.drop a l)).1=mq.t ⟨l,o,a⟩:=rfl;have G:∀k,OL ⟨l,o,a⟩ k=((a+1+(au ((mq.t ⟨l,o,a⟩).kids.take k)).length:Nat):Int):=λk=>by grind [OL,aq]
 have I:∀k,Z9 ⟨l,o,a⟩ k=kA o (a+1) (fR ((mq.t ⟨l,o,a⟩).kids.take k)):=λk=>by grind [Z9,aq]
 have J:∀k,szM ⟨l,o,a⟩ k=dI (aG ((mq.t ⟨l,o,a⟩).kids.take k)):=λk=>by unfold szM;rw[aq]
 have eS:Ge ⟨l,o,a⟩=kA o a (jO (mq.t ⟨l,o,a⟩)):=by grind [Ge,aq]
 unfold Qe2;simp only[Zad,K];rw[eS];generalize mq.t ⟨l,o,a⟩=t at*
 have L:=bJ t;have M:(ay t).length=(au t.kids).length+1:=by grind
 have s:gt (Nd.mk 0 [] 0 0 false 0 0) l a=⟨t.op,t.r,t.mn,t.mx,t.lz,t.cap,t.kids.length⟩:=S;have E:∀k,(au (t.kids.take k)).length<=(au t.kids).length:=λk=>by
  grind [List.take_append_drop,ct]
 have O:t.kids.length<=(au t.kids).length:=by
  have key:∀l:List Tree,l.length<=(au l).length:=λl=>by
   induction l with
   | nil=>simp
   | cons x l Z=>simp only[au,Zab,Zae];rw[bJ];simp;omega
  exact key _
 have hlen:∀k,(kA o (a+1) (fR (t.kids.take k))).length=o.length:=λk=>K2 (by grind [kW])
 rw[s];simp only[G,I,J];simp only[QaU,dq,aj,dA,Zad,hlen,aq];refine⟨ω,ω,⟨0,by grind [au],by rfl,rfl,by simp[fR,K1],Zaj _⟩,λx Y=>⟨λe=>?_,λe=>?_⟩⟩
 ·have d:x<t.kids.length:=ω;have hk:=vO q d;have z:kz (t.kids.getD x bn):=by grind [qf]
  have ht:=take_one bn d;obtain⟨m1,_,m3⟩:=qg hk;have A:NM ⟨l,kA o (a+1) (fR (t.kids.take x)),((a+1+(au (t.kids.take x)).length:Nat):Int)⟩:=⟨by grind,by grind,hl,_,_,z,by assumption⟩;have u:(bS (List.drop (a+1+(au (t.kids.take x)).length) l)).1=t.kids.getD x bn:=by grind [aq,kj]
  have j:Ge ⟨l,kA o (a+1) (fR (t.kids.take x)),((a+1+(au (t.kids.take x)).length:Nat):Int)⟩=kA o (a+1) (fR (t.kids.take (x+1))):=by
   unfold Ge mq.t;grind [aq,K3,kW,sH,fR]
  have H:(kA o (a+1) (fR (t.kids.take (x+1)))).getD (a+1+(au (t.kids.take x)).length) 0=dI (bd (t.kids.getD x bn)):=by
   rw[ht,sH,fR,fR,Zaw,<-kW,Qe6 ω (by rw[ri];simp),Iy ω,Zb3,ri];rfl
  rw[j,H,u];refine⟨⟨A,gY d⟩,ω,ω,x+1,?_,?_,bz ω,rfl,ω,ω⟩
  ·grind [ct,au]
  ·grind [tJ,aG,Z_]
 ·have d:x=t.kids.length:=ω;subst d;rw[ZaM];have Q:((a+1+(au t.kids).length:Nat):Int)=(a:Int)+((mq.n ⟨l,o,a⟩:Nat):Int):=ω;have f:((a+1+(au t.kids).length:Nat):Int)=(a:Int)+(((ay t).length:Nat):Int):=ω;have fin:∀v,v=dI (bd t)->cA (kA o (a+1) (fR t.kids)) a v=kA o a (jO t):=λv F=>by
   show(kA o (a+1) (fR t.kids)).set a v=_
   grind [K5,ri]
  have cI:=size_eq t;unfold pq at cI;have all:∀v,v=dI (bd t)->(0:Int)<=a/\(a:Int)<(o.length:Int)/\((a+1+(au t.kids).length:Nat):Int)=(a:Int)+(((ay t).length:Nat):Int)/\cA (kA o (a+1) (fR t.kids)) a v=kA o a (jO t):=λv F=>⟨ω,ω,f,fin v F⟩
  have one:t.op=2\/t.op=7\/t.op=8->fN 1 401=dI (bd t):=λh=>by rw[cI,Zac h];decide
  have wf:=w.1;have rest:¬(t.op=2\/t.op=7\/t.op=8)->((t.op=4->(0:Int)<=a/\(a:Int)<(o.length:Int)/\((a+1+(au t.kids).length:Nat):Int)=(a:Int)+(((ay t).length:Nat):Int)/\cA (kA o (a+1) (fR t.kids)) a (fN (an .i64 (dI (aG t.kids)) (iR .i64 2 (da .i64 (t.kids.length:Int) 1))) 401)=kA o a (jO t))/\
    (t.op≠4->(t.op=6->(0:Int)<=a/\(a:Int)<(o.length:Int)/\((a+1+(au t.kids).length:Nat):Int)=(a:Int)+(((ay t).length:Nat):Int)/\cA (kA o (a+1) (fR t.kids)) a (fN (an .i64 (dI (aG t.kids)) 2) 401)=kA o a (jO t))/\
    (t.op≠6->(t.op=5->(t.mx= -1->(0:Int)<=a/\(a:Int)<(o.length:Int)/\((a+1+(au t.kids).length:Nat):Int)=(a:Int)+(((ay t).length:Nat):Int)/\cA (kA o (a+1) (fR t.kids)) a (fN (an .i64 (an .i64 (iR .i64 t.mn (dI (aG t.kids))) (dI (aG t.kids))) 2) 401)=kA o a (jO t))/\
     (t.mx≠-1->(0:Int)<=a/\(a:Int)<(o.length:Int)/\((a+1+(au t.kids).length:Nat):Int)=(a:Int)+(((ay t).length:Nat):Int)/\cA (kA o (a+1) (fR t.kids)) a (fN (an .i64 (iR .i64 t.mn (dI (aG t.kids))) (iR .i64 (da .i64 t.mx t.mn) (an .i64 (dI (aG t.kids)) 1))) 401)=kA o a (jO t)))/\
    (t.op≠5->(0:Int)<=a/\(a:Int)<(o.length:Int)/\((a+1+(au t.kids).length:Nat):Int)=(a:Int)+(((ay t).length:Nat):Int)/\cA (kA o (a+1) (fR t.kids)) a (fN (dI (aG t.kids)) 401)=kA o a (jO t))))):=λh=>by
   rw[Zaa h] at cI;refine⟨λb=>all _ ?_,λb=>⟨λi=>all _ ?_,λi=>⟨λc=>⟨λB=>all _ ?_,λB=>all _ ?_⟩,λc=>all _ ?_⟩⟩⟩
   ·rw[Zac b] at cI;have N:1<=t.kids.length:=by
     obtain⟨g,W⟩:=wf;grind [bw]
    rw[cI,xK ω ω,BX ω ω];have:=K8 (aG t.kids) (2*(t.kids.length-1)) ω;assumption
   ·rw[Zaa b,Zac i] at cI;rw[cI];exact K8 _ 2 ω
   ·rw[Zaa b,Zaa i,Zac c,Zac B] at cI;obtain⟨_,T,U,_⟩:=wf.rep c;grind [T7]
   ·rw[Zaa b,Zaa i,Zac c,Zaa B] at cI;obtain⟨_,T,U,w4⟩:=wf.rep c;grind [δ]
   ·rw[Zaa b,Zaa i,Zaa c] at cI;rw[cI,kX];have:=IA (aG t.kids);omega
  refine⟨λm=>⟨λ_=>all _ (one (.inl m)),λh=>absurd m h⟩,λm=>⟨λp=>⟨λ_=>all _ (one (.inr (.inl p))),λh=>absurd p h⟩,λp=>⟨λC=>all _ (one (.inr (.inr C))),λC=>rest ω⟩⟩⟩
def QrT:Ok szC:=OJ (λy=>cZ y.t) Qe3 trivial szH
theorem enH (y:mq) (A:enC.pre y):Qe4 y:=by
 obtain⟨a,r,j,hw,d,w,hl,D⟩:=NM.out A;obtain⟨l,o,C⟩:=y;simp only at j d w hl;subst j;obtain⟨G,B,H⟩:=qg d;have z:=(iM _).mp hw;have q:lk (bS (List.drop a l)).1=mq.t ⟨l,o,a⟩:=rfl;have n:∀k,OL ⟨l,o,a⟩ k=((a+1+(au ((mq.t ⟨l,o,a⟩).kids.take k)).length:Nat):Int):=λk=>by grind [OL,aq]
 have p:∀k,Z' ⟨l,o,a⟩ k=kA o (a+1) (ki ((mq.t ⟨l,o,a⟩).kids.take k) (a+1)):=λk=>by grind [Z',aq]
 have eS:Ix ⟨l,o,a⟩=kA o a (qw (mq.t ⟨l,o,a⟩) a):=by grind [Ix,aq]
 unfold Qe4;simp only[Zad,q];rw[eS];generalize mq.t ⟨l,o,a⟩=t at*
 have s:=bJ t;have u:(ay t).length=(au t.kids).length+1:=by grind
 have f:gt (Nd.mk 0 [] 0 0 false 0 0) l a=⟨t.op,t.r,t.mn,t.mx,t.lz,t.cap,t.kids.length⟩:=B;have m:∀k,(au (t.kids.take k)).length<=(au t.kids).length:=λk=>by
  grind [List.take_append_drop,ct]
 have v:t.kids.length<=(au t.kids).length:=by
  have key:∀l:List Tree,l.length<=(au l).length:=λl=>by
   induction l with
   | nil=>simp
   | cons x l F=>simp only[au,Zab,Zae];rw[bJ];simp;omega
  exact key _
 have hlen:∀k,(kA o (a+1) (ki (t.kids.take k) (a+1))).length=o.length:=λk=>K2 (by grind [pr])
 rw[f];simp only[n,p];simp only[QaU,dq,aj,dA,Zad,hlen,aq];refine⟨ω,ω,⟨0,by grind [au],rfl,by simp[ki,K1],Zaj _⟩,λx E=>⟨λe=>?_,λe=>?_⟩⟩
 ·have b:x<t.kids.length:=ω;have hk:=vO d b;have h:kz (t.kids.getD x bn):=by grind [qf]
  have ht:=take_one bn b;have i:NM ⟨l,kA o (a+1) (ki (t.kids.take x) (a+1)),((a+1+(au (t.kids.take x)).length:Nat):Int)⟩:=⟨by grind,by grind,hl,_,_,h,by assumption⟩;have g:(bS (List.drop (a+1+(au (t.kids.take x)).length) l)).1=t.kids.getD x bn:=by grind [aq,kj]
  have c:Ix ⟨l,kA o (a+1) (ki (t.kids.take x) (a+1)),((a+1+(au (t.kids.take x)).length:Nat):Int)⟩=kA o (a+1) (ki (t.kids.take (x+1)) (a+1)):=by
   unfold Ix mq.t;grind [aq,K3,pr,x8,ki]
  rw[c,g];refine⟨⟨i,gY b⟩,x+1,?_,bz ω,rfl,ω,ω⟩;grind [ct,au]
 ·have b:x=t.kids.length:=ω;subst b;rw[ZaM];refine⟨ω,ω,ω,?_⟩;show(kA o (a+1) _).set a _=_
  grind [K5,Iz]
def QrU:Ok enC:=OJ (λy=>cZ y.t) Qe5 trivial enH
end
end sx
end Go.Proofs.YtadfknojfbmjgaaGreat
