/- StreamWell: a part of the proof. -/
import Derived.Test.YtiiiphndmbabcaaGreatC3
import Derived.Test.YtiiiphndmbabcaaGreatC4
set_option linter.all false
namespace Go.Proofs.YtiiiphndmbabcaaGreat
open Go.Proofs.Tryz
namespace syn
open Go Go.RowKit cls
def iM (x:Nd):Bool:=(x.op==2||x.r.length==0)&&(x.op==5||(x.mn==0&&x.mx==0&&!x.lz))&&(x.op==6||x.cap==0)
def cj (x:Nd) (g:Int):Int×Bool:=
 if iM x=false then(0,false)
 else if x.op=1\/x.op=7\/x.op=8 then(0,x.af==0)
 else if x.op=2 then(0,x.af==0&&decide (x.r=aX x.r))
 else if x.op=3\/x.op=4 then(x.af,decide (2<=x.af))
 else if x.op=5 then(1,x.af==1&&decide (0<=x.mn)&&decide (x.mn<=30)&&(x.mx==-1||(decide (x.mn<=x.mx)&&decide (x.mx<=30))))
 else if x.op=6 then(1,x.af==1&&x.cap==g+1&&decide (x.cap<=4))
 else(0,false)
def fG (f:Nat->Nat->Bool×Nat×Nat):Nat->Nat->Nat->Bool×Nat×Nat
 | 0,a,g=>(true,a,g)
 | k+1,a,g=>if (f a g).1=false then f a g else fG f k (f a g).2.1 (f a g).2.2
def fH (L:List Nd):Nat->Nat->Nat->Bool×Nat×Nat
 | 0,a,g=>(false,a,g)
 | n+1,a,g=>if L.length<=a then(false,a,g) else
  if (cj (L.getD a (nd 0)) g).2=false then(false,a,g) else fG (fH L n) (cj (L.getD a (nd 0)) g).1.toNat (a+1) (if (L.getD a (nd 0)).op=6 then g+1 else g)
section
variable {Z:Nat->Option Nat}
def nM (x:Nd):Option Int:=
 let bare:=λ(r:List Rg) (mn mx:Int) (lz:Bool) (cap af:Int)=>decide (x.af=af)&&decide (x.mn=mn)&&decide (x.mx=mx)&&decide (x.lz=lz)&&decide (x.cap=cap)&&decide (x.r.length=r.length)
 if x.op=1\/x.op=7\/x.op=8 then(if bare [] 0 0 false 0 0 then some 0 else none)
 else if x.op=2 then(if x.r=aX x.r then(if bare x.r 0 0 false 0 0 then some 0 else none) else none)
 else if x.op=3\/x.op=4 then(if x.af<2 then none else if bare [] 0 0 false 0 x.af then some x.af else none)
 else if x.op=5 then(if x.mn<0\/30<x.mn\/30<x.mx\/x.mx< -1\/(0<=x.mx/\x.mx<x.mn) then none else if bare [] x.mn x.mx x.lz 0 1 then some 1 else none)
 else if x.op=6 then(if x.cap<1\/4<x.cap then none else if bare [] 0 0 false x.cap 1 then some 1 else none)
 else none
def mW (f:Nat->Option Nat):Nat->Nat->Option Nat
 | 0,a=>some a
 | k+1,a=>match f a with
  | none=>none
  | some b=>mW f k b
def gz (L:List Nd):Nat->Nat->Option Nat
 | 0,_=>none
 | n+1,a=>if L.length<=a then none else match nM (L.getD a (nd 0)) with
  | none=>none
  | some k=>mW (gz L n) k.toNat (a+1)
def gP:List Nd->Nat->Option Nat
 | [],g=>some g
 | x::l,g=>if x.op=6 then(if x.cap=(g:Int)+1 then gP l (g+1) else none) else gP l g
def dL (L:List Nd):Bool:=decide (1<=L.length)&&decide (L.length<=480)&&(fH L 241 0 0).1&&(fH L 241 0 0).2.1==L.length
def GQ (L:List Nd):Bool:=decide (1<=L.length)&&decide (L.length<=480)&&(gz L 241 0==some L.length)&&(gP L 0).isSome
theorem MA (x:Nd):iM x↔((x.op=2\/x.r=[])/\(x.op=5\/(x.mn=0/\x.mx=0/\x.lz=false))/\(x.op=6\/x.cap=0)):=by
 grind [iM]
theorem MB (x:Nd) (g:Nat):((cj x g).2↔(∃k,nM x=some k)/\(x.op=6->x.cap=(g:Int)+1))/\((cj x g).2->nM x=some (cj x g).1):=by
 grind [cj,nM,iM]
theorem qV:∀(l m:List Nd) (g:Nat),gP (l++m) g=(gP l g).bind (gP m)
 | [],m,g=>rfl
 | x::l,m,g=>by
  rw[Za1,gP,gP];split
  ·split
   ·exact qV l m _
   ·rfl
  ·exact qV l m g
def gI (L:List Nd) (a b g:Nat):Option Nat:=gP ((L.drop a).take (b-a)) g
def r6 (L:List Nd) (a g:Nat):gI L a a g=some g:=by simp[gI,gP]
theorem lU (L:List Nd) {a b c:Nat} (g:Nat) (h1:a<=b) (d:b<=c):gI L a c g=(gI L a b g).bind λg=>gI L b c g:=by
 unfold gI;rw[<-qV];congr 1;rw[show c-a=(b-a)+(c-b) by omega,ZdW,ZbZ,show a+(b-a)=b by omega]
def DT (L:List Nd) {a:Nat} (g:Nat) (h:a<L.length):gI L a (a+1) g=if (L.getD a (nd 0)).op=6 then(if (L.getD a (nd 0)).cap=(g:Int)+1 then some (g+1) else none) else some g:=by
 unfold gI;have e:(L.drop a).take (a+1-a)=[L.getD a (nd 0)]:=by
  rw[show a+1-a=1 by omega,Zaq h,Zag,Zaf h];rfl
 rw[e];rfl
theorem mX (L:List Nd) (e:∀a b,Z a=some b->a<b/\b<=L.length):∀(k a b:Nat),a<=L.length->mW Z k a=some b->a<=b/\b<=L.length
 | 0,a,b,d,h=>by cases(show some a=some b from h);exact⟨Zah _,d⟩
 | k+1,a,b,d,h=>by
  rw[mW] at h;split at h
  ·cases h
  ·rename_i c g
   have h1:=e a c g;have i:=mX L e k c b h1.2 h;omega
theorem mY (L:List Nd):∀(n a b:Nat),gz L n a=some b->a<b/\b<=L.length
 | 0,a,b,h=>nomatch h
 | n+1,a,b,h=>by
  rw[gz] at h;split at h
  ·cases h
  ·split at h
   ·cases h
   ·rename_i hl _ _ _
    have:=mX L (mY L n) _ _ _ ω h;omega
def QgX (L:List Nd) (f:Nat->Nat->Bool×Nat×Nat) (r:Nat->Option Nat):Prop:=∀a g,
 ((f a g).1->r a=some (f a g).2.1/\gI L a (f a g).2.1 g=some (f a g).2.2)/\(∀b c,r a=some b->gI L a b g=some c->f a g=(true,b,c))
theorem r7 (L:List Nd) {f:Nat->Nat->Bool×Nat×Nat} (h:QgX L f Z) (l:∀a b,Z a=some b->a<b/\b<=L.length):∀(k a g:Nat),a<=L.length->
  ((fG f k a g).1->mW Z k a=some (fG f k a g).2.1/\gI L a (fG f k a g).2.1 g=some (fG f k a g).2.2)/\(∀b d,mW Z k a=some b->gI L a b g=some d->fG f k a g=(true,b,d))
 | 0,a,g,t=>⟨λ_=>⟨rfl,r6 L a g⟩,λb d h1 i=>by
   cases(show some a=some b from h1);rw[r6] at i;cases i;rfl⟩
 | k+1,a,g,t=>by
  obtain⟨q,s⟩:=h a g;rw[fG,mW];constructor
  ·intro h1;by_cases m:(f a g).1=false
   ·grind
   ·rw[Zaa m] at h1 ⊢;obtain⟨q1,u⟩:=q (by grind);have j:=l _ _ q1;obtain⟨p1,p2⟩:=(r7 L h l k (f a g).2.1 (f a g).2.2 j.2).1 h1;grind [mX,lU]
  ·intro b d h1 i;split at h1
   ·cases h1
   ·rename_i c m
    have j:=l _ _ m;have n:=mX L l _ _ _ j.2 h1;rw[lU L g (Zcx j.1) n.1] at i;obtain⟨g1,o,p⟩:=ZdC.1 i;have e:=s c g1 m o;rw[e];simp only[Zb0,Za0];exact(r7 L h l k c g1 j.2).2 b d h1 p
theorem Ke (L:List Nd):∀n,QgX L (fH L n) (gz L n)
 | 0=>λa g=>⟨λh=>(by cases h),λb l h=>(by cases h)⟩
 | n+1=>λa g=>by
  have o:=Ke L n;rw[fH,gz];by_cases hl:L.length<=a
  ·grind
  rw[Zaa hl,Zaa hl];obtain⟨hs,j⟩:=MB (L.getD a (nd 0)) g;have c:=DT L g (show a<L.length by omega);generalize L.getD a (nd 0)=x at hs j c ⊢;constructor
  ·intro h1;by_cases r:(cj x g).2=false
   ·grind
   ·rw[Zaa r] at h1 ⊢;have d:(cj x g).2:=by grind
    rw[j d];obtain⟨p1,p2⟩:=(r7 L o (mY L n) _ _ _ ω).1 h1;refine⟨p1,?_⟩;have f:=mX L (mY L n) _ _ _ ω p1;rw[lU L g (ZcR a) f.1,c];grind
  ·intro b l h1 m;split at h1
   ·cases h1
   ·rename_i k hk
    have f:=mX L (mY L n) _ _ _ ω h1;rw[lU L g (ZcR a) f.1,c] at m;obtain⟨g1,s,p⟩:=ZdC.1 m;have q:x.op=6->x.cap=(g:Int)+1:=λt=>by
     grind
    have d:=hs.2 ⟨⟨k,hk⟩,q⟩;have e:=j d;rw[hk] at e;cases e;rw[Zaa (by grind)];have i:(if x.op=6 then g+1 else g)=g1:=by
     grind
    rw[i];exact(r7 L o (mY L n) _ _ _ ω).2 b l h1 p
theorem MC (L:List Nd):GQ L=dL L:=by
 obtain⟨a,b⟩:=Ke L 241 0 0;grind [GQ,dL,Option.isSome_iff_exists,gI]
end
end syn
set_option maxRecDepth 100000
set_option maxHeartbeats 4000000
namespace sx
noncomputable section
open Go Go.RowKit cls syn
def Qdg (v:AV D.E):C Nd:=aA (asAgg v) λcs=>uw D 7 cs
def QgY (args:List (AV D.E)):C Nd:=match args with
 | [a]=>Qdg a
 | _=>.fail
def QgZ (args:List (AV D.E)):C (Nd×Int):=match args with
 | [a,b]=>aA (Qdg a) λx=>aQ (da b) λ_ n=>.ret (x,n)
 | _=>.fail
def iN (x:Nd):Prop:=x.r.length<=1000000
def RT:bk D:=bP 247 Nd (λa _=>QgY a) (λ_=>True) (λy=>[.agg (D.ba 7 y)]) λy=>.bool (iM y)
def RU:bk D:=bP 214 (Nd×Int) (λa _=>QgZ a) (λy=>iN y.1/\0<=y.2/\y.2<=1000000) (λy=>[.agg (D.ba 7 y.1),QtJ y.2]) λy=>.tuple [QtJ (cj y.1 y.2).1,.bool (cj y.1 y.2).2]
structure WkS where
 l:List Nd
 at_:Int
 gr:Int
abbrev Yb:=WkS×Int
def wkO (l:List Nd) (a g:Int):List (Nat×AO D.E):=[(0,.cells [.list 7 l,.int .i64 a,.int .i64 g] 281 false)]
def Qn0 (args:List (AV D.E)) (s:St D.E):C Yb:=match args with
 | [p,d]=>match p with
  | .ptr b _=>aA (cN (s.h.get b)) λo=>match o with
   | .cells cs _ _=>match cs with
    | [l,a,g]=>aA (aW D s 7 l) λl=>aQ (da a) λ_ a=>aQ (da g) λ_ g=>aQ (da d) λ_ d=>.ret (⟨l,a,g⟩,d)
    | _=>.fail
   | _=>.fail
  | _=>.fail
 | _=>.fail
def WkP (y:Yb):Prop:=(y.1.l.length<=1000000/\∀x∈y.1.l,iN x)/\(0<=y.1.at_/\y.1.at_<=y.1.l.length)/\(0<=y.1.gr/\y.1.gr<=y.1.at_)/\0<=y.2/\y.2<=241
def ox (y:Yb):Bool×Nat×Nat:=fH y.1.l (241-y.2.toNat) y.1.at_.toNat y.1.gr.toNat
def xz:bk D:=⟨176,Yb,Qn0,WkP,λy=>[.ptr 0 0,QtJ y.2],λy=>wkO y.1.l y.1.at_ y.1.gr,λy=>.bool (ox y).1,λy=>wkO y.1.l ((ox y).2.1:Nat) ((ox y).2.2:Nat),1,1⟩
def Yc (y:Yb) (x:Int×Int×Int):Prop:=WkP (⟨y.1.l,x.1,x.2.1⟩,y.2)/\y.1.at_<y.1.l.length/\fG (fH y.1.l (240-y.2.toNat)) x.2.2.toNat x.1.toNat x.2.1.toNat=ox y/\(0<x.2.2->y.2<=240)/\x.2.2<=9223372036854775807
def Qdh (y:Yb):Nd:=y.1.l.getD y.1.at_.toNat (nd 0)
def RV (y:Yb):Int:=if (Qdh y).op=6 then y.1.gr+1 else y.1.gr
def RW (y:Yb):Prop:=y.1.at_<y.1.l.length/\y.2<=240/\(cj (Qdh y) y.1.gr).2
def Qn1 (y:xz.Y):cU D:=⟨[(5,.fact 6)],[],[(1020,⟨Int×Int×Int,[0,1],λx=>[(6,QtJ x.2.2)],[],λx=>wkO y.1.l x.1 x.2.1,1,Yc y,λx=>x.2.2.toNat⟩)],[(127,⟨Unit,[0,1,6],λ_=>[],[],λ_=>wkO y.1.l (y.1.at_+1) (RV y),1,λ_=>RW y,λ_=>0⟩)],1,[]⟩
def Qg0 (y:xz.Y):Prop:=vc [xz.under (λy=>241-y.2.toNat) (241-y.2.toNat),RU] f176 xz Qn1 y
def Yd (args:List (AV D.E)) (s:St D.E):C (List Nd):=match args with
 | [a]=>aA (aW D s 7 a) λl=>.ret (l:List Nd)
 | _=>.fail
def cA (y:List Nd):Prop:=∀x∈y,iN x
def GR:bk D:=bP 116 (List Nd) Yd cA (λy=>[.list 7 y]) λy=>.bool (dL y)
def RX (y:Nd):Prop:=let a:Prop:=(ak (aC y.op 6) (true=iM y/\True) (aC y.cap 0=iM y/\True));let q1:Prop:=(ak (aC y.op 5) (a) (ak (aC y.mn 0) (ak (aC y.mx 0) (ak (!y.lz) (a) (false=iM y/\True)) (false=iM y/\True)) (false=iM y/\True)));ak (aC y.op 2) (q1) (ak (aC (ah y.r) 0) (q1) (false=iM y/\True))
abbrev RAW {T0 T1 T2 T3 T4 T5 T6:Type} (a:T0) (b:T1) (c:T2) (d:T3) (e:T4) (f:T5) (g:T6) (p:Prop):Prop:=aa [a] (aa [b] (aa [c] (aa [d] (aa [e] (aa [f] (aa [g] p))))))
abbrev RA7 (v:Nd) (p:Prop):Prop:=aa [v.op] (aa [v.r] (aa [v.mn] (aa [v.mx] (aa [v.lz] (aa [v.cap] (aa [v.af] p))))))
def RY (y:Nd×Int):Prop:=let g:=aI y.1.mn y.1.mx;let q1:=aC y.1.af 0;let a:=(cj y.1 y.2).2;let b:=(cj y.1 y.2).1;let h:=aC y.1.cap (aD .i64 y.2 1);let i:=!(iM (Nd.mk y.1.op y.1.r y.1.mn y.1.mx y.1.lz y.1.cap y.1.af));let j:Prop:=(RAP y.1.mn (1=b/\false=a/\True));let d:Prop:=(RAP y.1.af (0=b/\q1=a/\True));let e:Prop:=(RAQ y.1.af y.1.af (y.1.af=b/\aI 2 y.1.af=a/\True));let u:=RAP y.1.af (1=b/\false=a/\True);let f:Prop:=(ak (aC y.1.op 5) (ak (aC y.1.af 1) (ak (aI 0 y.1.mn) (ak (aI y.1.mn 30) (ak (aC y.1.mx (-1)) (RAS y.1.af y.1.mn y.1.mn y.1.mx (1=b/\true=a/\True)) (ak g (RAW y.1.af y.1.mn y.1.mn y.1.mx y.1.mx y.1.mn y.1.mx (1=b/\aI y.1.mx 30=a/\True)) (RAV y.1.af y.1.mn y.1.mn y.1.mx y.1.mx y.1.mn (1=b/\false=a/\True)))) (RAR y.1.af y.1.mn y.1.mn (1=b/\false=a/\True))) (RAQ y.1.af y.1.mn (1=b/\false=a/\True))) u) (ak (aC y.1.op 6) (ak (aC y.1.af 1) (ak h (RAR y.1.af y.1.cap y.1.cap (1=b/\aI y.1.cap 4=a/\True)) (RAQ y.1.af y.1.cap (1=b/\false=a/\True))) u) (0=b/\false=a/\True)));let c:Prop:=(ak (aC y.1.op 2) (ak q1 (Iv (y.1.r.length<=100000000)/\RAP y.1.r (0=b/\decide (y.1.r=aX y.1.r)=a/\True)) (0=b/\false=a/\True)) (ak (aC y.1.op 3) (ak (aC y.1.op 3) (e) (f)) (ak (aC y.1.op 4) (e) (f))));Iv True/\RA7 y.1 (ak i (0=b/\false=a/\True) (ak (aC y.1.op 1) (ak (aC y.1.op 1) (d) (c)) (ak (aC y.1.op 7) (ak (aC y.1.op 7) (d) (c)) (ak (aC y.1.op 8) (d) (c)))))
def GU (y:WkS×Int):Prop:=let h:=aD .i64 y.2 1;let q1:=aI (ah y.1.l) y.1.at_;let i:=((ox y).2.2:Int);let j:=((ox y).2.1:Int);let a:=gt (Nd.mk 0 [] 0 0 false 0 0) y.1.l y.1.at_.toNat;let m:=Nd.mk a.op a.r a.mn a.mx a.lz a.cap a.af;let e:=cj m y.1.gr;let f:=λp:Prop=>RAP y.1.l p;let k:Prop:=(false=(ox y).1/\f (y.1.at_=j/\y.1.gr=i/\True));ak q1 (RAQ y.1.at_ y.1.l (k)) (RAQ y.1.at_ y.1.l (ak (az 240 y.2) (k) (aI 0 y.1.at_/\az y.1.at_ (ah y.1.l)/\aa [y.1.l] (aa [y.1.at_,a.op] (aa [a.r] (aa [a.mn,a.mx] (aa [a.lz] (aa [a.cap,a.af] (Iv (iN m/\0<=y.1.gr/\y.1.gr<=1000000)/\aa [a.op] (aa [a.r] (aa [a.mn,a.mx] (aa [a.lz] (aa [a.cap,a.af,y.1.gr,a.op] (aa [a.r] (aa [a.mn,a.mx] (aa [a.lz] (aa [a.cap,a.af,y.1.gr] ((jv .i64 e.1)->ak (!e.2) (k) ((ak (aC a.op 6) (∃z:Unit,aa [y.2,e.1] (aa [y.1.l] (aD .i64 y.1.at_ 1=(y.1.at_+1)/\aD .i64 y.1.gr 1=RV y/\(Iv (RW y))))) (∃z:Unit,aa [y.2,e.1] (aa [y.1.l] (aD .i64 y.1.at_ 1=(y.1.at_+1)/\y.1.gr=RV y/\(Iv (RW y))))))/\(∀x:Unit,(Iv (RW y))->(∃z:Int×Int×Int,aa [y.2] (e.1=z.2.2/\f ((y.1.at_+1)=z.1/\RV y=z.2.1/\(Iv (Yc y z)))))/\(∀b:Int×Int×Int,let g:=(WkS.mk y.1.l b.1 b.2.1,h);let c:=((ox g).2.2:Int);let d:=((ox g).2.1:Int);(Iv (Yc y b))->ak (az 0 b.2.2) (Iv (WkP g/\(241-h.toNat)<(241-y.2.toNat))/\aa [h] (aa [y.1.l] (aa [b.1,b.2.1] (ak (!(ox g).1) (false=(ox y).1/\f (d=j/\c=i/\True)) (∃z:Int×Int×Int,aa [y.2] (cQ .i64 b.2.2 1=z.2.2/\f (d=z.1/\c=z.2.1/\(Iv (Yc y z/\z.2.2.toNat<b.2.2.toNat))))))))) (true=(ox y).1/\f (b.1=j/\b.2.1=i/\True)))))))))))))))))))))))
def RZ:∀y,GU y=Qg0 y:=λy=>by kernel_rfl
abbrev RAD (p:Prop):Prop:=aa ([0,0]:List Int) p
def R0 (y:List Nd):Prop:=let a:=(WkS.mk y 0 0,(0:Int));ak (az (ah y) 1) (false=dL y/\True) (ak (az 480 (ah y)) (false=dL y/\True) (Iv (WkP a)/\RAE (RAP y (RAD (ak (ox a).1 (aC ((ox a).2.1:Int) (ah y)=dL y/\True) (false=dL y/\True))))))
theorem Qn3 (y:Nd) (a:RT.pre y):RX y:=by
 grind [RX,iM]
def Qg1:Ok RT:=okZ [] f247 (λ_=>dr ()) trivial Qn3
theorem Qn4 (y:Nd×Int) (e:RU.pre y):RY y:=by
 obtain⟨⟨op,r,mn,mx,lz,cap,af⟩,g⟩:=y;obtain⟨h1,h,i⟩:r.length<=1000000/\0<=g/\g<=1000000:=e;have c:aD IntKind.i64 g 1=g+1:=bG ω ω;have d:∀a b:Int,(a==b)=decide (a=b):=λa b=>by rfl
 unfold RY cj;simp only[bh,aw,je,mJ,tZ,Qfz,c,d,Zan,Zao,ZaP,Zbi];generalize iM _=f;generalize aX r=k;have j:r.length<=100000000:=ω;cases f
 all_goals
  with_reducible repeat' first | apply And.intro | intro _
  all_goals first
   | assumption
   | (simp_all;done)
   | (simp_all;omega)
   | (exfalso;omega)
def Qg2 (a:Ok cK):Ok RU:=okZ [RT,DH] f214 (λ_=>dr ()) ⟨Qg1,Qay a⟩ Qn4
theorem z7 {L:List Nd} {n:Nat} (h:∀a g,a<=L.length->g<=a->a<=(fH L n a g).2.1/\(fH L n a g).2.1<=L.length/\(fH L n a g).2.2<=(fH L n a g).2.1):∀k a g,a<=L.length->g<=a->a<=(fG (fH L n) k a g).2.1/\(fG (fH L n) k a g).2.1<=L.length/\(fG (fH L n) k a g).2.2<=(fG (fH L n) k a g).2.1
 | 0,a,g,h1,b=>⟨Zah _,h1,b⟩
 | k+1,a,g,h1,b=>by
  have:=h a g h1 b;unfold fG;split
  ·exact this
  ·have:=z7 h k _ _ this.2.1 this.2.2;omega
theorem Kf (L:List Nd):∀n a g,a<=L.length->g<=a->a<=(fH L n a g).2.1/\(fH L n a g).2.1<=L.length/\(fH L n a g).2.2<=(fH L n a g).2.1
 | 0,a,g,h1,b=>⟨Zah _,h1,b⟩
 | n+1,a,g,h1,b=>by
  unfold fH;split
  ·grind
  ·split
   ·grind
   ·have:=z7 (Kf L n) (cj (L.getD a (nd 0)) g).1.toNat (a+1) (if (L.getD a (nd 0)).op=6 then g+1 else g) ω (by grind);omega
theorem Qg3 (y:Yb) (B:xz.pre y):GU y:=by
 obtain⟨⟨l,a,g⟩,d⟩:=y;obtain⟨⟨h1,e⟩,v,w,c⟩:(l.length<=1000000/\∀x∈l,iN x)/\(0<=a/\a<=l.length)/\(0<=g/\g<=a)/\0<=d/\d<=241:=B;obtain⟨a,rfl⟩:=Zau v.1;obtain⟨g,rfl⟩:=Zau w.1;obtain⟨d,rfl⟩:=Zau c.1;have j:ox (⟨l,a,g⟩,d)=fH l (241-d) a g:=by rfl
 have p:=Kf l;unfold GU;simp only[bN,bh,aw,ZaX,ZaY,ZaZ,Zan,Zao,di,Zad,zM];have u:aD .i64 (d:Int) 1=((d+1:Nat):Int):=by grind
 have s:(⟨(l.getD a ⟨0,[],0,0,false,0,0⟩).op,(l.getD a ⟨0,[],0,0,false,0,0⟩).r,(l.getD a ⟨0,[],0,0,false,0,0⟩).mn,(l.getD a ⟨0,[],0,0,false,0,0⟩).mx,(l.getD a ⟨0,[],0,0,false,0,0⟩).lz,(l.getD a ⟨0,[],0,0,false,0,0⟩).cap,(l.getD a ⟨0,[],0,0,false,0,0⟩).af⟩:Nd)=l.getD a (nd 0):=rfl;have t:(l.getD a ⟨0,[],0,0,false,0,0⟩).op=(l.getD a (nd 0)).op:=rfl;rw[s,t,u,j];have zero:∀(n:Nat),(n=0\/l.length<=a\/(cj (l.getD a (nd 0)) g).2=false)->false=(fH l n a g).1/\(a:Int)=((fH l n a g).2.1:Nat)/\(g:Int)=((fH l n a g).2.2:Nat):=λn h=>by
  cases n with
  | zero=>exact⟨rfl,rfl,rfl⟩
  | succ n=>
   grind [fH]
 have I:aD .i64 (a:Int) 1=(a:Int)+1:=bG ω ω;have J:aD .i64 (g:Int) 1=(g:Int)+1:=bG ω ω;have on:Qdh (⟨l,a,g⟩,d)=l.getD a (nd 0):=rfl;have C:RV (⟨l,a,g⟩,d)=if (l.getD a (nd 0)).op=6 then(g:Int)+1 else g:=by rfl
 have ok:RW (⟨l,a,g⟩,d)=((a:Int)<l.length/\(d:Int)<=240/\(cj (l.getD a (nd 0)) g).2):=by rfl
 rw[C,ok];refine⟨λk=>zero _ (.inr (.inl ω)),λk=>⟨λk2=>zero _ (.inl ω),λk2=>⟨ω,ω,⟨e _ ?_,ω,ω⟩,λkf=>⟨λk3=>zero _ (.inr (.inr k3)),λk3=>⟨⟨λk4=>?_,λk4=>?_⟩,λ_=>⟨⟨((a:Int)+1,(if (l.getD a (nd 0)).op=6 then(g:Int)+1 else g),(cj (l.getD a (nd 0)) g).1),rfl,rfl,rfl,?_⟩,λx A=>?_⟩⟩⟩⟩⟩⟩
 ·grind
 ·grind
 ·grind
 ·have M:a<l.length:=ω;have L:d<=240:=ω;have F:241-d=(240-d)+1:=ω;obtain⟨G,K⟩:∃G:Nat,(if (l.getD a (nd 0)).op=6 then g+1 else g)=G:=⟨_,rfl⟩;have i:(if (l.getD a (nd 0)).op=6 then(g:Int)+1 else g)=(G:Int):=by grind
  have z:G<=g+1:=ω;rw[i];refine⟨⟨⟨h1,e⟩,⟨show 0<=(a:Int)+1 by omega,show(a:Int)+1<=(l.length:Int) by omega⟩,⟨show 0<=(G:Int) by omega,show(G:Int)<=(a:Int)+1 by omega⟩,c.1,c.2⟩,show(a:Int)<(l.length:Int) by omega,?_,λ_=>k2,kf.2⟩;grind [fH,Int.toNat_natCast]
 ·obtain⟨b,g1,q⟩:=x;obtain⟨⟨_,i1,i2,_⟩,i3,i4,i5,i6⟩:=A;have i1:0<=b/\b<=(l.length:Int):=i1;have i2:0<=g1/\g1<=b:=i2;have i4:fG (fH l (240-d)) q.toNat b.toNat g1.toNat=fH l (241-d) a g:=i4.trans j;obtain⟨b,rfl⟩:=Zau i1.1;obtain⟨g1,rfl⟩:=Zau i2.1;simp only[Zad] at i4;have f:ox (⟨l,b,g1⟩,((d+1:Nat):Int))=fH l (240-d) b g1:=by
   grind [ox,Int.toNat_natCast]
  simp only;rw[f];obtain⟨b1,D,E⟩:=p (240-d) b g1 ω ω;refine⟨λk4=>⟨⟨⟨⟨h1,e⟩,i1,i2,ω,show((d+1:Nat):Int)<=241 by omega⟩,ω⟩,λk5=>?_,λk5=>?_⟩,λk4=>?_⟩
  ·obtain⟨m,o⟩:∃m,q.toNat=m+1:=⟨q.toNat-1,ω⟩;grind [fG]
  ·obtain⟨m,o⟩:∃m,q.toNat=m+1:=⟨q.toNat-1,ω⟩;rw[o] at i4;unfold fG at i4;rw[Zaa (by grind)] at i4;have e2:cQ .i64 q 1=q-1:=qJ ω (by grind);have H:(q-1).toNat=m:=ω;rw[e2];refine⟨(((fH l (240-d) b g1).2.1:Nat),((fH l (240-d) b g1).2.2:Nat),q-1),rfl,rfl,rfl,⟨⟨⟨h1,e⟩,⟨ZaF _,show((fH l (240-d) b g1).2.1:Int)<=(l.length:Int) by omega⟩,⟨ZaF _,show((fH l (240-d) b g1).2.2:Int)<=((fH l (240-d) b g1).2.1:Int) by omega⟩,c.1,c.2⟩,i3,?_,λ_=>k2,by grind⟩,by grind⟩;grind [Int.toNat_natCast]
  ·rw[show q.toNat=0 by omega] at i4;rw[<-i4];exact⟨rfl,rfl,rfl⟩
def Qdi (a:Ok cK):Ok xz:=Ql (λy=>241-y.2.toNat) RZ (Qg2 a) Qg3
theorem Qn5 (y:List Nd) (c:GR.pre y):R0 y:=by
 have c:∀x∈y,iN x:=c;unfold R0;simp only[bh,aw,tZ,eV,mI];have e:ox (⟨y,0,0⟩,0)=fH y 241 0 0:=rfl;rw[e];unfold dL;have d:∀a b:Nat,(a==b)=decide ((a:Int)=b):=λa b=>by grind
 rw[d];refine⟨λh=>?_,λh=>⟨λf=>?_,λf=>⟨⟨⟨show y.length<=1000000 by omega,c⟩,⟨ZaQ _,ZaF _⟩,⟨ZaQ _,ZaQ _⟩,ZaQ _,show(0:Int)<=241 by decide⟩,λg=>?_,λg=>?_⟩⟩⟩
 ·grind
 ·grind
 ·grind
 ·grind
def QaN (a:Ok cK):Ok GR:=okZ [xz] f116 (λ_=>dr ()) (Qdi a) Qn5
abbrev QL:=List Int×List Int
abbrev QS:=QL×b_
def gq (p:QL):List Gt:=(List.range p.1.length).map λi=>(if p.1.getD i 0= -1 then 65533 else p.1.getD i 0,p.2.getD (i+1) 0-p.2.getD i 0)
structure BN (p:QL):Prop where
 len:p.1.length<=1000
 r:∀i,i<p.1.length->p.1.getD i 0=if fi (gq p) i then-1 else aK (gq p) i
 a:∀i,i<=p.1.length->p.2.getD i 0=aF (gq p) i
 al:p.2.length=p.1.length+1
 f:Fx (gq p)
 n:∀g∈gq p,1<=g.2/\g.2<=4
 p0:∀i,0<=aK (gq p) i
def fv (y:QS):Prop:=BN y.1/\(0<=y.2.i/\y.2.i<=100000)/\y.2.aq=0/\0<=y.2.ab/\y.2.ab<=4
def qO (p:QL) (s:b_):List (Nat×AO D.E):=[(0,.cells [.list 14 p.1,.list 5 p.2,.int .i64 s.i,.int .i64 s.ab,.int .i64 s.au,.int .i64 s.wh] 216 false)]
def Qdj (v:AV D.E) (s:St D.E):C QS:=match v with
 | .ptr b _=>aA (cN (s.h.get b)) λo=>match o with
  | .cells cs _ _=>match cs with
   | [r,a,i,g,e,w]=>aA (aW D s 14 r) λr=>aA (aW D s 5 a) λa=>aQ (da i) λ_ i=>aQ (da g) λ_ g=>aQ (da e) λ_ e=>aQ (da w) λ_ w=>.ret (((r:List Int),(a:List Int)),⟨i,0,g,e,w⟩)
   | _=>.fail
  | _=>.fail
 | _=>.fail
def inQ (args:List (AV D.E)) (s:St D.E):C QS:=match args with
 | [p]=>Qdj p s
 | _=>.fail
def R1 (args:List (AV D.E)) (s:St D.E):C (QS×Int):=match args with
 | [p,a]=>aA (Qdj p s) λy=>aQ (da a) λ_ n=>.ret (y,n)
 | _=>.fail
def QaO (args:List (AV D.E)) (s:St D.E):C (QS×Int×Int):=match args with
 | [p,a,b]=>aA (Qdj p s) λy=>aQ (da a) λ_ m=>aQ (da b) λ_ n=>.ret (y,m,n)
 | _=>.fail
abbrev xA (f:FuncId) (Y:Type) (qs:Y->QS) (yn:List (AV D.E)->St D.E->C Y) (pre:Y->Prop) (args:Y->List (AV D.E)) (out:Y->b_) (res:Y->AV D.E):bk D:=⟨f,Y,yn,λy=>fv (qs y)/\pre y,λy=>.ptr 0 0::args y,λy=>qO (qs y).1 (qs y).2,res,λy=>qO (qs y).1 (out y),1,1⟩
variable {G:List Gt}
def Qg4 (s:b_) (e a:Int):b_:=⟨s.i,s.aq,s.ab,cw (aC s.au 0) e s.au,cw (aC s.au 0) a s.wh⟩
def r8:bk D:=xA 126 (QS×Int×Int) (·.1) QaO (λ_=>True) (λy=>[QtJ y.2.1,QtJ y.2.2]) (λy=>Qg4 y.1.2 y.2.1 y.2.2) λ_=>.tuple []
def yL:bk D:=xA 127 QS (λy=>y) inQ (λy=>y.2.i<=y.1.1.length) (λ_=>[]) (λy=>y.2) λy=>QtJ (aF (gq y.1) (nn y.2).i)
def qW:bk D:=xA 184 (QS×Int) (·.1) R1 (λy=>0<=y.2/\y.2<=127) (λy=>[.int .i32 y.2]) (λy=>y.1.2) λy=>.bool (a_ (gq y.1.1) (nn y.1.2) y.2)
def R2:bk D:=bP 303 Int (λa _=>in1 a) (λ_=>True) (λy=>[.int .i32 y]) λy=>.bool (iq y)
def z_:bk D:=bP 278 (List Rg) BH (λ_=>True) (λy=>[.list 6 y]) λy=>.list 7 [wT y]
def R3:bk D:=bP 302 (List Rg) BH (λ_=>True) (λy=>[.list 6 y]) λy=>.bool (df y)
def BO:bk D:={ yG with f:=185 }
def Qob (y:BO.Y):cU D:=⟨[],[],[(250,⟨Nat,[1],λx=>[(5,.grow 7 ({ nd y.1 with af:=y.2.length }::(y.2.take x).flatten) 0),(6,QtJ x)],[],λ_=>[(0,.tok 7 206)],1,λx=>x<=y.2.length,λx=>y.2.length-x⟩)],[],1,[]⟩
def R4:bk D:={ Mr with f:=283 }
def MD:bk D:={ GC with f:=284 }
def Qoe (y:MD.Y):cU D:=⟨[],[],[(122,⟨Nat,[0],λx=>[(4,QtJ (gV (y.take x))),(5,QtJ x)],[],λ_=>[],0,λx=>x<=y.length,λx=>y.length-x⟩)],[],1,[]⟩
def ME:bk D:=xA 282 QS (λy=>y) inQ (λ_=>True) (λ_=>[]) (λy=>zz (dm (gq y.1) (nn y.2))) λy=>.tuple [.str (gO (gq y.1) (nn y.2)),.bool (gF (gq y.1) (nn y.2))]
def MF (y:QS) (x:Int×By×Bool):Prop:=(0<=x.1/\x.1<=100000)/\x.2.1.length<=x.1/\(nn y.2).i<=x.1.toNat/\(x.2.2=decide ((nn y.2).i<x.1.toNat))/\∃n,(gq y.1).length<=n+x.1.toNat/\cr (gq y.1) n x.1.toNat x.2.1=cr (gq y.1) ((gq y.1).length-(nn y.2).i) (nn y.2).i []
def Qog (y:ME.Y):cU D:=⟨[],[],[(28,⟨Int×By×Bool,[0],λx=>[(4,.str x.2.1),(5,.bool x.2.2)],[],λx=>qO y.1 ⟨x.1,0,y.2.ab,y.2.au,y.2.wh⟩,1,MF y,λx=>y.1.1.length-x.1.toNat⟩)],[],1,[]⟩
def R5 (y:(((List Int)×(List Int))×b_)×Int×Int):Prop:=let a:=aC y.1.2.au 0;let q1:=cw a y.2.2 y.1.2.wh;let b:=cw a y.2.1 y.1.2.au;let c:=λp:Prop=>aa [y.1.1.1,y.1.1.2] (aa [y.1.2.i,y.1.2.ab] p);ak a (c (y.2.1=b/\y.2.2=q1/\True)) (c (y.1.2.au=b/\y.1.2.wh=q1/\True))
def R6 (y:((List Int)×(List Int))×b_):Prop:=let a:=gt 0 y.1.2 y.2.i.toNat;aI 0 y.2.i/\az y.2.i (ah y.1.2)/\aa [y.1.2] (aa [y.2.i,a] (a=aF (gq y.1) y.2.i.toNat/\aa [y.1.1,y.1.2] (aa [y.2.i,y.2.ab,y.2.au,y.2.wh] (True))))
def R7 (y:(((List Int)×(List Int))×b_)×Int):Prop:=let a:=a_ (gq y.1.1) (nn y.1.2) y.2;let q1:=az y.1.2.i (ah y.1.1.1);let b:=gt 0 y.1.1.1 y.1.2.i.toNat;let c:Prop:=(aa [y.1.1.1,y.1.1.2] (aa [y.1.2.i,y.1.2.ab,y.1.2.au,y.1.2.wh] (True)));ak q1 (aI 0 y.1.2.i/\q1/\aa [y.1.2.i] (aa [y.1.1.1,y.1.1.1] (aa [y.1.2.i,b] (aC b y.2=a/\c)))) (aa [y.1.2.i] (aa [y.1.1.1] (false=a/\c)))
def QaP (y:Int):Prop:=let a:Prop:=(ak (aI 123 y) (aI y 126=iq y/\True) (false=iq y/\True));let q1:Prop:=(ak (aI 91 y) (ak (aI y 96) (true=iq y/\True) (a)) (a));let b:Prop:=(ak (aI 58 y) (ak (aI y 64) (true=iq y/\True) (q1)) (q1));ak (aI 33 y) (ak (aI y 47) (true=iq y/\True) (b)) (b)
def GV (y:List (Int×Int)):Prop:=
 ([Nd.mk 2 y 0 0 false 0 0]:List Nd)=([wT y]:List Nd)/\
 True
def R9 (y:List (Int×Int)):Prop:=let a:=(gt (0,0) y 0).1;let q1:=(gt (0,0) y 0).2;ak (aC (ah y) 1) (Tt 1 (az 0 (ah y)/\Tt 1 (az 0 (ah y)/\aa [a,q1] (aC a q1=df y/\True)))) (false=df y/\True)
def R' (y:Int×(List (List Nd))):Prop:=let a:=ah y.2;let q1:=y.2.length;let b:=bX y.1 y.2;let c:=Nd.mk y.1 [] 0 0 false 0 (q1:Int);ak (aC a 1) (Tt 1 (az 0 a/\gt [] y.2 0=b/\True)) (ak (aC a 0) (([Nd.mk 1 [] 0 0 false 0 0]:List Nd)=b/\True) ((∃z:Nat,aa [y.2] (([Nd.mk y.1 [] 0 0 false 0 a]:List Nd)=(c::(List.flatten (List.take z y.2)))/\0=(z:Int)/\(Iv (z<=q1))))/\(∀x:Nat,let d:=(c::(List.flatten (List.take x y.2)));let e:=bM d (gt [] y.2 (x:Int).toNat);(Iv (x<=q1))->ak (az (x:Int) a) (aI 0 (x:Int)/\az (x:Int) a/\bF (ah e) 72/\∃z:Nat,aa [y.2] (e=(c::(List.flatten (List.take z y.2)))/\aD .i64 (x:Int) 1=(z:Int)/\(Iv (z<=q1/\(q1-z)<(q1-x))))) (d=b/\True))))
def R_ (y:(List UInt8)×(List UInt8)):Prop:=let a:=!(aC (dS y.1) (dS y.2));ak a (az (dS y.1) (dS y.2)=ir y.1 y.2/\True) (slt y.1 y.2=ir y.1 y.2/\True)
def Sa (y:List UInt8):Prop:=ak (az 2 (dS y)) (0=(ew y).1/\false=(ew y).2/\True) ((∃z:Nat,RAP y (0=gV (List.take z y)/\0=(z:Int)/\(Iv (z<=y.length))))/\(∀x:Nat,let a:=y.length;let q1:=gV (List.take x y);let b:=az (x:Int) (dS y);(Iv (x<=a))->ak b (aI 0 (x:Int)/\b/\∃z:Nat,RAP y (aD .i64 (iY .i64 q1 10) (vT .i64 (cQ .u8 (sat y (x:Int)) 48))=gV (List.take z y)/\aD .i64 (x:Int) 1=(z:Int)/\(Iv (z<=a/\(a-z)<(a-x))))) (q1=(ew y).1/\aI q1 30=(ew y).2/\True)))
def Sb (y:((List Int)×(List Int))×b_):Prop:=let a:=y.1.1;let q1:=gO (gq y.1) (nn y.2);let e:=ah a;let j:=gF (gq y.1) (nn y.2);let k:=((cr (gq y.1) ((gq y.1).length-y.2.i.toNat) y.2.i.toNat []).1:Int);let f:=λp:Prop=>aa [a,y.1.2] p;let g:=λp:Prop=>aa [y.2.ab,y.2.au,y.2.wh] p;let l:Prop:=(y.2.ab=((y.2.ab.toNat:Nat):Int)/\aa [y.2.au,y.2.wh] (True));(∃z:Int×(List UInt8)×Bool,[]=z.2.1/\false=z.2.2/\f (y.2.i=z.1/\g ((Iv (MF y z)))))/\(∀x:Int×(List UInt8)×Bool,let b:=gt 0 a x.1.toNat;let h:=yr x.2.1 (Utf8.encode b).data.toList;let c:Prop:=(x.2.1=q1/\x.2.2=j/\f (x.1=k/\l));let d:Prop:=(aI 0 x.1/\az x.1 e/\aI (dS h) BIG/\aa [a] (aa [x.1,b] (∃z:Int×(List UInt8)×Bool,h=z.2.1/\true=z.2.2/\f (aD .i64 x.1 1=z.1/\g ((Iv (MF y z/\(a.length-z.1.toNat)<(a.length-x.1.toNat))))))));(Iv (MF y x))->ak (az x.1 e) (aI 0 x.1/\az x.1 e/\ak (aI 48 b) (aI 0 x.1/\az x.1 e/\aa [x.1] (aa [a,a] (aa [x.1,b] (aa [a] (aa [x.1,b] (ak (aI b 57) (ak (!(seq x.2.1 [])) (d) (aI 0 x.1/\az x.1 e/\aa [a] (aa [x.1,b] (ak (!(aC b 48)) (d) (∃z:Int×(List UInt8)×Bool,x.2.1=z.2.1/\true=z.2.2/\f (aD .i64 x.1 1=z.1/\g ((Iv (MF y z/\(a.length-z.1.toNat)<(a.length-x.1.toNat)))))))))) (c))))))) (aa [x.1] (aa [a,a] (aa [x.1,b] (c))))) (aa [x.1] (aa [a] (c))))
def xB (p:QL):(gq p).length=p.1.length:=by unfold gq;simp
theorem DU {i:Nat} (h:fi G i):aK G i=65533:=by
 grind [aK,fi]
theorem BN.rune {p:QL} (h:BN p) {i:Nat} (hi:i<p.1.length):(fi (gq p) i=false/\p.1.getD i 0=aK (gq p) i)\/(fi (gq p) i/\p.1.getD i 0= -1/\aK (gq p) i=65533):=by
 have:=h.r i hi;grind [DU]
def GW {s:Ps} (r:Int) (h:s.i<G.length):a_ G s r=decide (aK G s.i=r):=Rq r h
def Qoi (y:QS×Int×Int) (a:r8.pre y):R5 y:=by
 unfold R5;simp only[fK];exact⟨λh=>by rw[h];exact⟨rfl,rfl⟩,λh=>by rw[h];exact⟨rfl,rfl⟩⟩
def ug:Ok r8:=okZ [] f126 (λ_=>dr ()) trivial Qoi
def Qoj (y:QS) (d:yL.pre y):R6 y:=by
 obtain⟨⟨h1,b,_⟩,c⟩:=d;have h1:BN y.1:=h1;have b:0<=y.2.i/\y.2.i<=100000:=b;have c:y.2.i<=y.1.1.length:=c;have e:=h1.al;unfold R6;simp only[eN,Zai,gx,eV,aw,di];exact⟨b.1,ω,h1.a _ ω⟩
def DV:Ok yL:=okZ [] f127 (λ_=>dr ()) trivial Qoj
theorem Qok (y:QS×Int) (d:qW.pre y):R7 y:=by
 obtain⟨⟨h1,a,_⟩,b,c⟩:=d;have h1:BN y.1.1:=h1;have a:0<=y.1.2.i/\y.1.2.i<=100000:=a;have b:0<=y.2:=b;have c:y.2<=127:=c;have hl:=xB y.1.1;unfold R7;simp only[fK,gx,eV,mI,aw,di];refine⟨λh=>⟨a.1,h,?_⟩,λh=>(BM (s:=nn y.1.2) y.2 (show(gq y.1.1).length<=y.1.2.i.toNat by omega)).symm⟩;rw[GW (s:=nn y.1.2) y.2 (show y.1.2.i.toNat<(gq y.1.1).length by omega)];have e:(nn y.1.2).i=y.1.2.i.toNat:=rfl;rcases h1.rune (i:=y.1.2.i.toNat) ω with⟨_,h⟩ | ⟨_,h,f⟩
 ·grind
 ·grind
def xC:Ok qW:=okZ [] f184 (λ_=>dr ()) trivial Qok
def Qol (y:Int) (a:R2.pre y):QaP y:=Qgs y trivial
def Qg6:Ok R2:=okZ [] f303 (λ_=>dr ()) trivial Qol
theorem Qg7 (y:List Rg) (a:z_.pre y):GV y:=by
 unfold GV
 first
 | exact⟨rfl,trivial⟩
 | (simp only[fK];rfl)
def Qdk:Ok z_:=okZ [] f278 (λ_=>dr ()) trivial Qg7
theorem Qom (y:List Rg) (a:R3.pre y):R9 y:=by
 unfold R9;simp only[fK,eV,je,mJ,aw,di];grind [df]
def Qg8:Ok R3:=okZ [] f302 (λ_=>dr ()) trivial Qom
theorem Qon (y:By×By) (a:R4.pre y):R_ y:=by
 unfold R_;simp only[l7,Zai,lQ,Zan,Zao,je,mJ];unfold ir;refine⟨λh=>?_,λh=>?_⟩
 ·grind
 ·rw[ZaN (show ¬y.1.length<y.2.length by omega),show(y.1.length==y.2.length)=true by grind,bytesLess_eq];rfl
def Qg9:Ok R4:=okZ [] f283 (λ_=>dr ()) trivial Qon
theorem Qdl (a:Int):iY .i64 10 a=iY .i64 a 10:=by grind [iY]
theorem Qoo (y:By) (a:MD.pre y):Sa y:=by
 have h:=Qgw y a;unfold J9 at h;unfold Sa;grind [Qdl]
def Qha:Ok MD:=okZ [] f284 Qoe trivial Qoo
theorem Qop (y:Int×List (List Nd)) (a:BO.pre y):R' y:=by
 have h:=Qgv y a;unfold J' at h;unfold R';simp only[fK] at h ⊢;grind
def QaQ:Ok BO:=okZ [] f185 Qob trivial Qop
theorem BP {n:Int} (h0:0<=n) (h1:n<128):(Utf8.encode n).data.toList=[UInt8.ofNat n.toNat]:=by
 obtain⟨m,rfl⟩:=Zau h0;have:∀k:Nat,k<128->(Utf8.encode (k:Int)).data.toList=[UInt8.ofNat k]:=by decide
 grind
theorem Qoq (y:QS) (A:ME.pre y):Sb y:=by
 obtain⟨⟨h1,d,D,p⟩,_⟩:=A;have h1:BN y.1:=h1;have d:0<=y.2.i/\y.2.i<=100000:=d;have p:0<=y.2.ab/\y.2.ab<=4:=p;have hl:=xB y.1;have len:=h1.len;unfold Sb;simp only[bN,fK,aw,lQ,w_,fB,di,Zan,Zao];have r:y.2.ab=((y.2.ab.toNat:Nat):Int):=ω;refine⟨⟨(y.2.i,[],false),rfl,rfl,rfl,d,by grind,Zah _,by simp[nn],_,?_,rfl⟩,λx v=>?_⟩
 ·show _<=(gq y.1).length-y.2.i.toNat+y.2.i.toNat;omega
 ·obtain⟨i,b,k⟩:=x;obtain⟨i1,i2,i3,i4,n,i5,i6⟩:=v;simp only at*
  have i3:y.2.i.toNat<=i.toNat:=i3;have i4:k=decide (y.2.i.toNat<i.toNat):=i4;have fin:cr (gq y.1) n i.toNat b=(i.toNat,b)->b=gO (gq y.1) (nn y.2)/\k=gF (gq y.1) (nn y.2)/\i=((cr (gq y.1) ((gq y.1).length-y.2.i.toNat) y.2.i.toNat []).1:Int)/\y.2.ab=((y.2.ab.toNat:Nat):Int):=λh=>by
   have e:cr (gq y.1) ((gq y.1).length-(nn y.2).i) (nn y.2).i []=(i.toNat,b):=i6.symm.trans h;refine⟨by grind [gO],by grind [gF],?_,r⟩;have e:cr (gq y.1) ((gq y.1).length-y.2.i.toNat) y.2.i.toNat []=(i.toNat,b):=e;grind
  have stop:¬(i.toNat<(gq y.1).length/\48<=aK (gq y.1) i.toNat/\aK (gq y.1) i.toNat<=57)->cr (gq y.1) n i.toNat b=(i.toNat,b):=λh=>by
   cases n with
   | zero=>rfl
   | succ n=>unfold cr;rw[Zaa h]
  refine⟨λq1=>⟨i1.1,q1,λl=>⟨i1.1,q1,λo=>?_,λo=>fin (stop λw=>?_)⟩,λl=>fin (stop λw=>?_)⟩,λq1=>fin (stop λw=>ω)⟩
  ·have u:fi (gq y.1) i.toNat=false/\y.1.1.getD i.toNat 0=aK (gq y.1) i.toNat:=by
    rcases h1.rune (i:=i.toNat) ω with h | ⟨_,h,_⟩
    ·exact h
    ·omega
   rw[u.2] at l o ⊢;have q:aD .i64 i 1=i+1:=bG ω ω;have e2:(i+1).toNat=i.toNat+1:=ω;have t:y.1.1.length-(i+1).toNat<y.1.1.length-i.toNat:=ω;have f:(gq y.1).length<=n-1+(i+1).toNat:=ω;have g:0<=i+1/\i+1<=100000:=ω;have a:y.2.i.toNat<=(i+1).toNat/\true=decide (y.2.i.toNat<(i+1).toNat):=⟨ω,by grind⟩;have j:(b.length:Int)<=i+1:=ω;rw[BP ω ω,q];obtain⟨m,rfl⟩:∃m,n=m+1:=⟨n-1,ω⟩;have c:(if i.toNat<(gq y.1).length/\48<=aK (gq y.1) i.toNat/\aK (gq y.1) i.toNat<=57 then cr (gq y.1) m (i.toNat+1) (if 48<aK (gq y.1) i.toNat\/b≠[] then b++[UInt8.ofNat (aK (gq y.1) i.toNat).toNat] else b) else(i.toNat,b))=_:=i6;rw[Zac ⟨ω,l,o⟩] at c;have go:(48<aK (gq y.1) i.toNat\/b≠[])->0<=i/\i<(y.1.1.length:Int)/\((yr b [UInt8.ofNat (aK (gq y.1) i.toNat).toNat]).length:Int)<=BIG/\∃z:Int×By×Bool,yr b [UInt8.ofNat (aK (gq y.1) i.toNat).toNat]=z.2.1/\true=z.2.2/\i+1=z.1/\MF y z/\y.1.1.length-z.1.toNat<y.1.1.length-i.toNat:=λh=>by
    rw[Zac h] at c;have hlen:(yr b [UInt8.ofNat (aK (gq y.1) i.toNat).toNat]).length=b.length+1:=by unfold yr;simp
    refine⟨i1.1,q1,by grind [BIG],(i+1,_,true),rfl,rfl,rfl,⟨⟨ω,ω⟩,by grind,ω,by grind,m,by assumption,?_⟩,by assumption⟩;grind
   refine⟨λB=>go (.inr λh=>by grind),λB=>⟨i1.1,q1,λC=>go (.inl ω),λC=>?_⟩⟩;refine⟨(i+1,b,true),rfl,rfl,rfl,⟨g,j,a.1,a.2,m,f,?_⟩,t⟩;grind
  ·rcases h1.rune (i:=i.toNat) ω with⟨_,h⟩ | ⟨_,h,s⟩<;>omega
  ·rcases h1.rune (i:=i.toNat) ω with⟨_,h⟩ | ⟨_,h,s⟩<;>omega
def Qhb:Ok ME:=okZ [] f282 Qog trivial Qoq
end
end sx
namespace syn
open Go Go.RowKit cls
structure RB (G:List Gt) (k:Nat) (s t:Ps):Prop where
 le:s.i<=t.i
 len:t.i<=G.length+k
 op:t.aq=s.aq
 gr:s.ab<=t.ab
 gm:t.ab<=4
section
variable {G:List Gt} {k:Nat} {s t u:Ps}
theorem RB.refl (h:s.i<=G.length+k) (g:s.ab<=4):RB G k s s:=⟨Zah _,h,rfl,Zah _,g⟩
def RB.trans {j:Nat} (h:RB G j s t) (a:RB G k t u):RB G k s u:=⟨Zav h.le a.le,a.len,a.op.trans h.op,Zav h.gr a.gr,a.gm⟩
def RB.mono {j:Nat} (h:RB G j s t) (a:j<=k):RB G k s t:=⟨h.le,by have:=h.len;omega,h.op,h.gr,h.gm⟩
theorem RB.ax (h:RB G k s t) (f:Nat) (e:Int):RB G k s (t.ax G f e):=⟨by simpa using h.le,by simpa using h.len,by simpa using h.op,by simpa using h.gr,by simpa using h.gm⟩
theorem RB.next (h:RB G k s t):RB G (k+1) s t.next:=⟨by have:=h.le;simp;omega,by have:=h.len;simp;omega,h.op,h.gr,h.gm⟩
def RB.o8 (h:RB G k s t) (hl:t.i<G.length):RB G 0 s t.next:=⟨by have:=h.le;simp;omega,by simp;omega,h.op,h.gr,h.gm⟩
def RB.skip (h:RB G k s t) (r:Int):RB G k s (bp G t r):=by
 unfold bp;split
 ·rename_i a;exact(h.o8 (c_ a)).mono (Zaj _)
 ·exact h
def vA (h:RB G k s t):RB G k s (dm G t):=by
 have:=jH (G:=G) (G.length-t.i) t.i [];have h1:=h.le;have a:=h.len;exact⟨by show _<=(cr G _ _ []).1;omega,by show(cr G (G.length-t.i) t.i []).1<=_;omega,h.op,h.gr,h.gm⟩
theorem Sc (h:RB G k s t) (f:Nat):RB G k s (rS G t f).1/\t.i<=(rS G t f).1.i/\(rS G t f).2.length<=8:=by
 have m1:(aX [(9,10),(13,13),(32,32)]).length<=6:=pM _;have m2:(aX [(48,57),(65,90),(95,95),(97,122)]).length<=8:=pM _;unfold rS;by_cases h1:G.length<=t.i
 ·rw[Zac h1];exact⟨h.ax _ _,by simp,by simp⟩
 ·rw[Zaa h1];have n:=(h.o8 ω).mono (k:=k) (Zaj _);dsimp only
  repeat' split
  all_goals first
   | exact⟨h.ax _ _,by simp,by simp⟩
   | exact⟨n.ax _ _,by simp,by simp⟩
   | exact⟨n,by simp,Zav m1 (by decide)⟩
   | exact⟨n,by simp,m2⟩
   | exact⟨n,by simp,by simp⟩
theorem vC (h:RB G k s t) (hl:t.i<G.length):RB G 0 s (fk G t).1/\t.i<(fk G t).1.i/\(fk G t).2.length<=8:=by
 have n:=h.o8 hl;unfold fk;dsimp only
 repeat' split
 ·exact⟨n.ax _ _,by simp,by simp⟩
 ·obtain⟨a,b,c⟩:=Sc n t.i;exact⟨a,by assumption,c⟩
 ·exact⟨n.ax _ _,by simp,by simp⟩
 ·simp_all
theorem Yq (h:RB G k s t) (hk:t.i<=G.length) (f:Nat) (a l:List Rg) (g:a.length<=8):RB G 0 s (kP G t f a l).1/\t.i<=(kP G t f a l).1.i/\(kP G t f a l).2.1.length<=l.length+8:=by
 have h0:RB G 0 s t:=⟨h.le,ω,h.op,h.gr,h.gm⟩;unfold kP;by_cases h1:t.au≠0\/a_ G t 45=false
 ·grind
 ·rw[Zaa h1];have c:a_ G t 45:=by
   grind
  have n:=h.o8 (c_ c);dsimp only;split
  ·exact⟨n.ax _ _,by simp,by simp⟩
  ·rename_i e
   obtain⟨b1,b,d⟩:=vC n (show t.next.i<G.length by omega);simp only[jj] at b;split
   ·exact⟨b1.ax _ _,by simp;omega,by simp⟩
   ·grind
theorem r9:∀(n:Nat) (t:Ps) (l:List Rg) (b:Bool),RB G 0 s t->RB G 0 s (dy G n t l b).1/\t.i<=(dy G n t l b).1.i/\(dy G n t l b).2.1.length<=l.length+8*((dy G n t l b).1.i-t.i)
 | 0,t,l,b,h=>⟨h,Zah _,by simp[dy]⟩
 | n+1,t,l,b,h=>by
  unfold dy;split
  ·rename_i c
   obtain⟨a,a2,a3⟩:=vC h c.2.1;obtain⟨m1,m2,m3⟩:=Yq a (by have:=a.len;omega) t.i (fk G t).2 l a3;dsimp only;split
   ·grind
   ·have:=r9 n _ (kP G (fk G t).1 t.i (fk G t).2 l).2.1 true m1;grind
  ·grind
def Qdm (h:RB G k s t) (hk:t.i<=G.length) (f:Nat):RB G 1 s (yD G t f).1/\t.i<(yD G t f).1.i:=by
 have h0:RB G 0 s t:=⟨h.le,ω,h.op,h.gr,h.gm⟩;have h1:=h0.skip 94;have a:t.i<=(bp G t 94).i:=by unfold bp;split<;>simp
 obtain⟨c1,c2,_⟩:=r9 (G.length+2-(bp G t 94).i) _ [] false h1;unfold yD;dsimp only;split
 ·exact⟨(c1.ax f 4).next,by simp;omega⟩
 ·exact⟨c1.next,by simp;omega⟩
theorem Aa (h:RB G k s t) (hl:t.i<G.length):RB G 1 s (eh G t).1/\t.i<(eh G t).1.i:=by
 have n:=vA (h.o8 hl);have g:t.i<(dm G t.next).i:=by
  have:=jH (G:=G) (G.length-t.next.i) t.next.i [];show _<(cr G (G.length-t.next.i) t.next.i []).1
  grind [jj]
 have key:∀(u:Ps) (f:Nat) (m n:List UInt8) (ok op:Bool),RB G 0 s u->t.i<u.i->RB G 1 s (jI G f u m n ok op).1/\t.i<(jI G f u m n ok op).1.i:=λu f m n ok op hu hi=>by
  unfold jI;dsimp only;have w:∀c:Bool,RB G 0 s (if c then u.ax G f 4 else u)/\t.i<(if c then u.ax G f 4 else u).i:=λc=>by
   cases c
   ·grind
   ·exact⟨hu.ax _ _,by simp_all⟩
  obtain⟨a,d⟩:=w (decide (ok=false\/a_ G u 125=false\/(op=false/\ir n m)));simp only[ZaP] at a d;generalize (if ok=false\/a_ G u 125=false\/(op=false/\ir n m) then u.ax G f 4 else u)=v at*
  have e:∀(c:Prop) [Decidable c],RB G 1 s (if c then v.next.ax G f 2 else v.next)/\t.i<(if c then v.next.ax G f 2 else v.next).i:=λc _=>by
   split
   ·exact⟨a.next.ax _ _,by simp;omega⟩
   ·exact⟨a.next,by simp;omega⟩
  exact e _
 unfold eh;dsimp only;split
 ·rename_i b
  have m:=vA (n.o8 (c_ b.2));grind [jH,dm,jj]
 ·grind
def Ab (h:RB G k s t) (f:Nat):RB G (k+1) s (fc G t f)/\(fc G t f).i=t.i+1:=by
 unfold fc;split
 ·exact⟨(h.ax f 4).next,by simp⟩
 ·exact⟨h.next,by simp⟩
def uF (G:List Gt) (k:Nat) (ay:Ps->Ps×List Nd):Prop:=∀s,s.i<=G.length->s.ab<=4->RB G k s (ay s).1/\(ay s).2.length<=3*((ay s).1.i-s.i)+1
variable {ay:Ps->Ps×List Nd}
theorem MG (A:uF G k ay) (deep:Nat) (hl:t.i<=G.length) (e:t.ab<=4) (f:Nat):RB G (k+1) t (jk G ay deep t f).1/\(jk G ay deep t f).2.length<=3*((jk G ay deep t f).1.i-t.i)+3:=by
 have r:RB G (k+1) t t:=RB.refl ω e;unfold jk;dsimp only;by_cases h1:a_ G t 63/\a_ G t.next 58=false
 ·rw[Zac h1];exact⟨r.ax _ _,by simp⟩
 ·rw[Zaa h1];by_cases c:20<=deep
  ·rw[Zac c];exact⟨r.ax _ _,by simp⟩
  ·rw[Zaa c];by_cases d:a_ G t 63
   ·rw[Zac d];have b:a_ G t.next 58:=by
     grind
    have g:=c_ b;simp only[jj] at g;obtain⟨a,a2⟩:=A t.next.next (by simp;omega) e;obtain⟨c1,c2⟩:=Ab a f;have a3:=a.le;simp only[jj] at a2 a3;refine⟨⟨?_,c1.len,c1.op,c1.gr,c1.gm⟩,?_⟩
    ·grind
    ·grind
   ·rw[Zaa d];by_cases b:4<=t.ab
    ·rw[Zac b];exact⟨r.ax _ _,by simp⟩
    ·rw[Zaa b];obtain⟨a,a2⟩:=A { t with ab:=t.ab+1 } hl (by grind);obtain⟨c1,c2⟩:=Ab a f;have a3:t.i<=(ay { t with ab:=t.ab+1 }).1.i:=a.le;have a4:(ay { t with ab:=t.ab+1 }).2.length<=3*((ay { t with ab:=t.ab+1 }).1.i-t.i)+1:=a2;have a5:t.ab+1<=(ay { t with ab:=t.ab+1 }).1.ab:=a.gr;have c3:=c1.gr;simp only at c3;refine⟨⟨?_,c1.len,c1.op,?_,c1.gm⟩,?_⟩
     ·grind
     ·grind
     ·grind
theorem DW (A:uF G k ay) (deep:Nat) (hl:t.i<G.length) (d:t.ab<=4):RB G (k+1) t (fX G ay deep t).1/\t.i<(fX G ay deep t).1.i/\(fX G ay deep t).2.length<=3*((fX G ay deep t).1.i-t.i):=by
 have r:RB G 0 t t:=RB.refl ω d;have n:=r.o8 hl;have e:=n.mono (k:=k+1) (Zaj _);unfold fX;dsimp only
 repeat' split
 ·exact⟨e.ax _ _,by simp,by simp⟩
 ·obtain⟨a,b⟩:=MG A deep (t:=t.next) (by simp;omega) d t.i;have c:=a.le;simp only[jj] at b c;exact⟨⟨ω,a.len,a.op,a.gr,a.gm⟩,ω,ω⟩
 ·obtain⟨a,b⟩:=Qdm n (by simp;omega) t.i;simp only[jj] at b;exact⟨a.mono ω,by grind,by grind⟩
 ·simp_all
 ·simp_all
 ·simp_all
 ·grind [Sc,jj]
 ·exact⟨e.ax _ _,by simp,by simp⟩
 ·simp_all
theorem Kg (A:uF G k ay) (deep:Nat) (hl:t.i<G.length) (f:t.ab<=4):RB G (k+1) t (rU G ay deep t).1/\t.i<(rU G ay deep t).1.i/\(rU G ay deep t).2.length<=3*((rU G ay deep t).1.i-t.i):=by
 obtain⟨a,b,c⟩:=DW A deep hl f;have key:∀(u:Ps) (mn mx:Int),RB G (k+1) t u->(fX G ay deep t).1.i<u.i->RB G (k+1) t (jJ G u mn mx (fX G ay deep t).2).1/\t.i<(jJ G u mn mx (fX G ay deep t).2).1.i/\(jJ G u mn mx (fX G ay deep t).2).2.length<=3*((jJ G u mn mx (fX G ay deep t).2).1.i-t.i):=λu mn mx h1 d=>by
  have e:u.i<=(bp G u 63).i:=by unfold bp;split<;>simp
  unfold jJ;exact⟨h1.skip 63,by grind,by grind⟩
 unfold rU;dsimp only;by_cases h1:(fX G ay deep t).1.au≠0\/G.length<=(fX G ay deep t).1.i
 ·grind
 ·rw[Zaa h1];have d:(fX G ay deep t).1.i<G.length:=ω;have n:=(a.o8 d).mono (k:=k+1) (Zaj _);have e:=Aa a d
  repeat' split
  ·exact key _ _ _ n (by simp)
  ·exact key _ _ _ n (by simp)
  ·exact key _ _ _ n (by simp)
  ·exact key _ _ _ (e.1.mono ω) e.2
  ·grind
theorem Ac (A:uF G k ay) (deep:Nat):∀(n:Nat) (t:Ps) (d:List (List Nd)),RB G (k+1) s t->total d<=3*(t.i-s.i)->RB G (k+1) s (ec G ay deep n t d).1/\total (ec G ay deep n t d).2<=3*((ec G ay deep n t d).1.i-s.i)
 | 0,t,d,h,e=>⟨h,e⟩
 | n+1,t,d,h,e=>by
  unfold ec;split
  ·rename_i f
   obtain⟨a,b,c⟩:=Kg A deep f.2.1 h.gm;refine Ac A deep n _ _ (h.trans a) ?_;rw[gv];have:=h.le;omega
  ·grind
def vD (A:uF G k ay) (deep:Nat) (hl:s.i<=G.length) (c:s.ab<=4):RB G (k+1) s (ov G ay deep s).1/\(ov G ay deep s).2.length<=3*((ov G ay deep s).1.i-s.i)+1:=by
 obtain⟨a,b⟩:=Ac A deep (G.length+2-s.i) s [] (RB.refl ω c) (by simp[total]);have:=wY 3 (ec G ay deep (G.length+2-s.i) s []).2;exact⟨a,by show(bX 3 _).length<=3*((ec G ay deep (G.length+2-s.i) s []).1.i-_)+1;omega⟩
theorem Ad (A:uF G k ay) (deep:Nat):∀(n:Nat) (t:Ps) (c:List (List Nd)),RB G (k+1) s t->0<c.length->total c+2*c.length<=3*(t.i-s.i)+3->RB G (k+1) s (dH G ay deep n t c).1/\0<(dH G ay deep n t c).2.length/\total (dH G ay deep n t c).2+2*(dH G ay deep n t c).2.length<=3*((dH G ay deep n t c).1.i-s.i)+3
 | 0,t,c,h,h0,d=>⟨h,h0,d⟩
 | n+1,t,c,h,h0,d=>by
  unfold dH;split
  ·rename_i f
   have hl:=c_ f.2;obtain⟨a,b⟩:=vD A deep (s:=t.next) (by simp;omega) h.gm;have e:=a.le;have h1:=h.le;simp only[jj] at e b;refine Ad A deep n _ _ ⟨ω,a.len,a.op.trans h.op,Zav h.gr a.gr,a.gm⟩ (by simp) ?_;grind [gv]
  ·grind
theorem Sd (A:uF G k ay) (deep:Nat) (hl:s.i<=G.length) (g:s.ab<=4):RB G (k+1) s (tX G ay deep s).1/\(tX G ay deep s).2.length<=3*((tX G ay deep s).1.i-s.i)+1:=by
 obtain⟨a,b⟩:=vD A deep hl g;have e:total [(ov G ay deep s).2]=(ov G ay deep s).2.length:=by simp[total]
 obtain⟨c,d,f⟩:=Ad A deep (G.length+2-(ov G ay deep s).1.i) _ [(ov G ay deep s).2] a (by simp) (by grind);have:=tW 4 _ d;exact⟨c,by show(bX 4 _).length<=3*((dH G ay deep _ _ _).1.i-_)+1;omega⟩
end
theorem BQ (G:List Gt):∀n deep,uF G n (Bx G n deep)
 | 0,_=>λs h g=>⟨RB.refl ω g,by simp[Bx]⟩
 | n+1,deep=>λs h g=>Sd (BQ G n (deep+1)) deep h g
end syn
set_option maxRecDepth 100000
set_option maxHeartbeats 4000000
namespace sx
noncomputable section
open Go Go.RowKit cls syn
def lk {α:Type} (a:α):α:=Classical.choose (⟨a,rfl⟩:∃b,b=a)
theorem aJ {α:Type} (a:α):lk a=a:=ZcZ (⟨a,rfl⟩:∃b,b=a)
open Classical in
def ix (G:List Gt) (a:Int):Nat:=if h:∃i,i<=G.length/\aF G i=a then Classical.choose h else 0
def xD (G:List Gt) (a:Int):Prop:=∃i,i<=G.length/\a=aF G i
def ti (y:QS×Int):Ps×List Rg:=rS (gq y.1.1) (nn y.1.2) (ix (gq y.1.1) y.2)
def MH (y:QS×Int):Prop:=y.1.2.i<=y.1.1.1.length/\xD (gq y.1.1) y.2
def GX:bk D:=xA 281 (QS×Int) (·.1) R1 MH (λy=>[QtJ y.2]) (λy=>zz (ti y).1) λy=>.list 6 (ti y).2
def Se (y:QS):Prop:=y.2.i<y.1.1.length
def yM (y:QS):Ps×List Rg:=fk (gq y.1) (nn y.2)
def Sf:bk D:=xA 301 QS (λy=>y) inQ Se (λ_=>[]) (λy=>zz (yM y).1) λy=>.tuple [.list 6 (yM y).2,QtJ (aF (gq y.1) (nn y.2).i)]
def MJ:bk D:=xA 300 (QS×Int) (·.1) R1 (λy=>y.1.2.i<=90000/\xD (gq y.1.1) y.2) (λy=>[QtJ y.2]) (λy=>zz (fc (gq y.1.1) (nn y.1.2) (ix (gq y.1.1) y.2))) λ_=>.tuple []
def nN (y:QS):Ps×By×Bool:=
 lk (if gF (gq y.1) (nn y.2).next/\a_ (gq y.1) (dm (gq y.1) (nn y.2).next) 44=true then(dm (gq y.1) (dm (gq y.1) (nn y.2).next).next,gO (gq y.1) (dm (gq y.1) (nn y.2).next).next,!gF (gq y.1) (dm (gq y.1) (nn y.2).next).next)
 else(dm (gq y.1) (nn y.2).next,gO (gq y.1) (nn y.2).next,false))
def gQ (y:QS):Ps:=lk (if gF (gq y.1) (nn y.2).next=false\/a_ (gq y.1) (nN y).1 125=false\/((nN y).2.2=false/\ir (nN y).2.1 (gO (gq y.1) (nn y.2).next)) then(nN y).1.ax (gq y.1) (nn y.2).i 4 else(nN y).1)
def BR (y:QS):Int×Bool:=lk (if (nN y).2.2 then(-1,true) else ew (nN y).2.1)
def qX (y:QS):Ps×Int×Int:=lk (eh (gq y.1) (nn y.2))
def GY:bk D:=xA 255 QS (λy=>y) inQ Se (λ_=>[]) (λy=>zz (qX y).1) λy=>.tuple [QtJ (qX y).2.1,QtJ (qX y).2.2]
def Qou (y:GY.Y):cU D:=⟨[],[],[],[
 (63,⟨Unit,[0,4,5,6],λ_=>[(7,.str (nN y).2.1),(8,.bool (nN y).2.2)],[],λ_=>qO y.1 (zz (nN y).1),1,λ_=>True,λ_=>0⟩),
 (127,⟨Unit,[0,4,5,7,8],λ_=>[],[],λ_=>qO y.1 (zz (gQ y)),1,λ_=>True,λ_=>0⟩),
 (2047,⟨Unit,[0,4,11,12],λ_=>[(13,QtJ (BR y).1),(14,.bool (BR y).2)],[0],λ_=>[],1,λ_=>True,λ_=>0⟩)],1,[]⟩
def xE (y:QS×Int):Ps×List Rg:=lk (yD (gq y.1.1) (nn y.1.2) (ix (gq y.1.1) y.2))
def r_ (y:QS×Int):Ps×List Rg×Bool:=lk (dy (gq y.1.1) ((gq y.1.1).length+2-(bp (gq y.1.1) (nn y.1.2) 94).i) (bp (gq y.1.1) (nn y.1.2) 94) [] false)
def oy (y:QS×Int):Ps:=lk (if (r_ y).1.au=0/\((r_ y).2.2=false\/a_ (gq y.1.1) (r_ y).1 93=false) then(r_ y).1.ax (gq y.1.1) (ix (gq y.1.1) y.2) 4 else(r_ y).1)
def GZ (y:QS×Int) (x:b_×List Rg×Bool):Prop:=(0<=x.1.i/\x.1.i<=y.1.1.1.length)/\x.1.aq=0/\(0<=x.1.ab/\x.1.ab<=4)/\x.2.1.length<=20*(nn x.1).i/\∃n,y.1.1.1.length+2<=n+(nn x.1).i/\dy (gq y.1.1) n (nn x.1) x.2.1 x.2.2=r_ y
def G0:bk D:=xA 279 (QS×Int) (·.1) R1 MH (λy=>[QtJ y.2]) (λy=>zz (xE y).1) λy=>.list 6 (xE y).2
def Qow (y:G0.Y):cU D:=⟨[],[],[(252,⟨b_×List Rg×Bool,[0,1,5],λx=>[(6,.grow 6 x.2.1 1),(7,.bool x.2.2)],[],λx=>qO y.1.1 x.1++[(1,.tok 6 350)],2,GZ y,λx=>y.1.1.1.length-(nn x.1).i⟩)],
  [(7,⟨Unit,[0,1],λ_=>[(5,.bool (a_ (gq y.1.1) (nn y.1.2) 94))],[],λ_=>qO y.1.1 (zz (bp (gq y.1.1) (nn y.1.2) 94)),1,λ_=>True,λ_=>0⟩),
   (127,⟨Unit,[0,5,6],λ_=>[],[],λ_=>qO y.1.1 (zz (oy y)),1,λ_=>True,λ_=>0⟩),
   (63,⟨Unit,[0,1,5],λ_=>[(6,.list 6 (r_ y).2.1),(7,.bool (r_ y).2.2)],[],λ_=>qO y.1.1 (zz (r_ y).1),1,λ_=>True,λ_=>0⟩)],1,[]⟩
structure qk where
 d:zV
 v:kz
variable {G:List Gt}
def Wb (b m n:Nat) (y:qk):List (Nat×AO D.E):=(b,.cells [.ptr (b+1) 0,.ptr (b+2) 0] 175 false)::(b+1,.cells [.int .u8 y.d.a,.int .u8 y.d.b,.int .u8 y.d.c,.int .u8 y.d.d,.int .i64 y.d.n] 265 false)::vmR (b+2) m n y.v
def Sg (v:AV D.E) (s:St D.E):C qk:=match v with
 | .ptr b _=>aA (cN (s.h.get b)) λo=>match o with
  | .cells cs _ _=>match cs with
   | [d,v]=>aA (QcY d s) λd=>aA (QfH v s) λv=>.ret ⟨d,v⟩
   | _=>.fail
  | _=>.fail
 | _=>.fail
def scP (y:qk):Prop:=0<=y.d.n/\y.d.n<=3/\XD y.v 900000000000
def G9 (y:qk):kz:=GB ⟨y.v.p,y.v.aF,y.v.L,⟨qM y.v.p.ae.length,fe⟩⟩ (bdG (ue (dj y.d)).n.toNat)
def Qdn (y:qk):List b5:=(DN (G9 y) (G9 y).L.length).2
def Sh (y:qk):Prop:=scP y/\(dj y.d=[]\/h_ (dj y.d))
theorem Si {v:kz} {N:Int} (h:XD v N):XD ⟨v.p,v.aF,v.L,⟨qM v.p.ae.length,fe⟩⟩ N:=by
 obtain⟨⟨⟨_,_,a⟩,b,c⟩,d,e,f⟩:=h;refine⟨⟨⟨by grind [qM],λx g=>?_,a⟩,b,c⟩,d,e,f⟩;have:x=0:=Zdw (show x∈List.replicate (v.p.ae.length:Int).toNat (0:Int) from g);omega
def Sj (y:(((List Int)×(List Int))×b_)×Int):Prop:=let d:=(ti y).1;let q1:=(ti y).2;let h:=((d.i:Nat):Int);let b:=y.1.1.1;let j:=aC y.1.2.au 0;let k:=aD .i64 y.1.2.i 1;let m:=aI (ah b) y.1.2.i;let c:=gt 0 b y.1.2.i.toNat;let g:=(b,y.1.1.2);let l:=aF (gq g) y.1.2.i.toNat;let e:=λp:Prop=>aa [b,y.1.1.2] p;let f:Prop:=(y.1.2.ab=((d.ab:Nat):Int)/\cw j 4 y.1.2.au=d.au/\cw j y.2 y.1.2.wh=d.wh/\True);let a:Prop:=(e (k=h/\y.1.2.ab=((d.ab:Nat):Int)/\y.1.2.au=d.au/\y.1.2.wh=d.wh/\True));aa [y.1.2.i] (aa [b] (ak m (Iv (fv (g,b_.mk y.1.2.i 0 y.1.2.ab y.1.2.au y.1.2.wh)/\True)/\aa ([4,y.2]:List Int) (aa [b,y.1.1.2] (aa [y.1.2.i,y.1.2.ab,y.1.2.au,y.1.2.wh] ([]=q1/\e (y.1.2.i=h/\f))))) (aI 0 y.1.2.i/\az y.1.2.i (ah b)/\aa [b] (aa [y.1.2.i,c] (ak (aC c (-1)) (Iv (fv (g,b_.mk y.1.2.i 0 y.1.2.ab y.1.2.au y.1.2.wh)/\y.1.2.i<=(b.length:Int))/\aa [b,y.1.1.2] (aa [y.1.2.i,y.1.2.ab,y.1.2.au,y.1.2.wh] (Iv (fv (g,b_.mk y.1.2.i 0 y.1.2.ab y.1.2.au y.1.2.wh)/\True)/\aa ([4,l]:List Int) (aa [b,y.1.1.2] (aa [y.1.2.i,y.1.2.ab,y.1.2.au,y.1.2.wh] ([]=q1/\e (y.1.2.i=h/\y.1.2.ab=((d.ab:Nat):Int)/\cw j 4 y.1.2.au=d.au/\cw j l y.1.2.wh=d.wh/\True))))))) (ak (aC c 110) ([(10,10)]=q1/\a) (ak (aC c 116) ([(9,9)]=q1/\a) (ak (aC c 114) ([(13,13)]=q1/\a) (ak (aC c 100) ([(48,57)]=q1/\a) (ak (aC c 115) (Iv (3<=2000000)/\aa ([[(9,10),(13,13),(32,32)]]:List (List (Int×Int))) (aX [(9,10),(13,13),(32,32)]=q1/\a)) (ak (aC c 119) (Iv (4<=2000000)/\aa ([[(48,57),(65,90),(95,95),(97,122)]]:List (List (Int×Int))) (aX [(48,57),(65,90),(95,95),(97,122)]=q1/\a)) (Iv True/\aa [c] (ak (!(iq c)) (Iv (fv (g,b_.mk k 0 y.1.2.ab y.1.2.au y.1.2.wh)/\True)/\aa ([4,y.2]:List Int) (aa [b,y.1.1.2] (aa [k,y.1.2.ab,y.1.2.au,y.1.2.wh] ([]=q1/\e (k=h/\f))))) (([(c,c)]:List (Int×Int))=q1/\a))))))))))))))
def Sk (y:((List Int)×(List Int))×b_):Prop:=let k:=(yM y).2;let q1:=(yM y).1;let g:=y.2.i.toNat;let l:=((q1.ab:Nat):Int);let m:=((q1.i:Nat):Int);let h:=aD .i64 y.2.i 1;let b:=gt 0 y.1.1 g;let n:=(y.1.1,y.1.2);let c:=aF (gq n) g;let j:=(n,b_.mk h 0 y.2.ab y.2.au y.2.wh);let a:=(ti (j,c)).1;let f:=λp:Prop=>aa [y.1.1,y.1.2] p;let d:Prop:=(([(b,b)]:List (Int×Int))=k/\c=aF (gq y.1) g/\f (h=m/\y.2.ab=l/\y.2.au=q1.au/\y.2.wh=q1.wh/\True));let e:Prop:=(Iv (fv j/\True)/\aa ([4,c]:List Int) (aa [y.1.1,y.1.2] (aa [h,y.2.ab,y.2.au,y.2.wh] ([]=k/\c=aF (gq y.1) g/\f (h=m/\y.2.ab=l/\cw (aC y.2.au 0) 4 y.2.au=q1.au/\cw (aC y.2.au 0) c y.2.wh=q1.wh/\True)))));Iv (fv (n,b_.mk y.2.i 0 y.2.ab y.2.au y.2.wh)/\y.2.i<=(y.1.1.length:Int))/\aa [y.1.1,y.1.2] (aa [y.2.i,y.2.ab,y.2.au,y.2.wh] (aI 0 y.2.i/\az y.2.i (ah y.1.1)/\aa [y.1.1] (aa [y.2.i,b] (ak (aC b 92) (Iv (fv j/\MH (j,c))/\aa [c] (aa [y.1.1,y.1.2] (aa [h,y.2.ab,y.2.au,y.2.wh] ((ti (j,c)).2=k/\c=aF (gq y.1) g/\f (((a.i:Nat):Int)=m/\((a.ab:Nat):Int)=l/\a.au=q1.au/\a.wh=q1.wh/\True))))) (ak (aC b 91) (ak (aC b 91) (e) (d)) (ak (aC b 45) (ak (aC b 45) (e) (d)) (ak (aC b (-1)) (e) (d))))))))
def Sl (y:(((List Int)×(List Int))×b_)×Int):Prop:=let b:=aC y.1.2.au 0;let q1:=a_ (gq y.1.1) (nn y.1.2) 41;let c:=(y.1.1.1,y.1.1.2);let d:=b_.mk y.1.2.i 0 y.1.2.ab y.1.2.au y.1.2.wh;let f:=!(a_ (gq c) (nn d) 41);let a:=ite (y.1.2.au=0/\q1=false) (Ps.ax (gq y.1.1) (nn y.1.2) (ix (gq y.1.1) y.2) 4) (nn y.1.2);let e:Prop:=(aa [y.1.1.1,y.1.1.2] (aD .i64 y.1.2.i 1=((a.i+1:Nat):Int)/\y.1.2.ab=((a.ab:Nat):Int)/\y.1.2.au=a.au/\y.1.2.wh=a.wh/\True));ak b (Iv (fv (c,d)/\(0:Int)<=(41:Int)/\(41:Int)<=(127:Int))/\aa ([41]:List Int) (aa [y.1.1.1,y.1.1.2] (aa [y.1.2.i,y.1.2.ab,y.1.2.au,y.1.2.wh] (ak f (Iv (fv (c,d)/\True)/\aa ([4,y.2]:List Int) (aa [y.1.1.1,y.1.1.2] (aa [y.1.2.i,y.1.2.ab,y.1.2.au,y.1.2.wh] (aa [y.1.1.1,y.1.1.2] (aD .i64 y.1.2.i 1=((a.i+1:Nat):Int)/\y.1.2.ab=((a.ab:Nat):Int)/\cw b 4 y.1.2.au=a.au/\cw b y.2 y.1.2.wh=a.wh/\True))))) (e))))) (e)
def Sn (y:((List Int)×(List Int))×b_):Prop:=let L:=(BR y).1;let q1:=(BR y).2;let M:=(((gQ y).i:Nat):Int);let w:=(((gQ y).ab:Nat):Int);let q:=(qX y).1;let e:=(nN y).1;let P:=aC (gQ y).au 0;let B:=((y.2.ab.toNat:Nat):Int);let n:=(nN y).2.1;let I:=(nN y).2.2;let f:=((e.ab:Nat):Int);let g:=((e.i:Nat):Int);let j:=aD .i64 y.2.i 1;let h:=aD .i64 M 1;let c:=(y.1.1,y.1.2);let a:=gq c;let d:=aF a y.2.i.toNat;let r:=b_.mk j 0 y.2.ab y.2.au y.2.wh;let s:=b_.mk g 0 f e.au e.wh;let t:=gF a (nn r);let b:=gO a (nn r);let k:=(ew b).1;let u:=(ew b).2;let N:=!(a_ a (nn s) 125);let l:=((cr a (a.length-j.toNat) j.toNat []).1:Int);let m:=aD .i64 l 1;let C:=b_.mk l 0 B y.2.au y.2.wh;let v:=b_.mk m 0 B y.2.au y.2.wh;let O:=a_ a (nn C) 44;let J:=λp:Prop=>aa [d] (aa [b] (aa [t] p));let o:=λp:Prop=>aa [y.1.1,y.1.2] p;let K:=λp:Prop=>aa [d] (aa [b] (aa [n] (aa [I] (aa [y.1.1,y.1.2] p))));let D:Prop:=(y.2.au=e.au/\y.2.wh=e.wh/\(Iv True));let E:Prop:=(aa [y.1.1,y.1.2] (aa [h,w,(gQ y).au,(gQ y).wh] ((Iv True))));let F:Prop:=(∃z:Unit,K (g=M/\f=w/\e.au=(gQ y).au/\e.wh=(gQ y).wh/\(Iv True)));let G:Prop:=(Iv (fv (c,b_.mk h 0 w (gQ y).au (gQ y).wh)/\True)/\aa ([2,d]:List Int) (aa [y.1.1,y.1.2] (aa [h,w,(gQ y).au,(gQ y).wh] (k=(qX y).2.1/\L=(qX y).2.2/\o (h=((q.i:Nat):Int)/\w=((q.ab:Nat):Int)/\cw P 2 (gQ y).au=q.au/\cw P d (gQ y).wh=q.wh/\True)))));let H:Prop:=(∃z:Unit,J (b=n/\false=I/\o (l=g/\B=f/\D)));let A:Prop:=(Iv (fv (c,s)/\True)/\aa ([4,d]:List Int) (aa [y.1.1,y.1.2] (aa [g,f,e.au,e.wh] (∃z:Unit,K (g=M/\f=w/\cw (aC e.au 0) 4 e.au=(gQ y).au/\cw (aC e.au 0) d e.wh=(gQ y).wh/\(Iv True))))));Iv (fv (c,b_.mk y.2.i 0 y.2.ab y.2.au y.2.wh)/\y.2.i<=(y.1.1.length:Int))/\aa [y.1.1,y.1.2] (aa [y.2.i,y.2.ab,y.2.au,y.2.wh] (Iv (fv (c,r)/\True)/\aa [y.1.1,y.1.2] (aa [j,y.2.ab,y.2.au,y.2.wh] ((ak t (Iv (fv (c,C)/\(0:Int)<=(44:Int)/\(44:Int)<=(127:Int))/\aa ([44]:List Int) (aa [y.1.1,y.1.2] (aa [l,B,y.2.au,y.2.wh] (ak O (Iv (fv (c,v)/\True)/\aa [y.1.1,y.1.2] (aa [m,B,y.2.au,y.2.wh] (∃z:Unit,J (gO a (nn v)=n/\(!(gF a (nn v)))=I/\o (((cr a (a.length-m.toNat) m.toNat []).1:Int)=g/\((B.toNat:Nat):Int)=f/\D))))) (H))))) (H))/\(∀x:Unit,(Iv True)->(ak (!t) (A) (Iv (fv (c,s)/\(0:Int)<=(125:Int)/\(125:Int)<=(127:Int))/\aa ([125]:List Int) (aa [y.1.1,y.1.2] (aa [g,f,e.au,e.wh] (ak N (A) (ak (!I) (Iv True/\aa [n] (aa [b] (ak (ir n b) (A) (F)))) (F)))))))/\(∀Q:Unit,(Iv True)->Iv (kV b)/\aa [b] (Iv (kV n)/\aa [n] ((ak I (∃z:Unit,aa [d,k] (aa [u] ((-1)=L/\true=q1/\E))) (∃z:Unit,aa [d,k] (aa [u] ((ew n).1=L/\(ew n).2=q1/\E))))/\(∀R:Unit,(Iv True)->ak (!u) (G) (ak (!q1) (G) (k=(qX y).2.1/\L=(qX y).2.2/\o (h=((q.i:Nat):Int)/\w=((q.ab:Nat):Int)/\(gQ y).au=q.au/\(gQ y).wh=q.wh/\True))))))))))))
def Sp (y:(((List Int)×(List Int))×b_)×Int):Prop:=let q0:=(((oy y).i:Nat):Int);let q1:=(((oy y).ab:Nat):Int);let q2:=(xE y).1;let h:=(r_ y).1;let v:=(r_ y).2.1;let F:=((h.i:Nat):Int);let d:=y.1.1.1;let G:=((h.ab:Nat):Int);let q8:=(r_ y).2.2;let O:=d.length;let H:=aC h.au 0;let q:=a_ (gq y.1.1) (nn y.1.2) 94;let o:=bp (gq y.1.1) (nn y.1.2) 94;let P:=((o.ab:Nat):Int);let I:=((o.i:Nat):Int);let j:=(d,y.1.1.2);let k:=gq j;let Q:=b_.mk y.1.2.i 0 y.1.2.ab y.1.2.au y.1.2.wh;let J:=b_.mk F 0 G h.au h.wh;let q19:=a_ k (nn Q) 94;let q20:=!(a_ k (nn J) 93);let r21:=λp:Prop=>aa [q] (aa [v] (aa [d,y.1.1.2] p));let n:=λp:Prop=>aa [y.2] (aa [q] p);let g:=λp:Prop=>aa [d,y.1.1.2] p;let R:Prop:=(y.1.2.ab=P/\y.1.2.au=o.au/\y.1.2.wh=o.wh/\(Iv True));let S:Prop:=(g (aD .i64 q0 1=((q2.i:Nat):Int)/\q1=((q2.ab:Nat):Int)/\(oy y).au=q2.au/\(oy y).wh=q2.wh/\True));let T:Prop:=(∃z:Unit,r21 (F=q0/\G=q1/\h.au=(oy y).au/\h.wh=(oy y).wh/\(Iv True)));let U:Prop:=(Iv (fv (j,J)/\True)/\aa ([4,y.2]:List Int) (aa [d,y.1.1.2] (aa [F,G,h.au,h.wh] (∃z:Unit,r21 (F=q0/\G=q1/\cw H 4 h.au=(oy y).au/\cw H y.2 h.wh=(oy y).wh/\(Iv True))))));(Iv (fv (j,Q)/\(0:Int)<=(94:Int)/\(94:Int)<=(127:Int))/\aa ([94]:List Int) (aa [d,y.1.1.2] (aa [y.1.2.i,y.1.2.ab,y.1.2.au,y.1.2.wh] (ak q19 (∃z:Unit,aa [y.2] (true=q/\g (aD .i64 y.1.2.i 1=I/\R))) (∃z:Unit,aa [y.2] (false=q/\g (y.1.2.i=I/\R)))))))/\(∀x:Unit,(Iv True)->((∃z:b_×(List (Int×Int))×Bool,n ([]=z.2.1/\false=z.2.2/\g (I=z.1.i/\P=z.1.ab/\o.au=z.1.au/\o.wh=z.1.wh/\(Iv (GZ y z)))))/\(∀b:b_×(List (Int×Int))×Bool,let q28:=az b.1.i (ah d);let V:=b_.mk b.1.i 0 b.1.ab b.1.au b.1.wh;let w:=aF k b.1.i.toNat;let r:=(j,V);let q32:=!(a_ k (nn V) 93);let m:=(yM r).2;let a:=(yM r).1;let e:=((a.ab:Nat):Int);let A:=((a.i:Nat):Int);let K:=aC a.au 0;let f:=aD .i64 A 1;let B:=(gt (0,0) m 0).1;let q40:=aI (ah d) f;let W:=b_.mk A 0 e a.au a.wh;let C:=b_.mk f 0 e a.au a.wh;let q43:=!(a_ k (nn W) 45);let l:=(j,C);let q45:=a_ k (nn C) 45;let q46:=a_ k (nn C) 91;let q47:=a_ k (nn C) 93;let c:=(yM l).1;let s:=(yM l).2;let t:=((c.i:Nat):Int);let u:=((c.ab:Nat):Int);let D:=aC c.au 0;let E:=(gt (0,0) s 0).1;let X:=bM b.2.1 [(B,E)];let L:Prop:=(∃z:Unit,n (b.2.1=v/\b.2.2=q8/\g (b.1.i=F/\b.1.ab=G/\b.1.au=h.au/\b.1.wh=h.wh/\(Iv True))));let Y:Prop:=(bF (ah (bM b.2.1 m)) 8/\∃z:b_×(List (Int×Int))×Bool,n (bM b.2.1 m=z.2.1/\true=z.2.2/\g (A=z.1.i/\e=z.1.ab/\a.au=z.1.au/\a.wh=z.1.wh/\(Iv (GZ y z/\(O-z.1.i.toNat)<(O-b.1.i.toNat))))));let Z:Prop:=(Iv (fv l/\True)/\aa ([4,w]:List Int) (aa [d,y.1.1.2] (aa [f,e,a.au,a.wh] (∃z:Unit,n (b.2.1=v/\true=q8/\g (f=F/\e=G/\cw K 4 a.au=h.au/\cw K w a.wh=h.wh/\(Iv True)))))));let M:Prop:=(aa [f] (aa [d] (Z)));let q59:Prop:=(ak D (Tt 1 (az 0 (ah m)/\Tt 1 (az 0 (ah s)/\bF (ah X) 8/\aa [B,E] (∃z:b_×(List (Int×Int))×Bool,n (X=z.2.1/\true=z.2.2/\g (t=z.1.i/\u=z.1.ab/\c.au=z.1.au/\c.wh=z.1.wh/\(Iv (GZ y z/\(O-z.1.i.toNat)<(O-b.1.i.toNat))))))))) (∃z:b_×(List (Int×Int))×Bool,n (b.2.1=z.2.1/\true=z.2.2/\g (t=z.1.i/\u=z.1.ab/\c.au=z.1.au/\c.wh=z.1.wh/\(Iv (GZ y z/\(O-z.1.i.toNat)<(O-b.1.i.toNat)))))));let N:Prop:=(Iv (fv (j,b_.mk t 0 u c.au c.wh)/\True)/\aa ([4,w]:List Int) (aa [d,y.1.1.2] (aa [t,u,c.au,c.wh] (∃z:Unit,n (b.2.1=v/\true=q8/\g (t=F/\u=G/\cw D 4 c.au=h.au/\cw D w c.wh=h.wh/\(Iv True)))))));(Iv (GZ y b))->ak (aC b.1.au 0) (ak q28 (Iv (fv r/\(0:Int)<=(93:Int)/\(93:Int)<=(127:Int))/\aa ([93]:List Int) (aa [d,y.1.1.2] (aa [b.1.i,b.1.ab,b.1.au,b.1.wh,b.1.au,b.1.i] (aa [d] (ak q32 (Iv (fv r/\Se r)/\aa [d,y.1.1.2] (aa [b.1.i,b.1.ab,b.1.au,b.1.wh] (ak (!K) (Y) (Iv (fv (j,W)/\(0:Int)<=(45:Int)/\(45:Int)<=(127:Int))/\aa ([45]:List Int) (aa [d,y.1.1.2] (aa [A,e,a.au,a.wh] (ak q43 (Y) (ak q40 (M) (Iv (fv l/\(0:Int)<=(93:Int)/\(93:Int)<=(127:Int))/\aa ([93]:List Int) (aa [d,y.1.1.2] (aa [f,e,a.au,a.wh] (ak q47 (M) (Iv (fv l/\(0:Int)<=(91:Int)/\(91:Int)<=(127:Int))/\aa ([91]:List Int) (aa [d,y.1.1.2] (aa [f,e,a.au,a.wh] (ak q46 (M) (Iv (fv l/\(0:Int)<=(45:Int)/\(45:Int)<=(127:Int))/\aa ([45]:List Int) (aa [d,y.1.1.2] (aa [f,e,a.au,a.wh,f] (aa [d] (ak q45 (Z) (Iv (fv l/\Se l)/\aa [d,y.1.1.2] (aa [f,e,a.au,a.wh] (ak D (Iv True/\aa [m] (ak (!(df m)) (aa [c.au] (N)) (Iv True/\aa [s] (ak (!(df s)) (aa [c.au] (N)) (Tt 1 (az 0 (ah m)/\Tt 1 (az 0 (ah s)/\aa [c.au,B,E] (ak (az E B) (N) (q59))))))))) (aa [c.au] (q59)))))))))))))))))))))))))) (L)))))) (aa [b.1.au,b.1.i] (aa [d] (L)))) (aa [b.1.au] (L))))/\(∀b:Unit,(Iv True)->(ak H (ak (!q8) (U) (Iv (fv (j,J)/\(0:Int)<=(93:Int)/\(93:Int)<=(127:Int))/\aa ([93]:List Int) (aa [d,y.1.1.2] (aa [F,G,h.au,h.wh] (ak q20 (U) (T)))))) (T))/\(∀x2:Unit,(Iv True)->ak q (Iv (v.length<=2000000)/\aa [v] (lE v=(xE y).2/\S)) (Iv (v.length<=2000000)/\aa [v] (aX v=(xE y).2/\S)))))
theorem MK (c:∀g∈G,1<=g.2/\g.2<=4) {i j:Nat} (hi:i<=G.length) (e:j<=G.length) (h:aF G i=aF G j):i=j:=by
 have step:∀d k,k+d<=G.length->aF G k+d<=aF G (k+d):=λd=>by
  induction d with
  | zero=>intro k _;simp
  | succ d b=>
   intro k hk;have:=b k ω;grind [ib]
 rcases Zcs i j with a | a | a
 ·have:=step (j-i) i ω;rw[show i+(j-i)=j by omega] at this;omega
 ·exact a
 ·have:=step (i-j) j ω;rw[show j+(i-j)=i by omega] at this;omega
theorem DX (a:∀g∈G,1<=g.2/\g.2<=4) {i:Nat} (hi:i<=G.length):ix G (aF G i)=i:=by
 have h:∃j,j<=G.length/\aF G j=aF G i:=⟨i,hi,rfl⟩;unfold ix;grind [MK]
theorem Kh {a:Int} (h:xD G a):aF G (ix G a)=a:=by
 have⟨i,h1,b⟩:=h;have h:∃j,j<=G.length/\aF G j=a:=⟨i,h1,b.symm⟩;unfold ix;grind
theorem wrE (G:List Gt) (s:Ps) (f:Nat) (e:Int):(s.ax G f e).au=cw (aC s.au 0) e s.au:=by
 grind [Ps.ax,cw]
theorem wrW (G:List Gt) (s:Ps) (f:Nat) (e:Int):(s.ax G f e).wh=cw (aC s.au 0) (aF G f) s.wh:=by
 grind [Ps.ax,cw]
structure QF (p:QL) (i g:Nat):Prop where
 q:BN p
 i:i<=100000
 g:g<=4
 hl:(gq p).length=p.1.length
 len:p.1.length<=1000
variable {p:QL} {i:Nat}
variable {g:Nat}
def fv.out {s:b_} (h:fv (p,s)):∃(i g:Nat),s=⟨i,0,g,s.au,s.wh⟩/\QF p i g:=by
 obtain⟨h1,f,j,k⟩:BN p/\(0<=s.i/\s.i<=100000)/\s.aq=0/\0<=s.ab/\s.ab<=4:=h;have⟨i,hi⟩:=Zau f.1;have⟨g,l⟩:=Zau k.1;have⟨a,b,c,d,e⟩:=s;simp only at*
 subst hi l j;exact⟨i,g,rfl,h1,ω,ω,xB p,h1.len⟩
def QF.ok (h:QF p i g) (e w:Int):fv (p,⟨i,0,g,e,w⟩):=⟨h.q,⟨ZaF _,by have:=h.i;show(i:Int)<=_;omega⟩,rfl,ZaF _,by have:=h.g;show(g:Int)<=_;omega⟩
def QF.to (h:QF p i g) {s t:Ps} {k:Nat} (r:RB (gq p) k s t) (hk:k<=50000):QF p t.i t.ab:=⟨h.q,by have:=r.len;have:=h.hl;have:=h.len;omega,r.gm,h.hl,h.len⟩
def ez0 (a c:Nat) (e w:Int):nn ⟨a,0,c,e,w⟩=⟨a,0,c,e,w⟩:=rfl
def G' {α β:Type} (p:α×β):(p.1,p.2)=p:=rfl
theorem bL {n:Nat} (h:n<=1000000):aD .i64 (n:Int) 1=((n+1:Nat):Int):=Kd h
theorem Qoy (y:QS×Int) (u:GX.pre y):Sj y:=by
 have⟨⟨p,s⟩,a⟩:=y;obtain⟨h0,h1,m⟩:fv (p,s)/\s.i<=p.1.length/\xD (gq p) a:=u;have⟨i,g,es,f⟩:=h0.out;have⟨_,_,_,e,w⟩:=s;cases es;simp only at h1;have t:=Kh m;have hl:=f.hl;have hlen:=f.len;have ok:=λj (o:j<=100000)=>(⟨f.q,o,f.g,hl,hlen⟩:QF p j g).ok e w
 have l:ti ((p,⟨i,0,g,e,w⟩),a)=rS (gq p) ⟨i,0,g,e,w⟩ (ix (gq p) a):=rfl;unfold Sj;simp only[bN,bh,aw,di,Zad,Zan,Zao,bL (n:=i) ω,Int.ofNat_le,Zd0];rw[l];unfold rS;have wr:∀(j c:Nat) (b:Int),b=aF (gq p) c->((j:Int)=((Ps.ax (gq p) ⟨j,0,g,e,w⟩ c 4).i:Nat)/\(g:Int)=((Ps.ax (gq p) ⟨j,0,g,e,w⟩ c 4).ab:Nat)/\cw (aC e 0) 4 e=(Ps.ax (gq p) ⟨j,0,g,e,w⟩ c 4).au/\cw (aC e 0) b w=(Ps.ax (gq p) ⟨j,0,g,e,w⟩ c 4).wh):=λj c b d=>by
  rw[wrE,wrW,<-d];simp
 refine⟨λk=>?_,λk=>⟨ZaF _,k,λk1=>?_,λk1=>?_⟩⟩
 ·grind
 ·have v:=f.q.p0 i;rcases f.q.rune (i:=i) ω with⟨_,h⟩ | ⟨d,_⟩
  ·omega
  ·grind
 ·rcases f.q.rune (i:=i) ω with⟨d,h⟩ | ⟨_,h,_⟩
  ·rw[Zaa (by grind),Zaa (by grind)];dsimp only;rw[h];generalize aK (gq p) i=r;refine⟨λk2=>by simp_all,λk2=>?_⟩;rw[Zaa k2];refine⟨λk2=>by simp_all,λk2=>?_⟩;rw[Zaa k2];refine⟨λk2=>by simp_all,λk2=>?_⟩;rw[Zaa k2];refine⟨λk2=>by simp_all,λk2=>?_⟩;rw[Zaa k2];refine⟨λk2=>by simp_all,λk2=>?_⟩;rw[Zaa k2];refine⟨λk2=>by simp_all,λk2=>?_⟩;rw[Zaa k2];refine⟨λk2=>?_,λk2=>?_⟩
   ·rw[Zaa (by grind)];exact⟨(ok (i+1) ω),rfl,wr (i+1) _ a t.symm⟩
   ·simp_all
  ·omega
def QaR (h:Ok lT):Ok GX:=okZ [r8,yL,lT,R2] f281 (λ_=>dr ()) ⟨ug,DV,h,Qg6⟩ Qoy
theorem DY (G:List Gt) (j g a:Nat) (e w er b:Int) (c:b=aF G a):(j:Int)=((Ps.ax G ⟨j,0,g,e,w⟩ a er).i:Nat)/\(g:Int)=((Ps.ax G ⟨j,0,g,e,w⟩ a er).ab:Nat)/\cw (aC e 0) er e=(Ps.ax G ⟨j,0,g,e,w⟩ a er).au/\cw (aC e 0) b w=(Ps.ax G ⟨j,0,g,e,w⟩ a er).wh:=by
 rw[wrE,wrW,<-c];simp
theorem Qoz (y:QS) (l:Sf.pre y):Sk y:=by
 have⟨p,s⟩:=y;obtain⟨h0,h1⟩:fv (p,s)/\s.i<p.1.length:=l;have⟨i,g,es,f⟩:=h0.out;have⟨_,_,_,e,w⟩:=s;cases es;simp only at h1;have hl:=f.hl;have hlen:=f.len;have ok:=λj (d:j<=100000)=>(⟨f.q,d,f.g,hl,hlen⟩:QF p j g).ok e w
 have c:yM (p,⟨i,0,g,e,w⟩)=fk (gq p) ⟨i,0,g,e,w⟩:=rfl;have b:ti ((p,⟨((i+1:Nat):Int),0,g,e,w⟩),aF (gq p) i)=rS (gq p) ⟨i+1,0,g,e,w⟩ i:=by
  unfold ti;rw[DX f.q.n ω];rfl
 unfold Sk;simp only[bN,bh,aw,di,Zad,bL (n:=i) ω,Zd0];rw[b,c];unfold fk;refine⟨⟨ok i f.i,ω⟩,ZaF _,ω,?_⟩;rcases f.q.rune (i:=i) ω with⟨a,h⟩ | ⟨a,h,_⟩
 ·rw[Zaa (by grind)];dsimp only;rw[h];have m:=f.q.p0 i;generalize aK (gq p) i=r at*
  refine⟨λk=>?_,λk=>?_⟩
  ·rw[Zac k];exact⟨⟨ok (i+1) ω,by assumption,i,by grind,rfl⟩,rfl,rfl,rfl,rfl,rfl⟩
  ·rw[Zaa k];have A:(r=91\/r=45)->fv (p,⟨((i+1:Nat):Int),0,g,e,w⟩)/\[]=(if r=91\/r=45 then((Ps.next ⟨i,0,g,e,w⟩).ax (gq p) i 4,[]) else(Ps.next ⟨i,0,g,e,w⟩,[(r,r)]):Ps×List Rg).2/\((i+1:Nat):Int)=((if r=91\/r=45 then((Ps.next ⟨i,0,g,e,w⟩).ax (gq p) i 4,[]) else(Ps.next ⟨i,0,g,e,w⟩,[(r,r)]):Ps×List Rg).1.i:Nat)/\(g:Int)=((if r=91\/r=45 then((Ps.next ⟨i,0,g,e,w⟩).ax (gq p) i 4,[]) else(Ps.next ⟨i,0,g,e,w⟩,[(r,r)]):Ps×List Rg).1.ab:Nat)/\cw (aC e 0) 4 e=(if r=91\/r=45 then((Ps.next ⟨i,0,g,e,w⟩).ax (gq p) i 4,[]) else(Ps.next ⟨i,0,g,e,w⟩,[(r,r)]):Ps×List Rg).1.au/\cw (aC e 0) (aF (gq p) i) w=(if r=91\/r=45 then((Ps.next ⟨i,0,g,e,w⟩).ax (gq p) i 4,[]) else(Ps.next ⟨i,0,g,e,w⟩,[(r,r)]):Ps×List Rg).1.wh:=λh=>by
    rw[Zac h];exact⟨ok (i+1) ω,rfl,DY (gq p) (i+1) g i e w 4 _ rfl⟩
   grind [Ps.next]
 ·rw[Zac (a),h];refine⟨λk=>ω,λ_=>⟨λk=>ω,λ_=>⟨λk=>ω,λ_=>⟨λ_=>?_,λk=>absurd rfl k⟩⟩⟩⟩;exact⟨ok (i+1) ω,rfl,DY (gq p) (i+1) g i e w 4 _ rfl⟩
def Qhe (h:Ok lT):Ok Sf:=okZ [yL,GX,r8] f301 (λ_=>dr ()) ⟨DV,QaR h,ug⟩ Qoz
theorem QoA (y:QS×Int) (c:MJ.pre y):Sl y:=by
 have⟨⟨p,s⟩,a⟩:=y;obtain⟨h0,h1,b⟩:fv (p,s)/\s.i<=90000/\xD (gq p) a:=c;have⟨i,g,es,f⟩:=h0.out;have⟨_,_,_,e,w⟩:=s;cases es;simp only at h1;have d:=Kh b;unfold Sl;simp only[bh,je,mJ,bL (n:=i) ω,Zan,Zao];have ok:=f.ok e w;have c1:∀x:Int,x=41->(0:Int)<=41/\(41:Int)<=127:=λ_ _=>by decide
 have en:nn ⟨↑i,0,↑g,e,w⟩=⟨i,0,g,e,w⟩:=rfl;rw[en];have st:¬(e=0/\a_ (gq p) ⟨i,0,g,e,w⟩ 41=false)->(((i+1:Nat):Int)=(((if e=0/\a_ (gq p) ⟨i,0,g,e,w⟩ 41=false then Ps.ax (gq p) ⟨i,0,g,e,w⟩ (ix (gq p) a) 4 else⟨i,0,g,e,w⟩:Ps).i+1:Nat):Int))/\↑g=((if e=0/\a_ (gq p) ⟨i,0,g,e,w⟩ 41=false then Ps.ax (gq p) ⟨i,0,g,e,w⟩ (ix (gq p) a) 4 else⟨i,0,g,e,w⟩:Ps).ab:Nat)/\e=(if e=0/\a_ (gq p) ⟨i,0,g,e,w⟩ 41=false then Ps.ax (gq p) ⟨i,0,g,e,w⟩ (ix (gq p) a) 4 else⟨i,0,g,e,w⟩:Ps).au/\w=(if e=0/\a_ (gq p) ⟨i,0,g,e,w⟩ 41=false then Ps.ax (gq p) ⟨i,0,g,e,w⟩ (ix (gq p) a) 4 else⟨i,0,g,e,w⟩:Ps).wh:=λh=>by grind
 grind [DY]
def Qhf:Ok MJ:=okZ [qW,r8] f300 (λ_=>dr ()) ⟨xC,ug⟩ QoA
theorem Qhg (y:QS) (L:GY.pre y):Sn y:=by
 have⟨p,s⟩:=y;obtain⟨h0,h1⟩:fv (p,s)/\s.i<p.1.length:=L;have⟨i,g,es,f⟩:=h0.out;have⟨_,_,_,e,w⟩:=s;cases es;simp only at h1;have hl:=f.hl;have hlen:=f.len;have hi:i<(gq p).length:=ω;obtain⟨d,C⟩:∃d,cr (gq p) ((gq p).length-(i+1)) (i+1) []=d:=⟨_,rfl⟩;have eD:dm (gq p) ⟨i+1,0,g,e,w⟩=⟨d.1,0,g,e,w⟩:=by rw[<-C];rfl
 have N:RB (gq p) 0 ⟨i,0,g,e,w⟩ ⟨i,0,g,e,w⟩:=RB.refl (by grind) f.g;have E:RB (gq p) 0 ⟨i,0,g,e,w⟩ ⟨d.1,0,g,e,w⟩:=by rw[<-eD];exact vA (N.o8 hi)
 obtain⟨ok,c⟩:∃ok,gF (gq p) ⟨i+1,0,g,e,w⟩=ok:=⟨_,rfl⟩;obtain⟨m,z⟩:∃m,gO (gq p) ⟨i+1,0,g,e,w⟩=m:=⟨_,rfl⟩;have gm:kV m:=by grind [pT]
 have u:nN (p,⟨i,0,g,e,w⟩)=if ok/\a_ (gq p) ⟨d.1,0,g,e,w⟩ 44=true then(dm (gq p) ⟨d.1+1,0,g,e,w⟩,gO (gq p) ⟨d.1+1,0,g,e,w⟩,!gF (gq p) ⟨d.1+1,0,g,e,w⟩) else(⟨d.1,0,g,e,w⟩,m,false):=by
  rw[<-c,<-z];unfold nN;rw[aJ];have r:dm (gq (p,(⟨i,0,g,e,w⟩:b_)).1) (nn (p,(⟨i,0,g,e,w⟩:b_)).2).next=⟨d.1,0,g,e,w⟩:=eD;rw[r];rfl
 obtain⟨j,n,op,l,A,H⟩:∃j n op,nN (p,⟨i,0,g,e,w⟩)=(⟨j,0,g,e,w⟩,n,op)/\RB (gq p) 0 ⟨i,0,g,e,w⟩ ⟨j,0,g,e,w⟩/\kV n:=by
  rw[u];split
  ·rename_i J
   exact⟨_,_,_,rfl,vA (E.o8 (c_ J.2)),pT _ _⟩
  ·grind
 have eT:gQ (p,⟨i,0,g,e,w⟩)=if ok=false\/a_ (gq p) ⟨j,0,g,e,w⟩ 125=false\/(op=false/\ir n m) then Ps.ax (gq p) ⟨j,0,g,e,w⟩ i 4 else⟨j,0,g,e,w⟩:=by
  unfold gQ;rw[aJ,l,<-c,<-z];rfl
 have F:BR (p,⟨i,0,g,e,w⟩)=if op then(-1,true) else ew n:=by
  unfold BR;rw[aJ,l]
 have G:qX (p,⟨i,0,g,e,w⟩)=(if (ew m).2=false\/(BR (p,⟨i,0,g,e,w⟩)).2=false then(gQ (p,⟨i,0,g,e,w⟩)).next.ax (gq p) i 2 else(gQ (p,⟨i,0,g,e,w⟩)).next,(ew m).1,(BR (p,⟨i,0,g,e,w⟩)).1):=by
  have r:eh (gq p) ⟨i,0,g,e,w⟩=jI (gq p) i (nN (p,⟨i,0,g,e,w⟩)).1 m (nN (p,⟨i,0,g,e,w⟩)).2.1 ok (nN (p,⟨i,0,g,e,w⟩)).2.2:=by
   grind [eh,Ps.next]
  unfold qX;rw[aJ];refine r.trans ?_;rw[l,eT,F];rfl
 have O:RB (gq p) 0 ⟨i,0,g,e,w⟩ (gQ (p,⟨i,0,g,e,w⟩)):=by
  rw[eT];split
  ·exact A.ax _ _
  ·exact A
 have P:(gQ (p,⟨i,0,g,e,w⟩)).ab=g:=by rw[eT];split<;>simp
 have o:=λ(x:Nat) (K:x<=100000)=>(⟨f.q,K,f.g,hl,hlen⟩:QF p x g).ok e w
 have M:=A.len;have dl:=E.len;have T:=O.len;simp only at M dl;unfold Sn;simp only[bh,je,mJ,bL (n:=i) ω,Zad,Zan,Zao,ZaX,ZaY,ZaZ,ez2,ez0,G',C,c,z];have R:ok->a_ (gq p) ⟨d.1,0,g,e,w⟩ 44->gO (gq p) ⟨d.1+1,0,g,e,w⟩=n/\(!gF (gq p) ⟨d.1+1,0,g,e,w⟩)=op/\(cr (gq p) ((gq p).length-(d.1+1)) (d.1+1) []).1=j:=λa b=>by
  rw[Zac ⟨a,b⟩,l] at u;injection u with h1 v
  injection v with v I
  exact⟨v.symm,I.symm,(ZaR Ps.i h1).symm⟩
 have S:¬(ok/\a_ (gq p) ⟨d.1,0,g,e,w⟩ 44)->m=n/\false=op/\d.1=j:=λa=>by
  grind
 simp only[l,bL (n:=d.1) ω,ez0,and_self];refine⟨⟨(f.ok e w),ω⟩,o _ ω,⟨λk=>⟨⟨o _ ω,by decide,by decide⟩,λk1=>⟨?_,?_⟩,λk1=>?_⟩,λk=>?_⟩,?_,?_⟩
 ·grind
 ·grind
 ·grind
 ·grind
 ·have Q:(ok=false\/a_ (gq p) ⟨j,0,g,e,w⟩ 125=false\/(op=false/\ir n m))->fv (p,⟨j,0,g,e,w⟩)/\↑j=((gQ (p,⟨i,0,g,e,w⟩)).i:Nat)/\↑g=((gQ (p,⟨i,0,g,e,w⟩)).ab:Nat)/\cw (aC e 0) 4 e=(gQ (p,⟨i,0,g,e,w⟩)).au/\cw (aC e 0) (aF (gq p) i) w=(gQ (p,⟨i,0,g,e,w⟩)).wh:=λh=>by
   grind [DY]
  grind
 ·refine⟨gm,H,⟨λk=>?_,λk=>?_⟩,?_⟩
  ·grind
  ·grind
  ·have D:fv (p,⟨(((gQ (p,⟨i,0,g,e,w⟩)).i+1:Nat):Int),0,((gQ (p,⟨i,0,g,e,w⟩)).ab:Nat),(gQ (p,⟨i,0,g,e,w⟩)).au,(gQ (p,⟨i,0,g,e,w⟩)).wh⟩):=(⟨f.q,ω,by rw[P];exact f.g,hl,hlen⟩:QF p _ _).ok _ _;rw[bL ω,G];generalize gQ (p,⟨i,0,g,e,w⟩)=t at*
   generalize BR (p,⟨i,0,g,e,w⟩)=h at*
   have B:(ew m).2=false\/h.2=false->(if (ew m).2=false\/h.2=false then t.next.ax (gq p) i 2 else t.next)=t.next.ax (gq p) i 2:=λk=>Zac k
   have bad:(ew m).2=false\/h.2=false->((t.i+1:Nat):Int)=((if (ew m).2=false\/h.2=false then t.next.ax (gq p) i 2 else t.next:Ps).i:Nat)/\(t.ab:Int)=((if (ew m).2=false\/h.2=false then t.next.ax (gq p) i 2 else t.next:Ps).ab:Nat)/\cw (aC t.au 0) 2 t.au=(if (ew m).2=false\/h.2=false then t.next.ax (gq p) i 2 else t.next:Ps).au/\cw (aC t.au 0) (aF (gq p) i) t.wh=(if (ew m).2=false\/h.2=false then t.next.ax (gq p) i 2 else t.next:Ps).wh:=λk=>by
    rw[B k,wrE,wrW];exact⟨by rw[WS];rfl,by rw[Bw];rfl,rfl,rfl⟩
   refine⟨λk=>⟨D,rfl,rfl,bad (.inl k)⟩,λk=>⟨λk1=>⟨D,rfl,rfl,bad (.inr k1)⟩,λk1=>?_⟩⟩;rw[Zaa (by grind)];exact⟨rfl,rfl,rfl,rfl,rfl,rfl⟩
def Qhh:Ok GY:=okZ [yL,ME,qW,R4,r8,MD] f255 Qou ⟨DV,Qhb,xC,Qg9,ug,Qha⟩ Qhg
def Ki (p:QL) (i g:Nat) (e w:Int):yM (p,⟨i,0,g,e,w⟩)=fk (gq p) ⟨i,0,g,e,w⟩:=rfl
theorem nO {l:List Rg} (h:df l):l.length=1:=by
 grind [df]
theorem QoB (y:QS×Int) (hy:G0.pre y):Sp y:=by
 have⟨⟨p,s⟩,a0⟩:=y;obtain⟨h0,h1,h2⟩:fv (p,s)/\s.i<=p.1.length/\xD (gq p) a0:=hy;have⟨i,g,es,f⟩:=h0.out;have⟨_,_,_,e,w⟩:=s;cases es;simp only at h1;have hl:=f.hl;have hlen:=f.len;have q:=λ(j k:Nat) (e w:Int) (hj:j<=100000) (hk:k<=4)=>(⟨f.q,hj,hk,hl,hlen⟩:QF p j k).ok e w
 have r0:RB (gq p) 0 ⟨i,0,g,e,w⟩ ⟨i,0,g,e,w⟩:=RB.refl (by grind) f.g;have rs:=r0.skip 94;have en:nn ⟨↑i,0,↑g,e,w⟩=⟨i,0,g,e,w⟩:=rfl;obtain⟨R,S⟩:∃R,r_ ((p,⟨i,0,g,e,w⟩),a0)=R:=⟨_,rfl⟩;have eR:R=dy (gq p) ((gq p).length+2-(bp (gq p) ⟨i,0,g,e,w⟩ 94).i) (bp (gq p) ⟨i,0,g,e,w⟩ 94) [] false:=by
  grind [r_,aJ]
 have N:RB (gq p) 0 ⟨i,0,g,e,w⟩ R.1:=by grind [r9]
 have eT:oy ((p,⟨i,0,g,e,w⟩),a0)=if R.1.au=0/\(R.2.2=false\/a_ (gq p) R.1 93=false) then R.1.ax (gq p) (ix (gq p) a0) 4 else R.1:=by
  grind [oy,aJ]
 have rT:RB (gq p) 0 ⟨i,0,g,e,w⟩ (oy ((p,⟨i,0,g,e,w⟩),a0)):=by
  rw[eT];split
  ·exact N.ax _ _
  ·exact N
 have eS:xE ((p,⟨i,0,g,e,w⟩),a0)=((oy ((p,⟨i,0,g,e,w⟩),a0)).next,if a_ (gq p) ⟨i,0,g,e,w⟩ 94 then lE R.2.1 else aX R.2.1):=by
  unfold xE;rw[aJ,eT,eR];rfl
 have Rl:=N.len;have Rm:=N.gm;have Tl:=rT.len;have Ro:R.1.aq=0:=N.op;have V:(⟨R.1.i,0,R.1.ab,R.1.au,R.1.wh⟩:Ps)=R.1:=by rw[<-Ro]
 have lR:R.2.1.length<=50000:=by
  grind [r9]
 unfold Sp;simp only[bN,bh,Zad,Zan,Zao,ZaX,ZaY,ZaZ,G',en,S,aw,a8,br,di,bL (n:=i) ω,bL (n:=(oy ((p,⟨i,0,g,e,w⟩),a0)).i) ω,ez0,V];refine⟨⟨⟨q i g e w ω f.g,by decide,by decide⟩,λk=>?_,λk=>?_⟩,⟨⟨(zz (bp (gq p) ⟨i,0,g,e,w⟩ 94),[],false),rfl,rfl,rfl,rfl,rfl,rfl,?_⟩,λx W=>?_⟩,?_,?_⟩
 ·rw[qT k,k];exact⟨rfl,rfl,rfl,rfl,rfl⟩
 ·grind [qU]
 ·exact⟨⟨ZaF _,by have:=rs.len;show((bp (gq p) ⟨i,0,g,e,w⟩ 94).i:Int)<=↑p.1.length;omega⟩,by show((bp (gq p) ⟨i,0,g,e,w⟩ 94).aq:Int)=0;rw[rs.op];rfl,⟨ZaF _,by have:=rs.gm;show((bp (gq p) ⟨i,0,g,e,w⟩ 94).ab:Int)<=4;omega⟩,Zaj _,_,by show p.1.length+2<=(gq p).length+2-_+(bp (gq p) ⟨i,0,g,e,w⟩ 94).i;have:=rs.len;omega,(eR.symm.trans S.symm)⟩
 ·have⟨⟨r,xo,D,F,G⟩,l,b⟩:=x;have⟨i1,i2,i3,i4,n,i5,i6⟩:=W;have i1:0<=r/\r<=↑p.1.length:=i1;have i3:0<=D/\D<=4:=i3;subst i2;obtain⟨r,rfl⟩:=Zau i1.1;obtain⟨D,rfl⟩:=Zau i3.1;have i4:l.length<=20*r:=i4;have i5:p.1.length+2<=n+r:=i5;have i6:dy (gq p) n ⟨r,0,D,F,G⟩ l b=R:=i6.trans S;have qx:=q r D F G ω ω;have ex:nn ⟨↑r,0,↑D,F,G⟩=⟨r,0,D,F,G⟩:=rfl;simp only[Ki,Zad];have stop:¬(F=0/\r<(gq p).length/\a_ (gq p) ⟨r,0,D,F,G⟩ 93=false)->l=R.2.1/\b=R.2.2/\(r:Int)=↑R.1.i/\(D:Int)=↑R.1.ab/\F=R.1.au/\G=R.1.wh:=λh=>by
   have:R=(⟨r,0,D,F,G⟩,l,b):=by
    rw[<-i6];cases n with
    | zero=>rfl
    | succ n=>unfold dy;rw[Zaa h]
   grind
  obtain⟨n,rfl⟩:∃m,n=m+1:=⟨n-1,ω⟩;have cont:∀(d A:Nat) (o B:Int) (J:List Rg),r<d->d<=p.1.length->A<=4->J.length<=20*d->dy (gq p) n ⟨d,0,A,o,B⟩ J true=R->∃z:b_×List Rg×Bool,J=z.2.1/\true=z.2.2/\↑d=z.1.i/\↑A=z.1.ab/\o=z.1.au/\B=z.1.wh/\GZ ((p,⟨i,0,g,e,w⟩),a0) z/\p.1.length-z.1.i.toNat<p.1.length-r:=λd A o B J c1 c2 c3 c4 c5=>
   ⟨(⟨d,0,A,o,B⟩,J,true),rfl,rfl,rfl,rfl,rfl,rfl,⟨⟨ZaF _,by grind⟩,rfl,⟨ZaF _,by grind⟩,c4,n,by show p.1.length+2<=n+d;omega,c5.trans S.symm⟩,by grind⟩
  refine⟨λk1=>⟨λk2=>⟨⟨qx,by decide,by decide⟩,λk3=>⟨⟨qx,k2⟩,?_⟩,λk3=>stop λh=>by grind⟩,λk2=>stop λh=>ω⟩,λk1=>stop λh=>k1 h.1⟩;have rx:RB (gq p) 0 ⟨r,0,D,F,G⟩ ⟨r,0,D,F,G⟩:=RB.refl (by grind) (by grind);have⟨b1,Y,Z⟩:=vC rx (show r<(gq p).length by omega);have u:dy (gq p) (n+1) ⟨r,0,D,F,G⟩ l b=(let m:=kP (gq p) (fk (gq p) ⟨r,0,D,F,G⟩).1 r (fk (gq p) ⟨r,0,D,F,G⟩).2 l
   if m.2.2 then(m.1,m.2.1,true) else dy (gq p) n m.1 m.2.1 true):=by
   conv=>lhs;unfold dy
   grind
  rw[u] at i6;obtain⟨⟨⟨d,to,A,o,B⟩,a⟩,ht⟩:∃t,fk (gq p) ⟨r,0,D,F,G⟩=t:=⟨_,rfl⟩;rw[ht] at b1 Y Z i6 ⊢;have t0:=b1.op;subst t0;have t1:d<=(gq p).length:=b1.len;have U:=b1.gm;have t3:r<d:=Y;have t4:=Z;simp only[ez0,bL (n:=d) ω];have fit:∀(J:List Rg),J.length<=l.length+8->((J.length:Nat):Int)*(8:Nat)<=140737488355328:=λJ h=>by omega
  have H:o≠0\/a_ (gq p) ⟨d,0,A,o,B⟩ 45=false->dy (gq p) n ⟨d,0,A,o,B⟩ (l++a) true=R:=λh=>by
   grind [kP]
  have lA:(l++a).length<=20*d:=by grind
  have T:=q (d+1) A o B ω U;refine⟨λk4=>⟨fit _ (by grind),cont _ _ _ _ _ t3 ω U lA (H (.inl k4))⟩,λk4=>⟨⟨(q d A o B ω U),by decide,by decide⟩,λk5=>⟨fit _ (by grind),cont _ _ _ _ _ t3 ω U lA (H (.inr k5))⟩,λk5=>?_⟩⟩;have t5:=c_ k5;simp only at t5;have j0:¬(o≠0\/a_ (gq p) ⟨d,0,A,o,B⟩ 45=false):=by grind
  have i7:=i6;unfold kP at i7;simp only at i7;rw[Zaa j0] at i7;have nx:Ps.next ⟨d,0,A,o,B⟩=⟨d+1,0,A,o,B⟩:=rfl;rw[nx] at i7;have C:((gq p).length<=d+1\/a_ (gq p) ⟨d+1,0,A,o,B⟩ 93\/a_ (gq p) ⟨d+1,0,A,o,B⟩ 91\/a_ (gq p) ⟨d+1,0,A,o,B⟩ 45)->fv (p,⟨((d+1:Nat):Int),0,A,o,B⟩)/\l=R.2.1/\true=R.2.2/\((d+1:Nat):Int)=↑R.1.i/\(A:Int)=↑R.1.ab/\cw (aC o 0) 4 o=R.1.au/\cw (aC o 0) (aF (gq p) r) B=R.1.wh:=λh=>by
   grind [DY]
  refine⟨λk6=>C (.inl ω),λk6=>⟨⟨T,by decide,by decide⟩,λk7=>C (.inr (.inl k7)),λk7=>⟨⟨T,by decide,by decide⟩,λk8=>C (.inr (.inr (.inl k8))),λk8=>⟨⟨T,by decide,by decide⟩,λk9=>C (.inr (.inr (.inr k9))),λk9=>⟨⟨T,by assumption⟩,?_⟩⟩⟩⟩⟩;have j1:¬((gq p).length<=d+1\/a_ (gq p) ⟨d+1,0,A,o,B⟩ 93\/a_ (gq p) ⟨d+1,0,A,o,B⟩ 91\/a_ (gq p) ⟨d+1,0,A,o,B⟩ 45):=by
   grind
  rw[Zaa j1] at i7;have ru:RB (gq p) 0 ⟨r,0,D,F,G⟩ ⟨d+1,0,A,o,B⟩:=b1.o8 ω;have⟨Q,d2,d3⟩:=vC ru (show d+1<(gq p).length by omega);obtain⟨⟨⟨M,vo,O,I,P⟩,c⟩,hv⟩:∃v,fk (gq p) ⟨d+1,0,A,o,B⟩=v:=⟨_,rfl⟩;rw[Ki p (d+1) A o B];rw[hv] at Q d2 d3 i7 ⊢;have v0:=Q.op;subst v0;have v1:M<=(gq p).length:=Q.len;have X:=Q.gm;have v3:d+1<M:=d2;simp only at i7 ⊢;have qv:=q M O I P ω X;have g0:∀l:List Rg,(l.getD 0 (0,0)).1=oT l:=λ_=>rfl
  simp only[g0];have E:(I=0/\(df a=false\/df c=false\/oT c<oT a))->fv (p,⟨↑M,0,O,I,P⟩)/\l=R.2.1/\true=R.2.2/\(M:Int)=↑R.1.i/\(O:Int)=↑R.1.ab/\cw (aC I 0) 4 I=R.1.au/\cw (aC I 0) (aF (gq p) r) P=R.1.wh:=λh=>by
   grind [DY]
  have K:¬(I=0/\(df a=false\/df c=false\/oT c<oT a))->I=0->dy (gq p) n ⟨M,0,O,I,P⟩ (l++[(oT a,oT c)]) true=R:=λh h2=>by
   grind
  have L:I≠0->dy (gq p) n ⟨M,0,O,I,P⟩ l true=R:=λh=>by
   grind
  refine⟨λm1=>⟨λm2=>E ⟨m1,.inl m2⟩,λm2=>⟨λm3=>E ⟨m1,.inr (.inl m3)⟩,λm3=>⟨by have:=nO m2;omega,by have:=nO m3;omega,λm4=>E ⟨m1,.inr (.inr m4)⟩,λm4=>⟨λ_=>⟨by have:=nO m2;omega,by have:=nO m3;omega,fit _ (by simp),?_⟩,λh=>absurd m1 h⟩⟩⟩⟩,λm1=>⟨λh=>absurd h m1,λ_=>?_⟩⟩
  ·refine cont _ _ _ _ _ ω ω X (by simp;omega) (K ?_ m1);grind
  ·exact cont _ _ _ _ _ ω ω X ω (L m1)
 ·have bad:R.1.au=0/\(R.2.2=false\/a_ (gq p) R.1 93=false)->↑R.1.i=((oy ((p,⟨i,0,g,e,w⟩),a0)).i:Nat)/\↑R.1.ab=((oy ((p,⟨i,0,g,e,w⟩),a0)).ab:Nat)/\cw (aC R.1.au 0) 4 R.1.au=(oy ((p,⟨i,0,g,e,w⟩),a0)).au/\cw (aC R.1.au 0) a0 R.1.wh=(oy ((p,⟨i,0,g,e,w⟩),a0)).wh:=λh=>by
   rw[eT,Zac h,wrE,wrW,(Kh h2)];simp
  grind
 ·rw[eS];exact⟨λk=>⟨ω,by grind,rfl,rfl,rfl,rfl⟩,λk=>⟨ω,by grind,rfl,rfl,rfl,rfl⟩⟩
def Qhi (h:Ok lT) (a:Ok o4):Ok G0:=okZ [qW,Sf,R3,r8,o4,lT] f279 Qow ⟨xC,Qhe h,Qg8,ug,a,h⟩ QoB
abbrev QD:=QS×Int
def yq (y:QD):Ps->Ps×List Nd:=Bx (gq y.1.1) (20-y.2.toNat) (y.2.toNat+1)
def lV (y:QD):Nat:=5*(20-y.2.toNat)
def QaS (y:QD):Prop:=0<=y.2/\y.2<=20
def Sq (y:QD):Prop:=QaS y/\y.1.2.i<=y.1.1.1.length
def ltP (y:QD):Prop:=QaS y/\y.1.2.i<y.1.1.1.length
def Yw (f:FuncId) (pre:QD->Prop) (F:QD->Ps×List Nd):bk D:=xA f QD (·.1) R1 pre (λy=>[QtJ y.2]) (λy=>zz (F y).1) λy=>.list 7 (F y).2
def eZ (y:QD):Ps×List Nd:=lk (tX (gq y.1.1) (yq y) y.2.toNat (nn y.1.2))
def iv (y:QD):Ps×List Nd:=lk (ov (gq y.1.1) (yq y) y.2.toNat (nn y.1.2))
def j9 (y:QD):Ps×List Nd:=lk (rU (gq y.1.1) (yq y) y.2.toNat (nn y.1.2))
def fY (y:QD):Ps×List Nd:=lk (fX (gq y.1.1) (yq y) y.2.toNat (nn y.1.2))
abbrev QG:=QS×Int×Int
variable {s:Ps} {G:List Gt} {A:Ps->Ps×List Nd} {l:List (List Nd)}
def gd (y:QG):QD:=(y.1,y.2.1)
def qA (y:QG):Ps×List Nd:=lk (jk (gq y.1.1) (yq (gd y)) y.2.1.toNat (nn y.1.2) (ix (gq y.1.1) y.2.2))
def xF:bk D:=Yw 125 Sq eZ
def Ae:bk D:=Yw 183 Sq iv
def Af:bk D:=Yw 224 ltP j9
def DZ:bk D:=Yw 254 ltP fY
def D0:bk D:=xA 277 QG (·.1) QaO (λy=>Sq (gd y)/\xD (gq y.1.1) y.2.2) (λy=>[QtJ y.2.1,QtJ y.2.2]) (λy=>zz (qA y).1) λy=>.list 7 (qA y).2
def rfT (n:Nat):s6:=[xF.under (λy=>lV y+4) n,Ae.under (λy=>lV y+3) n,Af.under (λy=>lV y+2) n,DZ.under (λy=>lV y+1) n,D0.under (λy=>lV (gd y)) n]
def rfW (l:s6) (i:Nat) (fn:Func) (k:bk D) (a:k.Y->cU D) (n:Nat) (y:k.Y):Prop:=vc (rfT (n+i)++l) fn k a y
def QaT (p:QL) (s:b_):List (Nat×AO D.E):=qO p s++[(1,.tok 9 138)]
def stI (y:QD) (s:b_):Prop:=fv (y.1.1,s)/\(nn y.1.2).i<=(nn s).i/\(nn s).i<=y.1.1.1.length+30
def Kj (y:QD) (x:b_×List (List Nd)):Prop:=stI y x.1/\0<x.2.length/\total x.2+2*x.2.length<=3*((nn x.1).i-(nn y.1.2).i)+3/\∃n,y.1.1.1.length+2<=n+(nn x.1).i/\
 (dH (gq y.1.1) (yq y) y.2.toNat n (nn x.1) x.2).1=(eZ y).1/\bX 4 (dH (gq y.1.1) (yq y) y.2.toNat n (nn x.1) x.2).2=(eZ y).2
def Ag (y:QD) (x:b_×List (List Nd)):Nat:=y.1.1.1.length+30-(nn x.1).i
def QaU (y:xF.Y):cU D:=⟨[],[],[(28,⟨b_×List (List Nd),[0,1],λx=>[(5,.grow 9 x.2 1)],[],λx=>QaT y.1.1 x.1,2,Kj y,Ag y⟩)],[],1,[]⟩
def Qhk (y:xF.Y):Prop:=rfW [qW,BO] 4 f125 xF QaU (lV y) y
def Kk (y:QD) (x:b_×List (List Nd)):Prop:=stI y x.1/\x.2.length<=(nn x.1).i-(nn y.1.2).i/\total x.2<=3*((nn x.1).i-(nn y.1.2).i)/\∃n,y.1.1.1.length+2<=n+(nn x.1).i/\
 (ec (gq y.1.1) (yq y) y.2.toNat n (nn x.1) x.2).1=(iv y).1/\bX 3 (ec (gq y.1.1) (yq y) y.2.toNat n (nn x.1) x.2).2=(iv y).2
def QaV (y:Ae.Y):cU D:=⟨[],[],[(28,⟨b_×List (List Nd),[0,1],λx=>[(5,.grow 9 x.2 1)],[],λx=>QaT y.1.1 x.1,2,Kk y,Ag y⟩)],[],1,[]⟩
def Qhl (y:Ae.Y):Prop:=rfW [qW,BO] 3 f183 Ae QaV (lV y) y
def mZ (y:QD):Ps×Int×Int:=lk (if a_ (gq y.1.1) (fY y).1 42 then((fY y).1.next,0,-1) else if a_ (gq y.1.1) (fY y).1 43 then((fY y).1.next,1,-1) else if a_ (gq y.1.1) (fY y).1 63 then((fY y).1.next,0,1) else eh (gq y.1.1) (fY y).1)
def Ah (y:QD):Prop:=(fY y).1.au=0/\(fY y).1.i<y.1.1.1.length/\(a_ (gq y.1.1) (fY y).1 42\/a_ (gq y.1.1) (fY y).1 43\/a_ (gq y.1.1) (fY y).1 63\/a_ (gq y.1.1) (fY y).1 123)
def QaW (y:Af.Y):cU D:=⟨[],[],[],[(31,⟨Unit,[0,5],λ_=>[(6,.ptr 1 0)],[],λ_=>qO y.1.1 (zz (mZ y).1)++[(1,.cells [QtJ 5,.cW,QtJ (mZ y).2.1,QtJ (mZ y).2.2,.bool false,QtJ 0,QtJ 1] 206 false)],2,λ_=>Ah y,λ_=>0⟩)],1,[]⟩
def Qhm (y:Af.Y):Prop:=rfW [qW,GY] 2 f224 Af QaW (lV y) y
def Qhn (y:DZ.Y):Prop:=rfW [yL,r8,G0,GX,z_,o4] 1 f254 DZ (λ_=>dr ()) (lV y) y
def Qho (y:D0.Y):Prop:=rfW [qW,r8,MJ] 0 f277 D0 (λ_=>dr ()) (lV (gd y)) y
def G_ (y:(((List Int)×(List Int))×b_)×Int):Prop:=let g:=(eZ y).1;let q1:=((g.i:Nat):Int);let n:=((g.ab:Nat):Int);let h:=(y.1.1.1,y.1.1.2);let f:=(h,b_.mk y.1.2.i 0 y.1.2.ab y.1.2.au y.1.2.wh);let j:=(iv (f,y.2)).1;let k:=λp:Prop=>aa [y.1.1.1,y.1.1.2] p;Iv ((fv f/\Sq (f,y.2))/\(lV (f,y.2)+3)<(lV y+4))/\aa [y.2] (aa [y.1.1.1,y.1.1.2] (aa [y.1.2.i,y.1.2.ab,y.1.2.au,y.1.2.wh] ((∃z:b_×(List (List Nd)),aa [y.2] (([(iv (f,y.2)).2]:List (List Nd))=z.2/\k (((j.i:Nat):Int)=z.1.i/\((j.ab:Nat):Int)=z.1.ab/\j.au=z.1.au/\j.wh=z.1.wh/\(Iv (Kj y z)))))/\(∀x:b_×(List (List Nd)),let l:=aD .i64 x.1.i 1;let m:=b_.mk x.1.i 0 x.1.ab x.1.au x.1.wh;let o:=a_ (gq h) (nn m) 124;let c:=(h,b_.mk l 0 x.1.ab x.1.au x.1.wh);let a:=(c,y.2);let b:=(iv a).1;let d:=bM x.2 [(iv a).2];let e:Prop:=(Iv (total x.2<=100000/\x.2.length<=100000)/\aa ([4]:List Int) (aa [x.2] (bX 4 x.2=(eZ y).2/\k (x.1.i=q1/\x.1.ab=n/\x.1.au=g.au/\x.1.wh=g.wh/\True))));(Iv (Kj y x))->ak (aC x.1.au 0) (Iv (fv (h,m)/\(0:Int)<=(124:Int)/\(124:Int)<=(127:Int))/\aa ([124]:List Int) (aa [y.1.1.1,y.1.1.2] (aa [x.1.i,x.1.ab,x.1.au,x.1.wh] (ak o (Iv ((fv c/\Sq a)/\(lV a+3)<(lV y+4))/\aa [y.2] (aa [y.1.1.1,y.1.1.2] (aa [l,x.1.ab,x.1.au,x.1.wh] (bF (ah d) 24/\∃z:b_×(List (List Nd)),aa [y.2] (d=z.2/\k (((b.i:Nat):Int)=z.1.i/\((b.ab:Nat):Int)=z.1.ab/\b.au=z.1.au/\b.wh=z.1.wh/\(Iv (Kj y z/\Ag y z<Ag y x)))))))) (e))))) (e)))))
def Sr:∀y,G_ y=Qhk y:=λy=>by kernel_rfl
def Ha (y:(((List Int)×(List Int))×b_)×Int):Prop:=let h:=(iv y).1;let q1:=(iv y).2;let k:=((h.i:Nat):Int);let l:=((h.ab:Nat):Int);let d:=(y.1.1.1,y.1.1.2);let j:=λp:Prop=>aa [y.1.1.1,y.1.1.2] p;(∃z:b_×(List (List Nd)),aa [y.2] ([]=z.2/\j (y.1.2.i=z.1.i/\y.1.2.ab=z.1.ab/\y.1.2.au=z.1.au/\y.1.2.wh=z.1.wh/\(Iv (Kk y z)))))/\(∀x:b_×(List (List Nd)),let m:=az x.1.i (ah y.1.1.1);let e:=b_.mk x.1.i 0 x.1.ab x.1.au x.1.wh;let n:=!(a_ (gq d) (nn e) 41);let o:=!(a_ (gq d) (nn e) 124);let a:=((d,e),y.2);let b:=(j9 a).1;let f:=bM x.2 [(j9 a).2];let c:Prop:=(Iv (total x.2<=100000/\x.2.length<=100000)/\aa ([3]:List Int) (aa [x.2] (bX 3 x.2=q1/\j (x.1.i=k/\x.1.ab=l/\x.1.au=h.au/\x.1.wh=h.wh/\True))));let g:Prop:=(aa [x.1.au,x.1.i] (aa [y.1.1.1] (c)));(Iv (Kk y x))->ak (aC x.1.au 0) (ak m (Iv (fv (d,e)/\(0:Int)<=(124:Int)/\(124:Int)<=(127:Int))/\aa ([124]:List Int) (aa [y.1.1.1,y.1.1.2] (aa [x.1.i,x.1.ab,x.1.au,x.1.wh] (ak o (Iv (fv (d,e)/\(0:Int)<=(41:Int)/\(41:Int)<=(127:Int))/\aa ([41]:List Int) (aa [y.1.1.1,y.1.1.2] (aa [x.1.i,x.1.ab,x.1.au,x.1.wh,x.1.au,x.1.i] (aa [y.1.1.1] (ak n (Iv ((fv (d,e)/\ltP a)/\(lV a+2)<(lV y+3))/\aa [y.2] (aa [y.1.1.1,y.1.1.2] (aa [x.1.i,x.1.ab,x.1.au,x.1.wh] (bF (ah f) 24/\∃z:b_×(List (List Nd)),aa [y.2] (f=z.2/\j (((b.i:Nat):Int)=z.1.i/\((b.ab:Nat):Int)=z.1.ab/\b.au=z.1.au/\b.wh=z.1.wh/\(Iv (Kk y z/\Ag y z<Ag y x)))))))) (c)))))) (g))))) (g)) (aa [x.1.au] (c)))
def Ss:∀y,Ha y=Qhl y:=λy=>by kernel_rfl
def Hb (y:(((List Int)×(List Int))×b_)×Int):Prop:=let r:=(j9 y).1;let q1:=(j9 y).2;let c:=(mZ y).1;let H:=((r.i:Nat):Int);let s:=(mZ y).2.2;let I:=((r.ab:Nat):Int);let t:=(mZ y).2.1;let u:=((c.i:Nat):Int);let D:=((c.ab:Nat):Int);let f:=y.1.1.1;let g:=(f,y.1.1.2);let v:=b_.mk u 0 D c.au c.wh;let w:=(g,b_.mk y.1.2.i 0 y.1.2.ab y.1.2.au y.1.2.wh);let F:=a_ (gq g) (nn v) 63;let h:=(w,y.2);let j:=(fY h).2;let a:=(fY h).1;let k:=((a.ab:Nat):Int);let b:=((a.i:Nat):Int);let G:=aI (ah f) b;let d:=gt 0 f b.toNat;let A:=bM [Nd.mk 5 [] t s true 0 1] j;let B:=bM [Nd.mk 5 [] t s false 0 1] j;let e:=(g,b_.mk b 0 k a.au a.wh);let l:=(qX e).1;let q:=λp:Prop=>aa [f,y.1.1.2] p;let m:=λp:Prop=>aa [j] (aa ([5]:List Int) p);let E:=λp:Prop=>aa ([0,1]:List Int) (aa [f,y.1.1.2] p);let C:Prop:=(D=I/\c.au=r.au/\c.wh=r.wh/\True);let n:Prop:=(false=false/\E (aD .i64 b 1=u/\k=D/\a.au=c.au/\a.wh=c.wh/\(Iv (Ah y))));let o:Prop:=(j=q1/\q (b=H/\k=I/\a.au=r.au/\a.wh=r.wh/\True));Iv ((fv w/\ltP h)/\(lV h+1)<(lV y+2))/\aa [y.2] (aa [f,y.1.1.2] (aa [y.1.2.i,y.1.2.ab,y.1.2.au,y.1.2.wh] (ak (!(aC a.au 0)) (aa [a.au] (o)) (aa [a.au,b] (aa [f] (ak G (o) ((aI 0 b/\az b (ah f)/\aa [f] (aa [b,d] (ak (aC d 42) (∃z:Unit,m (0=t/\(-1)=s/\n)) (ak (aC d 43) (∃z:Unit,m (1=t/\(-1)=s/\n)) (ak (aC d 63) (∃z:Unit,m (0=t/\1=s/\n)) (ak (aC d 123) (Iv (fv e/\Se e)/\aa [f,y.1.1.2] (aa [b,k,a.au,a.wh] (∃z:Unit,m ((qX e).2.1=t/\(qX e).2.2=s/\false=false/\E (((l.i:Nat):Int)=u/\((l.ab:Nat):Int)=D/\l.au=c.au/\l.wh=c.wh/\(Iv (Ah y))))))) (o)))))))/\(∀x:Unit,(Iv (Ah y))->Iv (fv (g,v)/\(0:Int)<=(63:Int)/\(63:Int)<=(127:Int))/\aa ([63]:List Int) (aa [f,y.1.1.2] (aa [u,D,c.au,c.wh] (ak F (bF (ah A) 72/\A=q1/\q (aD .i64 u 1=H/\C)) (bF (ah B) 72/\B=q1/\q (u=H/\C)))))))))))))
def Su:∀y,Hb y=Qhm y:=λy=>by kernel_rfl
def Hc (y:(((List Int)×(List Int))×b_)×Int):Prop:=let f:=(fY y).1;let q1:=(fY y).2;let s:=((f.ab:Nat):Int);let t:=((f.i:Nat):Int);let j:=y.1.1.1;let n:=aD .i64 y.1.2.i 1;let a:=gt 0 j y.1.2.i.toNat;let v:=(j,y.1.1.2);let e:=aF (gq v) y.1.2.i.toNat;let w:=([(a,a)]:List (Int×Int));let b:=(v,b_.mk n 0 y.1.2.ab y.1.2.au y.1.2.wh);let o:=(ti (b,e)).2;let k:=(xE (b,e)).1;let l:=(ti (b,e)).1;let q:=(xE (b,e)).2;let r:=gd (b,(y.2,e));let g:=qA (b,(y.2,e));let u:=λp:Prop=>aa [e] (aa [j,y.1.1.2] (aa [n,y.1.2.ab,y.1.2.au,y.1.2.wh] p));let h:=λp:Prop=>aa [j,y.1.1.2] p;let m:Prop:=(h (n=t/\y.1.2.ab=s/\y.1.2.au=f.au/\y.1.2.wh=f.wh/\True));let c:Prop:=(Iv True/\aa [w] (([wT w]:List Nd)=q1/\m));let d:Prop:=(Iv (fv b/\True)/\aa ([4,e]:List Int) (aa [j,y.1.1.2] (aa [n,y.1.2.ab,y.1.2.au,y.1.2.wh] ([]=q1/\h (n=t/\y.1.2.ab=s/\cw (aC y.1.2.au 0) 4 y.1.2.au=f.au/\cw (aC y.1.2.au 0) e y.1.2.wh=f.wh/\True)))));Iv (fv (v,b_.mk y.1.2.i 0 y.1.2.ab y.1.2.au y.1.2.wh)/\y.1.2.i<=(j.length:Int))/\aa [j,y.1.1.2] (aa [y.1.2.i,y.1.2.ab,y.1.2.au,y.1.2.wh] (aI 0 y.1.2.i/\az y.1.2.i (ah j)/\aa [j] (aa [y.1.2.i,a] (ak (aC a 40) (Iv ((fv b/\Sq r/\xD (gq v) e)/\lV r<(lV y+1))/\aa [y.2,e] (aa [j,y.1.1.2] (aa [n,y.1.2.ab,y.1.2.au,y.1.2.wh] (g.2=q1/\h (((g.1.i:Nat):Int)=t/\((g.1.ab:Nat):Int)=s/\g.1.au=f.au/\g.1.wh=f.wh/\True))))) (ak (aC a 91) (Iv (fv b/\MH (b,e))/\u (Iv True/\aa [q] (([wT q]:List Nd)=q1/\h (((k.i:Nat):Int)=t/\((k.ab:Nat):Int)=s/\k.au=f.au/\k.wh=f.wh/\True)))) (ak (aC a 46) (Iv (1<=2000000)/\aa ([[(10,10)]]:List (List (Int×Int))) (Iv True/\aa [lE [(10,10)]] (([wT (lE [(10,10)])]:List Nd)=q1/\m))) (ak (aC a 94) (([Nd.mk 7 [] 0 0 false 0 0]:List Nd)=q1/\m) (ak (aC a 36) (([Nd.mk 8 [] 0 0 false 0 0]:List Nd)=q1/\m) (ak (aC a 92) (Iv (fv b/\MH (b,e))/\u (Iv True/\aa [o] (([wT o]:List Nd)=q1/\h (((l.i:Nat):Int)=t/\((l.ab:Nat):Int)=s/\l.au=f.au/\l.wh=f.wh/\True)))) (ak (aC a 42) (ak (aC a 42) (d) (c)) (ak (aC a 43) (ak (aC a 43) (d) (c)) (ak (aC a 63) (ak (aC a 63) (d) (c)) (ak (aC a 123) (ak (aC a 123) (d) (c)) (ak (aC a 125) (ak (aC a 125) (d) (c)) (ak (aC a 93) (ak (aC a 93) (d) (c)) (ak (aC a 41) (ak (aC a 41) (d) (c)) (ak (aC a 124) (ak (aC a 124) (d) (c)) (ak (aC a (-1)) (d) (c)))))))))))))))))))
def Sv:∀y,Hc y=Qhn y:=λy=>by kernel_rfl
def Hd (y:(((List Int)×(List Int))×b_)×Int×Int):Prop:=let k:=(qA y).1;let q1:=(qA y).2;let x:=((k.i:Nat):Int);let C:=((k.ab:Nat):Int);let c:=y.1.1.1;let l:=aD .i64 y.2.1 1;let K:=aI 4 y.1.2.ab;let F:=aC y.1.2.au 0;let J:=aD .i64 y.1.2.i 2;let G:=aD .i64 y.1.2.i 1;let r:=aD .i64 y.1.2.ab 1;let a:=(c,y.1.1.2);let b:=gq a;let v:=gt 0 c G.toNat;let f:=b_.mk y.1.2.i 0 y.1.2.ab y.1.2.au y.1.2.wh;let w:=a_ b (nn f) 63;let g:=(a,b_.mk y.1.2.i 0 r y.1.2.au y.1.2.wh);let h:=(a,b_.mk J 0 y.1.2.ab y.1.2.au y.1.2.wh);let d:=(eZ (h,l)).1;let e:=(eZ (g,l)).1;let s:=((d.i:Nat):Int);let z:=((e.ab:Nat):Int);let A:=((d.ab:Nat):Int);let t:=((e.i:Nat):Int);let B:=bM [Nd.mk 6 [] 0 0 false r 1] (eZ (g,l)).2;let m:=b_.mk t 0 z e.au e.wh;let n:=b_.mk s 0 A d.au d.wh;let H:=a_ b (nn n) 41;let I:=a_ b (nn m) 41;let o:=ite (d.au=0/\H=false) (Ps.ax b (nn n) (ix b y.2.2) 4) (nn n);let q:=ite (e.au=0/\I=false) (Ps.ax b (nn m) (ix b y.2.2) 4) (nn m);let j:=λp:Prop=>aa [c,y.1.1.2] p;let u:Prop:=(cw F y.2.2 y.1.2.wh=k.wh/\True);let D:Prop:=(Iv (fv (a,f)/\True)/\aa ([4,y.2.2]:List Int) (aa [c,y.1.1.2] (aa [y.1.2.i,y.1.2.ab,y.1.2.au,y.1.2.wh] ([]=q1/\j (y.1.2.i=x/\y.1.2.ab=C/\cw F 4 y.1.2.au=k.au/\u)))));let E:Prop:=(ak (aI 20 y.2.1) (Iv (fv (a,f)/\True)/\aa ([10,y.2.2]:List Int) (aa [c,y.1.1.2] (aa [y.1.2.i,y.1.2.ab,y.1.2.au,y.1.2.wh] ([]=q1/\j (y.1.2.i=x/\y.1.2.ab=C/\cw F 10 y.1.2.au=k.au/\u))))) (ak w (Iv ((fv h/\Sq (h,l))/\(lV (h,l)+4)<(lV (gd y)+0))/\aa [l] (aa [c,y.1.1.2] (aa [J,y.1.2.ab,y.1.2.au,y.1.2.wh] (Iv (fv (a,n)/\s<=90000/\xD b y.2.2)/\aa [y.2.2] (aa [c,y.1.1.2] (aa [s,A,d.au,d.wh] ((eZ (h,l)).2=q1/\j (((o.i+1:Nat):Int)=x/\((o.ab:Nat):Int)=C/\o.au=k.au/\o.wh=k.wh/\True)))))))) (ak K (Iv (fv (a,f)/\True)/\aa ([13,y.2.2]:List Int) (aa [c,y.1.1.2] (aa [y.1.2.i,y.1.2.ab,y.1.2.au,y.1.2.wh] ([]=q1/\j (y.1.2.i=x/\y.1.2.ab=C/\cw F 13 y.1.2.au=k.au/\u))))) (Iv ((fv g/\Sq (g,l))/\(lV (g,l)+4)<(lV (gd y)+0))/\aa [l] (aa [c,y.1.1.2] (aa [y.1.2.i,r,y.1.2.au,y.1.2.wh] (Iv (fv (a,m)/\t<=90000/\xD b y.2.2)/\aa [y.2.2] (aa [c,y.1.1.2] (aa [t,z,e.au,e.wh] (bF (ah B) 72/\B=q1/\j (((q.i+1:Nat):Int)=x/\((q.ab:Nat):Int)=C/\q.au=k.au/\q.wh=k.wh/\True)))))))))));Iv (fv (a,f)/\(0:Int)<=(63:Int)/\(63:Int)<=(127:Int))/\aa ([63]:List Int) (aa [c,y.1.1.2] (aa [y.1.2.i,y.1.2.ab,y.1.2.au,y.1.2.wh] (ak w (ak (aI (ah c) G) (aa [y.1.2.i] (aa [c] (D))) (aI 0 G/\az G (ah c)/\aa [y.1.2.i] (aa [c,c] (aa [y.1.2.i,v] (ak (!(aC v 58)) (D) (E)))))) (E))))
def Sw:∀y,Hd y=Qho y:=λy=>by kernel_rfl
def nz0 (h:s.aq=0):nn ⟨s.i,0,s.ab,s.au,s.wh⟩=s:=by rw[ez0,<-h]
def BS (y:QD):uF (gq y.1.1) (20-y.2.toNat) (yq y):=BQ _ _ _
theorem D1 {d n:Nat} (h:s.au≠0\/a_ G s 124=false):dH G A d n s l=(s,l):=by
 cases n with
 | zero=>rfl
 | succ n=>
  grind [dH]
theorem D2 {d n:Nat} (h:¬(s.au=0/\s.i<G.length/\a_ G s 124=false/\a_ G s 41=false)):ec G A d n s l=(s,l):=by
 cases n with
 | zero=>rfl
 | succ n=>unfold ec;rw[Zaa h]
theorem Qhq (y:QD) (L:xF.pre y):G_ y:=by
 have⟨⟨p,s⟩,d⟩:=y;obtain⟨h0,z,h1⟩:fv (p,s)/\(0<=d/\d<=20)/\s.i<=p.1.length:=L;have⟨i,g,es,f⟩:=h0.out;have⟨_,_,_,e,w⟩:=s;cases es;obtain⟨d,rfl⟩:=Zau z.1;simp only at h1;have hl:=f.hl;have hlen:=f.len;have q:=λ(j k:Nat) (e w:Int) (E:j<=100000) (hk:k<=4)=>(⟨f.q,E,hk,hl,hlen⟩:QF p j k).ok e w
 have A:=BS ((p,⟨i,0,g,e,w⟩),↑d);obtain⟨B,H⟩:∃B,yq ((p,⟨i,0,g,e,w⟩),↑d)=B:=⟨_,rfl⟩;rw[H] at A;have A:uF (gq p) (20-d) B:=A;have b:∀N,yq ((p,N),↑d)=B:=λ_=>H
 have G:∀j k e w,iv ((p,⟨(j:Nat),0,(k:Nat),e,w⟩),↑d)=ov (gq p) B d ⟨j,0,k,e,w⟩:=λj k e w=>by unfold iv;rw[aJ,b];rfl
 have⟨c1,c2⟩:=vD A d (s:=⟨i,0,g,e,w⟩) (by grind) f.g;obtain⟨c,D⟩:∃c,ov (gq p) B d ⟨i,0,g,e,w⟩=c:=⟨_,rfl⟩;rw[D] at c1 c2;have R:eZ ((p,⟨i,0,g,e,w⟩),↑d)=((dH (gq p) B d ((gq p).length+2-c.1.i) c.1 [c.2]).1,bX 4 (dH (gq p) B d ((gq p).length+2-c.1.i) c.1 [c.2]).2):=by
  unfold eZ;rw[aJ,b,<-D];rfl
 have cl:=c1.len;have co:=c1.op;unfold G_;simp only[bN,bh,Zad,Zan,Zao,G',aw,a8,br,di,G,D];refine⟨⟨⟨q i g e w ω f.g,⟨z.1,z.2⟩,h1⟩,ω⟩,⟨(⟨c.1.i,0,c.1.ab,c.1.au,c.1.wh⟩,[c.2]),rfl,rfl,rfl,rfl,rfl,⟨q _ _ _ _ ω c1.gm,c1.le,by grind⟩,by simp,?_,(gq p).length+2-c.1.i,?_,?_,?_⟩,λx K=>?_⟩
 ·have Q:total [c.2]=c.2.length:=by simp[total]
  have c3:c.2.length<=3*(c.1.i-i)+1:=c2;show total [c.2]+2*1<=3*(c.1.i-i)+3
  omega
 ·grind
 ·grind
 ·grind
 ·have⟨⟨U,V,T,l,v⟩,r⟩:=x;have⟨⟨M,S,I⟩,i3,i4,n,i5,i6,i7⟩:=K;have⟨a,o,es,C⟩:=M.out;cases es;have I:a<=p.1.length+30:=I;have i4:total r+2*r.length<=3*(a-i)+3:=i4;have i5:p.1.length+2<=n+a:=i5;rw[b] at i6 i7;have i6:(dH (gq p) B d n ⟨a,0,o,l,v⟩ r).1=(eZ ((p,⟨i,0,g,e,w⟩),↑d)).1:=i6;have i7:bX 4 (dH (gq p) B d n ⟨a,0,o,l,v⟩ r).2=(eZ ((p,⟨i,0,g,e,w⟩),↑d)).2:=i7;have ex:nn ⟨↑a,0,↑o,l,v⟩=⟨a,0,o,l,v⟩:=rfl;simp only[ex,bL (n:=a) ω,G];have stop:(l≠0\/a_ (gq p) ⟨a,0,o,l,v⟩ 124=false)->(total r<=100000/\r.length<=100000)/\bX 4 r=(eZ ((p,⟨i,0,g,e,w⟩),↑d)).2/\(a:Int)=((eZ ((p,⟨i,0,g,e,w⟩),↑d)).1.i:Nat)/\(o:Int)=((eZ ((p,⟨i,0,g,e,w⟩),↑d)).1.ab:Nat)/\l=(eZ ((p,⟨i,0,g,e,w⟩),↑d)).1.au/\v=(eZ ((p,⟨i,0,g,e,w⟩),↑d)).1.wh:=λh=>by
   grind [D1]
  refine⟨λk1=>⟨⟨q a o l v C.i C.g,by decide,by decide⟩,λk2=>?_,λk2=>stop (.inr k2)⟩,λk1=>stop (.inl k1)⟩;have E:=c_ k2;simp only at E;have⟨b1,J⟩:=vD A d (s:=⟨a+1,0,o,l,v⟩) (by assumption) C.g;obtain⟨t,ht⟩:∃t,ov (gq p) B d ⟨a+1,0,o,l,v⟩=t:=⟨_,rfl⟩;rw[ht] at b1 J ⊢;have O:=b1.len;have P:a+1<=t.1.i:=b1.le;have F:=b1.op;obtain⟨n,rfl⟩:∃m,n=m+1:=⟨n-1,ω⟩;have u:dH (gq p) B d (n+1) ⟨a,0,o,l,v⟩ r=dH (gq p) B d n t.1 (r++[t.2]):=by
   conv=>lhs;unfold dH
   rw[Zac ⟨k1,k2⟩,<-ht];rfl
  rw[u] at i6 i7;refine⟨⟨⟨q _ _ _ _ ω C.g,⟨z.1,z.2⟩,by grind⟩,by grind [lV]⟩,by simp;omega,(⟨t.1.i,0,t.1.ab,t.1.au,t.1.wh⟩,r++[t.2]),rfl,rfl,rfl,rfl,rfl,⟨⟨q _ _ _ _ ω b1.gm,by grind,by grind⟩,by simp,?_,n,by grind,?_,?_⟩,?_⟩
  ·grind [gv]
  ·rw[nz0 F,b];exact i6
  ·rw[nz0 F,b];exact i7
  ·show p.1.length+30-(t.1.i:Int).toNat<p.1.length+30-(a:Int).toNat
   omega
theorem Qhr (y:QD) (L:Ae.pre y):Ha y:=by
 have⟨⟨p,s⟩,d⟩:=y;obtain⟨h0,C,h1⟩:fv (p,s)/\(0<=d/\d<=20)/\s.i<=p.1.length:=L;have⟨i,g,es,f⟩:=h0.out;have⟨_,_,_,e,w⟩:=s;cases es;obtain⟨d,rfl⟩:=Zau C.1;simp only at h1;have hl:=f.hl;have hlen:=f.len;have q:=λ(j k:Nat) (e w:Int) (J:j<=100000) (hk:k<=4)=>(⟨f.q,J,hk,hl,hlen⟩:QF p j k).ok e w
 have A:=BS ((p,⟨i,0,g,e,w⟩),↑d);obtain⟨B,H⟩:∃B,yq ((p,⟨i,0,g,e,w⟩),↑d)=B:=⟨_,rfl⟩;rw[H] at A;have A:uF (gq p) (20-d) B:=A;have b:∀N,yq ((p,N),↑d)=B:=λ_=>H
 have G:∀j k e w,j9 ((p,⟨(j:Nat),0,(k:Nat),e,w⟩),↑d)=rU (gq p) B d ⟨j,0,k,e,w⟩:=λj k e w=>by unfold j9;rw[aJ,b];rfl
 have F:iv ((p,⟨i,0,g,e,w⟩),↑d)=((ec (gq p) B d ((gq p).length+2-i) ⟨i,0,g,e,w⟩ []).1,bX 3 (ec (gq p) B d ((gq p).length+2-i) ⟨i,0,g,e,w⟩ []).2):=by
  unfold iv;rw[aJ,b];rfl
 unfold Ha;simp only[bN,bh,Zad,Zan,Zao,G',aw,a8,br,di,G];refine⟨⟨(⟨i,0,g,e,w⟩,[]),rfl,rfl,rfl,rfl,rfl,⟨q _ _ _ _ ω f.g,Zah _,by show i<=p.1.length+30;omega⟩,by simp,by simp[total],(gq p).length+2-i,?_,?_,?_⟩,λx K=>?_⟩
 ·show p.1.length+2<=(gq p).length+2-i+i;omega
 ·rw[b,F];rfl
 ·rw[b,F];rfl
 ·have⟨⟨S,T,R,c,o⟩,r⟩:=x;have⟨⟨M,P,Q⟩,i3,i4,n,i5,i6,i7⟩:=K;have⟨a,l,es,z⟩:=M.out;cases es;have i3:r.length<=a-i:=i3;have i5:p.1.length+2<=n+a:=i5;rw[b] at i6 i7;have i6:(ec (gq p) B d n ⟨a,0,l,c,o⟩ r).1=(iv ((p,⟨i,0,g,e,w⟩),↑d)).1:=i6;have i7:bX 3 (ec (gq p) B d n ⟨a,0,l,c,o⟩ r).2=(iv ((p,⟨i,0,g,e,w⟩),↑d)).2:=i7;have ex:nn ⟨↑a,0,↑l,c,o⟩=⟨a,0,l,c,o⟩:=rfl;simp only[G];have stop:¬(c=0/\a<(gq p).length/\a_ (gq p) ⟨a,0,l,c,o⟩ 124=false/\a_ (gq p) ⟨a,0,l,c,o⟩ 41=false)->(total r<=100000/\r.length<=100000)/\bX 3 r=(iv ((p,⟨i,0,g,e,w⟩),↑d)).2/\(a:Int)=((iv ((p,⟨i,0,g,e,w⟩),↑d)).1.i:Nat)/\(l:Int)=((iv ((p,⟨i,0,g,e,w⟩),↑d)).1.ab:Nat)/\c=(iv ((p,⟨i,0,g,e,w⟩),↑d)).1.au/\o=(iv ((p,⟨i,0,g,e,w⟩),↑d)).1.wh:=λh=>by
   grind [D2]
  have D:=q a l c o z.i z.g;refine⟨λk1=>⟨λk2=>⟨⟨D,by decide,by decide⟩,λk3=>⟨⟨D,by decide,by decide⟩,λk4=>?_,λk4=>stop λh=>by grind⟩,λk3=>stop λh=>by grind⟩,λk2=>stop λh=>ω⟩,λk1=>stop λh=>k1 h.1⟩;have⟨b1,v,I⟩:=Kg A d (t:=⟨a,0,l,c,o⟩) (by grind) z.g;obtain⟨t,ht⟩:∃t,rU (gq p) B d ⟨a,0,l,c,o⟩=t:=⟨_,rfl⟩;rw[ht] at b1 v I ⊢;have O:=b1.len;have E:=b1.op;have v:a<t.1.i:=v;obtain⟨n,rfl⟩:∃m,n=m+1:=⟨n-1,ω⟩;have u:ec (gq p) B d (n+1) ⟨a,0,l,c,o⟩ r=ec (gq p) B d n t.1 (r++[t.2]):=by
   grind [ec]
  rw[u] at i6 i7;refine⟨⟨⟨D,⟨C.1,C.2⟩,by assumption⟩,by grind [lV]⟩,by simp;omega,(⟨t.1.i,0,t.1.ab,t.1.au,t.1.wh⟩,r++[t.2]),rfl,rfl,rfl,rfl,rfl,⟨⟨q _ _ _ _ ω b1.gm,by grind,by grind⟩,?_,?_,n,by grind,?_,?_⟩,?_⟩
  ·grind
  ·grind [gv]
  ·rw[nz0 E,b];exact i6
  ·rw[nz0 E,b];exact i7
  ·show p.1.length+30-(t.1.i:Int).toNat<p.1.length+30-(a:Int).toNat
   omega
theorem Qdo (h:s.i<G.length) (a:s.ab<=4):RB G 1 s (eh G s).1:=(Aa (RB.refl (k:=0) ω a) h).1
theorem Qhs (y:QD) (S:Af.pre y):Hb y:=by
 have⟨⟨p,s⟩,d⟩:=y;obtain⟨h0,E,h1⟩:fv (p,s)/\(0<=d/\d<=20)/\s.i<p.1.length:=S;have⟨i,g,es,f⟩:=h0.out;have⟨_,_,_,e,w⟩:=s;cases es;obtain⟨d,rfl⟩:=Zau E.1;have hl:=f.hl;have hlen:=f.len;have q:=λ(j k:Nat) (e w:Int) (F:j<=100000) (hk:k<=4)=>(⟨f.q,F,hk,hl,hlen⟩:QF p j k).ok e w
 have A:=BS ((p,⟨i,0,g,e,w⟩),↑d);obtain⟨B,I⟩:∃B,yq ((p,⟨i,0,g,e,w⟩),↑d)=B:=⟨_,rfl⟩;rw[I] at A;have m:∀U,yq ((p,U),↑d)=B:=λ_=>I
 have u:fY ((p,⟨i,0,g,e,w⟩),↑d)=fX (gq p) B d ⟨i,0,g,e,w⟩:=by unfold fY;rw[aJ,m];rfl
 have⟨b1,L,G⟩:=DW A d (t:=⟨i,0,g,e,w⟩) (by grind) f.g;obtain⟨t,ht⟩:∃t,fX (gq p) B d ⟨i,0,g,e,w⟩=t:=⟨_,rfl⟩;rw[ht] at b1 L G u;have M:=b1.len;have C:=b1.gm;have N:=b1.op;have O:=G;have⟨⟨a,to,c,b,l⟩,x⟩:=t;subst N;simp only at M C O;have Q:mZ ((p,⟨i,0,g,e,w⟩),↑d)=if a_ (gq p) ⟨a,0,c,b,l⟩ 42 then(⟨a+1,0,c,b,l⟩,0,-1) else if a_ (gq p) ⟨a,0,c,b,l⟩ 43 then(⟨a+1,0,c,b,l⟩,1,-1) else if a_ (gq p) ⟨a,0,c,b,l⟩ 63 then(⟨a+1,0,c,b,l⟩,0,1) else eh (gq p) ⟨a,0,c,b,l⟩:=by
  unfold mZ;rw[aJ,u];rfl
 have P:Ah ((p,⟨i,0,g,e,w⟩),↑d)=(b=0/\a<p.1.length/\(a_ (gq p) ⟨a,0,c,b,l⟩ 42\/a_ (gq p) ⟨a,0,c,b,l⟩ 43\/a_ (gq p) ⟨a,0,c,b,l⟩ 63\/a_ (gq p) ⟨a,0,c,b,l⟩ 123)):=by
  unfold Ah;rw[u]
 have H:j9 ((p,⟨i,0,g,e,w⟩),↑d)=if b≠0\/(gq p).length<=a then(⟨a,0,c,b,l⟩,x) else if a_ (gq p) ⟨a,0,c,b,l⟩ 42 then jJ (gq p) ⟨a+1,0,c,b,l⟩ 0 (-1) x else if a_ (gq p) ⟨a,0,c,b,l⟩ 43 then jJ (gq p) ⟨a+1,0,c,b,l⟩ 1 (-1) x else if a_ (gq p) ⟨a,0,c,b,l⟩ 63 then jJ (gq p) ⟨a+1,0,c,b,l⟩ 0 1 x else if a_ (gq p) ⟨a,0,c,b,l⟩ 123 then jJ (gq p) (eh (gq p) ⟨a,0,c,b,l⟩).1 (eh (gq p) ⟨a,0,c,b,l⟩).2.1 (eh (gq p) ⟨a,0,c,b,l⟩).2.2 x else(⟨a,0,c,b,l⟩,x):=by
  unfold j9;rw[aJ,m];unfold rU;rw[show fX (gq p) B ((d:Int).toNat) (nn ⟨i,0,g,e,w⟩)=(⟨a,0,c,b,l⟩,x) from ht];rfl
 have F:a<p.1.length->b=0->(a_ (gq p) ⟨a,0,c,b,l⟩ 42\/a_ (gq p) ⟨a,0,c,b,l⟩ 43\/a_ (gq p) ⟨a,0,c,b,l⟩ 63\/a_ (gq p) ⟨a,0,c,b,l⟩ 123)->j9 ((p,⟨i,0,g,e,w⟩),↑d)=jJ (gq p) (mZ ((p,⟨i,0,g,e,w⟩),↑d)).1 (mZ ((p,⟨i,0,g,e,w⟩),↑d)).2.1 (mZ ((p,⟨i,0,g,e,w⟩),↑d)).2.2 x/\RB (gq p) 1 ⟨a,0,c,b,l⟩ (mZ ((p,⟨i,0,g,e,w⟩),↑d)).1:=λh1 W X=>by
  have nx:RB (gq p) 1 ⟨a,0,c,b,l⟩ ⟨a+1,0,c,b,l⟩:=⟨by grind,by grind,rfl,Zah _,C⟩;grind [Qdo]
 have R:qX (p,⟨a,0,c,b,l⟩)=eh (gq p) ⟨a,0,c,b,l⟩:=by unfold qX;rw[aJ];rfl
 unfold Hb;simp only[bN,bh,Zad,Zan,Zao,G',aw,a8,br,di,ZaY,ZaZ,u,R,P,bL (n:=a) ω];have same:j9 ((p,⟨i,0,g,e,w⟩),↑d)=(⟨a,0,c,b,l⟩,x)->x=(j9 ((p,⟨i,0,g,e,w⟩),↑d)).2/\(a:Int)=((j9 ((p,⟨i,0,g,e,w⟩),↑d)).1.i:Nat)/\(c:Int)=((j9 ((p,⟨i,0,g,e,w⟩),↑d)).1.ab:Nat)/\b=(j9 ((p,⟨i,0,g,e,w⟩),↑d)).1.au/\l=(j9 ((p,⟨i,0,g,e,w⟩),↑d)).1.wh:=λh=>by grind
 refine⟨⟨⟨q i g e w f.i f.g,⟨E.1,E.2⟩,h1⟩,ω⟩,λk1=>same (H.trans (Zac (.inl k1))),λk1=>⟨λk2=>same (H.trans (Zac (.inr ω))),λk2=>⟨⟨ZaF _,k2,?_⟩,λD=>?_⟩⟩⟩
 ·have o:a<p.1.length:=ω;have rune:∀r:Int,0<=r->r<128->(p.1.getD a 0=r↔a_ (gq p) ⟨a,0,c,b,l⟩ r):=λr Z r1=>by
   rw[GW r (show a<(gq p).length by omega),ZaP];show _↔aK (gq p) a=r
   rcases f.q.rune (i:=a) o with⟨_,h⟩ | ⟨_,h,Y⟩
   ·rw[h]
   ·omega
  refine⟨λv=>?_,λv=>⟨λz=>?_,λz=>⟨λv3=>?_,λv3=>⟨λK=>?_,λK=>?_⟩⟩⟩⟩
  ·grind
  ·grind
  ·grind
  ·have v:=λh=>v ((rune 42 (by decide) (by decide)).2 h)
   have z:=λh=>z ((rune 43 (by decide) (by decide)).2 h)
   have v3:=λh=>v3 ((rune 63 (by decide) (by decide)).2 h)
   rw[Q,Zaa v,Zaa z,Zaa v3];exact⟨⟨(q a c b l ω C),k2⟩,rfl,rfl,rfl,rfl,rfl,rfl,k1,o,.inr (.inr (.inr ((rune 123 (by decide) (by decide)).1 K)))⟩
  ·grind
 ·have⟨V,z2⟩:=F D.2.1 D.1 D.2.2;rw[V];generalize mZ ((p,⟨i,0,g,e,w⟩),↑d)=J at*
  have z3:=z2.len;rw[nz0 z2.op];have fit:∀n:Nd,((([n]++x).length:Nat):Int)*(72:Nat)<=140737488355328:=λn=>by grind
  have T:a_ (gq p) J.1 63->aD .i64 ↑J.1.i 1=((J.1.i+1:Nat):Int):=λ_=>bL ω
  unfold jJ;refine⟨⟨q _ _ _ _ ω z2.gm,by decide,by decide⟩,λk=>?_,λk=>?_⟩
  ·rw[T k,qT k,k];exact⟨fit _,rfl,rfl,rfl,rfl,rfl⟩
  ·rw[qU k,k];exact⟨fit _,rfl,rfl,rfl,rfl,rfl⟩
theorem Qht (y:QD) (A:DZ.pre y):Hc y:=by
 have⟨⟨p,s⟩,d⟩:=y;obtain⟨h0,l,h1⟩:fv (p,s)/\(0<=d/\d<=20)/\s.i<p.1.length:=A;have⟨i,g,es,f⟩:=h0.out;have⟨_,_,_,e,w⟩:=s;cases es;obtain⟨d,rfl⟩:=Zau l.1;simp only at h1;have hl:=f.hl;have hlen:=f.len;have q:=λ(j k:Nat) (e w:Int) (z:j<=100000) (hk:k<=4)=>(⟨f.q,z,hk,hl,hlen⟩:QF p j k).ok e w
 obtain⟨B,x⟩:∃B,yq ((p,⟨i,0,g,e,w⟩),↑d)=B:=⟨_,rfl⟩;have c:∀D,yq ((p,D),↑d)=B:=λ_=>x
 have b:ix (gq p) (aF (gq p) i)=i:=DX f.q.n ω;have u:qA ((p,⟨((i+1:Nat):Int),0,g,e,w⟩),↑d,aF (gq p) i)=jk (gq p) B d ⟨i+1,0,g,e,w⟩ i:=by
  unfold qA;rw[aJ,b];show jk (gq p) (yq ((p,_),↑d)) _ _ _=_
  rw[c];rfl
 have v:xE ((p,⟨((i+1:Nat):Int),0,g,e,w⟩),aF (gq p) i)=yD (gq p) ⟨i+1,0,g,e,w⟩ i:=by
  unfold xE;rw[aJ,b];rfl
 have t:ti ((p,⟨((i+1:Nat):Int),0,g,e,w⟩),aF (gq p) i)=rS (gq p) ⟨i+1,0,g,e,w⟩ i:=by
  unfold ti;rw[b];rfl
 have a:fY ((p,⟨i,0,g,e,w⟩),↑d)=fX (gq p) B d ⟨i,0,g,e,w⟩:=by unfold fY;rw[aJ,c];rfl
 have C:=q (i+1) g e w ω f.g;unfold Hc;simp only[bN,bh,Zad,G',aw,di,bL (n:=i) ω,u,v,t];have E:MH ((p,⟨((i+1:Nat):Int),0,g,e,w⟩),aF (gq p) i):=⟨by assumption,i,by grind,rfl⟩;refine⟨⟨(q i g e w ω f.g),ω⟩,ZaF _,h1,?_⟩;have G:=DY (gq p) (i+1) g i e w 4 _ rfl;rcases f.q.rune (i:=i) ω with⟨o,h⟩ | ⟨o,h,_⟩
 ·have F:=f.q.p0 i;rw[h];unfold fX at a;rw[Zaa (by grind)] at a;generalize aK (gq p) i=r at*
  generalize fY ((p,⟨i,0,g,e,w⟩),↑d)=at_ at*
  have nx:Ps.next ⟨i,0,g,e,w⟩=⟨i+1,0,g,e,w⟩:=rfl;refine⟨λk1=>?_,λk1=>⟨λk2=>?_,λk2=>⟨λk3=>?_,λk3=>⟨λk4=>?_,λk4=>⟨λk5=>?_,λk5=>⟨λk6=>?_,λk6=>?_⟩⟩⟩⟩⟩⟩
  ·rw[Zac k1] at a;rw[a];exact⟨⟨⟨C,⟨⟨l.1,l.2⟩,by assumption⟩,i,ω,rfl⟩,by show lV _<lV _+1;unfold lV gd;simp only;omega⟩,rfl,rfl,rfl,rfl,rfl⟩
  ·grind
  ·grind
  ·rw[Zaa k1,Zaa k2,Zaa k3,Zac k4] at a;rw[a];exact⟨rfl,rfl,rfl,rfl,rfl⟩
  ·rw[Zaa k1,Zaa k2,Zaa k3,Zaa k4,Zac k5] at a;rw[a];exact⟨rfl,rfl,rfl,rfl,rfl⟩
  ·grind
  ·have W:(r=42\/r=43\/r=63\/r=123\/r=125\/r=93\/r=41\/r=124)->fv (p,⟨((i+1:Nat):Int),0,g,e,w⟩)/\[]=at_.2/\((i+1:Nat):Int)=↑at_.1.i/\(g:Int)=↑at_.1.ab/\cw (aC e 0) 4 e=at_.1.au/\cw (aC e 0) (aF (gq p) i) w=at_.1.wh:=λh=>by
    grind
   have N:¬(r=42\/r=43\/r=63\/r=123\/r=125\/r=93\/r=41\/r=124)->[wT [(r,r)]]=at_.2/\((i+1:Nat):Int)=↑at_.1.i/\(g:Int)=↑at_.1.ab/\e=at_.1.au/\w=at_.1.wh:=λh=>by
    grind
   refine⟨λm=>⟨λ_=>W ω,λn=>absurd m n⟩,λm1=>⟨λm=>⟨λ_=>W ω,λn=>absurd m n⟩,λm2=>⟨λm=>⟨λ_=>W ω,λn=>absurd m n⟩,λm3=>⟨λm=>⟨λ_=>W ω,λn=>absurd m n⟩,λm4=>⟨λm=>⟨λ_=>W ω,λn=>absurd m n⟩,λm5=>⟨λm=>⟨λ_=>W ω,λn=>absurd m n⟩,λm6=>⟨λm=>⟨λ_=>W ω,λn=>absurd m n⟩,λm7=>⟨λm=>⟨λ_=>W ω,λn=>absurd m n⟩,λm8=>⟨λm=>ω,λ_=>N ω⟩⟩⟩⟩⟩⟩⟩⟩⟩
 ·rw[h];have a:fY ((p,⟨i,0,g,e,w⟩),↑d)=(Ps.ax (gq p) ⟨i+1,0,g,e,w⟩ i 4,[]):=by
   rw[a];unfold fX;rw[Zac (o)];rfl
  grind
theorem Qhu (y:QG) (O:D0.pre y):Hd y:=by
  have⟨⟨p,s⟩,d,a0⟩:=y;obtain⟨h0,⟨L,h1⟩,r⟩:fv (p,s)/\((0<=d/\d<=20)/\s.i<=p.1.length)/\xD (gq p) a0:=O;have⟨i,g,es,f⟩:=h0.out;have⟨_,_,_,e,w⟩:=s;cases es;obtain⟨d,rfl⟩:=Zau L.1;simp only at h1;have I:=Kh r;have hl:=f.hl;have hlen:=f.len;have q:=λ(j k:Nat) (e w:Int) (N:j<=100000) (hk:k<=4)=>(⟨f.q,N,hk,hl,hlen⟩:QF p j k).ok e w
  obtain⟨B,o⟩:∃B,yq ((p,⟨i,0,g,e,w⟩),↑d)=B:=⟨_,rfl⟩;have H:qA ((p,⟨i,0,g,e,w⟩),↑d,a0)=jk (gq p) B d ⟨i,0,g,e,w⟩ (ix (gq p) a0):=by
    unfold qA;rw[aJ];show jk (gq p) (yq ((p,⟨i,0,g,e,w⟩),↑d)) _ _ _=_
    rw[o];rfl
  have E:d<20->∀j k,eZ ((p,⟨(j:Nat),0,(k:Nat),e,w⟩),((d+1:Nat):Int))=B ⟨j,0,k,e,w⟩:=λM j k=>by
    rw[<-o];unfold eZ yq;rw[aJ];simp only[Zad];rw[show 20-d=(20-(d+1))+1 by omega];rfl
  have A:uF (gq p) (20-d) B:=by
    have:=BS ((p,⟨i,0,g,e,w⟩),↑d);rw[o] at this;exact this
  unfold Hd;simp only[bN,bh,Zad,Zan,Zao,G',aw,a8,br,di,ez0,Zbn,bL (n:=i) ω,bL (n:=d) ω,bL (n:=g) (by have:=f.g;omega)];have i2:aD .i64 ↑i 2=((i+2:Nat):Int):=by grind
  rw[i2];generalize W:qA ((p,⟨i,0,g,e,w⟩),↑d,a0)=R at*
  obtain⟨F,u⟩:∃F,ix (gq p) a0=F:=⟨_,rfl⟩;rw[u] at I H ⊢;have Z:=λer=>DY (gq p) i g F e w er a0 I.symm
  have X:Ps.next ⟨i,0,g,e,w⟩=⟨i+1,0,g,e,w⟩:=rfl;have Y:Ps.next (Ps.next ⟨i,0,g,e,w⟩)=⟨i+2,0,g,e,w⟩:=rfl;have bad:a_ (gq p) ⟨i,0,g,e,w⟩ 63->a_ (gq p) ⟨i+1,0,g,e,w⟩ 58=false->fv (p,⟨i,0,g,e,w⟩)/\[]=R.2/\(i:Int)=↑R.1.i/\(g:Int)=↑R.1.ab/\cw (aC e 0) 4 e=R.1.au/\cw (aC e 0) a0 w=R.1.wh:=λk1 k2=>by
    have:R=(Ps.ax (gq p) ⟨i,0,g,e,w⟩ F 4,[]):=by rw[H];exact Zac ⟨k1,k2⟩
    grind
  have main:(a_ (gq p) ⟨i,0,g,e,w⟩ 63->a_ (gq p) ⟨i+1,0,g,e,w⟩ 58)->R=(if 20<=d then(Ps.ax (gq p) ⟨i,0,g,e,w⟩ F 10,[]) else if a_ (gq p) ⟨i,0,g,e,w⟩ 63=true then(fc (gq p) (B ⟨i+2,0,g,e,w⟩).1 F,(B ⟨i+2,0,g,e,w⟩).2) else if 4<=g then(Ps.ax (gq p) ⟨i,0,g,e,w⟩ F 13,[]) else(fc (gq p) (B ⟨i,0,g+1,e,w⟩).1 F,{ nd 6 with cap:=((g+1:Nat):Int),af:=1 }::(B ⟨i,0,g+1,e,w⟩).2)):=λc=>by
    grind [jk]
  have tail:(a_ (gq p) ⟨i,0,g,e,w⟩ 63->a_ (gq p) ⟨i+1,0,g,e,w⟩ 58)->_:=λc=>by
    have m:=main c;refine(show((20:Int)<=d->fv (p,⟨i,0,g,e,w⟩)/\[]=R.2/\(i:Int)=↑R.1.i/\(g:Int)=↑R.1.ab/\cw (aC e 0) 10 e=R.1.au/\cw (aC e 0) a0 w=R.1.wh)/\
      ((d:Int)<20->(a_ (gq p) ⟨i,0,g,e,w⟩ 63->((fv (p,⟨((i+2:Nat):Int),0,g,e,w⟩)/\Sq ((p,⟨((i+2:Nat):Int),0,g,e,w⟩),((d+1:Nat):Int)))/\lV ((p,⟨((i+2:Nat):Int),0,g,e,w⟩),((d+1:Nat):Int))+4<lV (gd ((p,⟨i,0,g,e,w⟩),↑d,a0)))/\
        (∀t,t=eZ ((p,⟨((i+2:Nat):Int),0,g,e,w⟩),((d+1:Nat):Int))->t.1.aq=0/\fv (p,⟨t.1.i,0,t.1.ab,t.1.au,t.1.wh⟩)/\(t.1.i:Int)<=90000/\t.2=R.2/\R.1=fc (gq p) t.1 F))/\
       (a_ (gq p) ⟨i,0,g,e,w⟩ 63=false->((4:Int)<=g->fv (p,⟨i,0,g,e,w⟩)/\[]=R.2/\(i:Int)=↑R.1.i/\(g:Int)=↑R.1.ab/\cw (aC e 0) 13 e=R.1.au/\cw (aC e 0) a0 w=R.1.wh)/\
        ((g:Int)<4->((fv (p,⟨i,0,((g+1:Nat):Int),e,w⟩)/\Sq ((p,⟨i,0,((g+1:Nat):Int),e,w⟩),((d+1:Nat):Int)))/\lV ((p,⟨i,0,((g+1:Nat):Int),e,w⟩),((d+1:Nat):Int))+4<lV (gd ((p,⟨i,0,g,e,w⟩),↑d,a0)))/\
        (∀t,t=eZ ((p,⟨i,0,((g+1:Nat):Int),e,w⟩),((d+1:Nat):Int))->t.1.aq=0/\fv (p,⟨t.1.i,0,t.1.ab,t.1.au,t.1.wh⟩)/\(t.1.i:Int)<=90000/\t.2.length<=10000/\{ nd 6 with cap:=((g+1:Nat):Int),af:=1 }::t.2=R.2/\R.1=fc (gq p) t.1 F)))) from⟨λk=>?_,λk=>⟨λk1=>?_,λk1=>⟨λk2=>?_,λk2=>?_⟩⟩⟩)
    · grind
    · rw[Zaa ω,Zac k1] at m;have l:=c_ (c k1);refine⟨⟨⟨q (i+2) g e w ω f.g,⟨ZaF _,by assumption⟩,by grind⟩,by show lV _+4<lV _;unfold lV gd;simp only;omega⟩,λt ht=>?_⟩;rw[E ω] at ht;have⟨a,a2⟩:=A ⟨i+2,0,g,e,w⟩ (by assumption) f.g;rw[<-ht] at a a2 m;have a3:=a.len;exact⟨a.op,q _ _ _ _ ω a.gm,ω,by rw[m],by rw[m]⟩
    · grind
    · rw[Zaa ω,Zaa (by grind),Zaa ω] at m;refine⟨⟨⟨q i (g+1) e w ω ω,⟨ZaF _,by assumption⟩,h1⟩,by show lV _+4<lV _;unfold lV gd;simp only;omega⟩,λt ht=>?_⟩;rw[E ω] at ht;have⟨a,a2⟩:=A ⟨i,0,g+1,e,w⟩ (by grind) (by grind);rw[<-ht] at a a2 m;have a3:=a.len;exact⟨a.op,q _ _ _ _ ω a.gm,ω,ω,by rw[m],by rw[m]⟩
  generalize eZ ((p,⟨((i+2:Nat):Int),0,g,e,w⟩),((d+1:Nat):Int))=U at tail ⊢;generalize eZ ((p,⟨i,0,((g+1:Nat):Int),e,w⟩),((d+1:Nat):Int))=V at tail ⊢;have G:∀t:Ps,t.aq=0->(⟨t.i,0,t.ab,t.au,t.wh⟩:Ps)=t:=λt h=>by rw[<-h]
  have l:i+1<p.1.length->(p.1.getD (i+1) 0=58↔a_ (gq p) ⟨i+1,0,g,e,w⟩ 58):=λh=>by
    rw[GW 58 (show i+1<(gq p).length by omega),ZaP];rcases f.q.rune (i:=i+1) h with⟨_,h⟩ | ⟨_,h,T⟩
    all_goals grind
  refine⟨⟨(q i g e w ω f.g),by decide,by decide⟩,λb=>⟨λJ=>bad b ?_,λJ=>⟨ZaF _,J,λP=>bad b ?_,λP=>?_⟩⟩,λb=>?_⟩
  · grind [BM]
  · grind
  all_goals
    have c:a_ (gq p) ⟨i,0,g,e,w⟩ 63->a_ (gq p) ⟨i+1,0,g,e,w⟩ 58:=by
      grind
    have⟨Q,v⟩:=tail c;refine⟨Q,λk=>⟨λk1=>?_,λk1=>⟨((v k).2 k1).1,λk2=>?_⟩⟩⟩
    · have⟨x,z⟩:=(v k).1 k1;have⟨C,D,v3,K,v5⟩:=z U rfl;rw[G _ C,v5];exact⟨x,⟨D,v3,r⟩,K,rfl,rfl,rfl,rfl⟩
    · have⟨x,z⟩:=((v k).2 k1).2 k2;have⟨C,D,v3,K,v5,S⟩:=z V rfl;rw[G _ C,S];exact⟨x,⟨D,v3,r⟩,by rw[Zab,ZbA];omega,v5,rfl,rfl,rfl,rfl⟩
inductive Fr where
 | ay | cat | rep | yJ | uE
variable {i:Nat} {G:List Gt}
def frC:Fr->bk D
 | .ay=>xF | .cat=>Ae | .rep=>Af | .yJ=>DZ | .uE=>D0
def QoC:∀i,(frC i).Y->Nat
 | .ay=>λy=>lV y+4 | .cat=>λy=>lV y+3 | .rep=>λy=>lV y+2 | .yJ=>λy=>lV y+1 | .uE=>λy=>lV (gd y)
def frF:Fr->Func
 | .ay=>f125 | .cat=>f183 | .rep=>f224 | .yJ=>f254 | .uE=>f277
def Qhv:Fr->s6
 | .ay=>[qW,BO] | .cat=>[qW,BO] | .rep=>[qW,GY] | .yJ=>[yL,r8,G0,GX,z_,o4] | .uE=>[qW,r8,MJ]
def frO:∀i,(frC i).Y->cU D
 | .ay=>QaU | .cat=>QaV | .rep=>QaW | .yJ=>λ_=>dr () | .uE=>λ_=>dr ()
def frL:List Fr:=[.ay,.cat,.rep,.yJ,.uE]
set_option maxRecDepth 100000 in
theorem QoD (b:Ok lT) (c:Ok o4):∀i,Ok (frC i):=
 w9 frL frC QoC (fn:=frF) (tab:=Qhv) (jb:=frO)
  (λi=>match i with
   | .ay=>⟨xC,QaQ⟩ | .cat=>⟨xC,QaQ⟩ | .rep=>⟨xC,Qhh⟩ | .yJ=>⟨DV,ug,Qhi b c,QaR b,Qdk,c⟩ | .uE=>⟨xC,ug,Qhf⟩)
  (λi=>match i with
   | .ay=>by kernel_rfl | .cat=>by kernel_rfl | .rep=>by kernel_rfl | .yJ=>by kernel_rfl | .uE=>by kernel_rfl)
  (λi=>match i with
   | .ay=>by kernel_rfl | .cat=>by kernel_rfl | .rep=>by kernel_rfl | .yJ=>by kernel_rfl | .uE=>by kernel_rfl)
  λi=>match i with
   | .ay=>λy a=>Eq.mp (Sr y) (Qhq y a) | .cat=>λy a=>Eq.mp (Ss y) (Qhr y a) | .rep=>λy a=>Eq.mp (Su y) (Qhs y a) | .yJ=>λy a=>Eq.mp (Sv y) (Qht y a) | .uE=>λy a=>Eq.mp (Sw y) (Qhu y a)
def vE (G:List Gt):List Int:=(List.range G.length).map λi=>if fi G i then-1 else aK G i
def uG (G:List Gt):List Int:=(List.range (G.length+1)).map (aF G)
def He:bk D:={ yK with f:=79 }
def QoE (y:He.Y):cU D:=⟨[],[],[(506,⟨Nat,[7],λx=>[(5,.ptr 0 0),(6,QtJ (aF (bf y) x)),(8,QtJ x)],[],λx=>[(0,.cells [.grow 14 ((vE (bf y)).take x) 1,.grow 5 ((uG (bf y)).take x) 2,QtJ 0,QtJ 0,QtJ 0,QtJ 0] 216 false),(1,.tok 14 21),(2,.tok 5 3)],3,λx=>x<=(bf y).length,λx=>(bf y).length-x⟩)],[],1,[]⟩
def Sx (y:List UInt8):Prop:=let b:=bf y;let q1:=b.length;let s:=(ck y).1;let t:=(ck y).2.2;let u:=(ck y).2.1;let w:=λp:Prop=>aa ([0,0,0,0]:List Int) p;ak (az 120 (dS y)) ([]=s/\2=u/\0=t/\True) (Iv (y.length<=1000000)/\RAP y ((∃z:Nat,aa [b] (0=aF b z/\0=(z:Int)/\[]=List.take z (vE b)/\[]=List.take z (uG b)/\w ((Iv (z<=q1)))))/\(∀x:Nat,let d:=List.take x (vE b);let l:=az (x:Int) (ah b);let e:=bM (List.take x (uG b)) [aF b x];let k:=gt (0,0) b (x:Int).toNat;let f:=((d,e),b_.mk 0 0 0 0 0);let a:=(eZ (f,0)).1;let c:=((a.i:Nat):Int);let g:=((a.ab:Nat):Int);let h:=aC a.au 0;let v:=az c (ah d);let m:=aF (gq (d,e)) c.toNat;let j:=cw h 4 a.au;let n:=cw h m a.wh;let o:Prop:=((eZ (f,0)).2=s/\0=u/\0=t/\True);let q:Prop:=(aI 0 (x:Int)/\l/\bF (ah (bM d [k.1])) 4/\aa [d] (aa [k.1] (bF (ah e) 8/\aI 0 (x:Int)/\l/\∃z:Nat,aa [b] (aD .i64 (aF b x) k.2=aF b z/\aD .i64 (x:Int) 1=(z:Int)/\bM d [k.1]=List.take z (vE b)/\e=List.take z (uG b)/\w ((Iv (z<=q1/\(q1-z)<(q1-x))))))));let r:Prop:=(ak (!h) (aa [a.au,a.wh] ([]=s/\a.au=u/\a.wh=t/\True)) (o));(Iv (x<=q1))->ak l (aI 0 (x:Int)/\l/\ak (aC k.1 65533) (aI 0 (x:Int)/\l/\ak (aC k.2 1) (bF (ah (bM d [-1])) 4/\bF (ah e) 8/\aI 0 (x:Int)/\l/\∃z:Nat,aa [b] (aD .i64 (aF b x) k.2=aF b z/\aD .i64 (x:Int) 1=(z:Int)/\bM d [-1]=List.take z (vE b)/\e=List.take z (uG b)/\w ((Iv (z<=q1/\(q1-z)<(q1-x)))))) (q)) (q)) (bF (ah e) 8/\Iv (fv f/\Sq (f,0))/\aa ([0]:List Int) (aa [d,e] (aa ([0,0,0,0]:List Int) (ak h (aa [a.au,c] (aa [d] (ak v (Iv (fv ((d,e),b_.mk c 0 g a.au a.wh)/\c<=(d.length:Int))/\aa [d,e] (aa [c,g,a.au,a.wh] (Iv (fv ((d,e),b_.mk c 0 g a.au a.wh)/\True)/\aa ([4,m]:List Int) (aa [d,e] (aa [c,g,a.au,a.wh] (ak (!(aC j 0)) (aa [j,n] ([]=s/\j=u/\n=t/\True)) (o))))))) (r)))) (aa [a.au] (r)))))))))
theorem jz (G:List Gt):(vE G).length=G.length:=by grind [vE]
theorem lW (G:List Gt):(uG G).length=G.length+1:=by grind [uG]
theorem Hf (h:i<G.length):(vE G)[i]'(by rw[jz];exact h)=if fi G i then-1 else aK G i:=by simp[vE]
theorem xG (h:i<=G.length):(uG G)[i]'(by rw[lW];omega)=aF G i:=by simp[uG]
theorem eG {α:Type} {l:List α} (h:i<l.length) (d:α):l.getD i d=l[i]:=by grind
def Yy (h:i<G.length):fi G i=(decide ((G.getD i (0,0)).1=65533)&&decide ((G.getD i (0,0)).2=1)):=J_ h
theorem Sy (y:By):gq (vE (bf y),uG (bf y))=bf y:=by
 have d:=(nL y.length y).2;refine Zdx (by rw[xB,jz]) λi h1 a=>?_
 have c:i<(vE (bf y)).length:=by grind [jz]
 have b:(gq (vE (bf y),uG (bf y)))[i]=(if (vE (bf y)).getD i 0= -1 then 65533 else(vE (bf y)).getD i 0,(uG (bf y)).getD (i+1) 0-(uG (bf y)).getD i 0):=by simp[gq]
 rw[b,eG c,eG (by rw[lW];omega),eG (by rw[lW];omega),Hf a,xG ω,xG ω,ib a];have f:aK (bf y) i=(bf y)[i].1:=by grind [aK]
 have e:=JQ y i;grind [DU]
theorem Sz (y:By) (h:(bf y).length<=1000):BN (vE (bf y),uG (bf y)):=by
 have e:=Sy y;refine⟨by grind [jz],λi hi=>?_,λi hi=>?_,by grind [lW,jz],by grind [F7],by rw[e];exact(nL y.length y).2,by rw[e];exact JQ y⟩
 ·grind [Hf,jz]
 ·grind [jz,lW,xG]
theorem QoG (y:By) (v:He.pre y):Sx y:=by
 have hl:=DS y;have C:=(nL y.length y).2;have o:=xy (G:=bf y) C;unfold Sx;simp only[bN,bh,aw,lQ,a8,br,Zad,Zan,Zao,di];have J:120<y.length->ck y=([],2,0):=λh=>Zac h
 refine⟨λh=>by grind,λh=>⟨ω,⟨0,by rfl,rfl,by simp,by simp,Zaj _⟩,λx O=>⟨λc=>?_,λc=>?_⟩⟩⟩
 ·have b:x<(bf y).length:=ω;have b1:=o x ω;have A:=o (x+1) ω;rw[ib b] at A;have p:=jz (bf y);have P:=lW (bf y);have nxt:∀r,r=(if fi (bf y) x then-1 else aK (bf y) x)->((((List.take x (vE (bf y))++[r]).length:Nat):Int)*(4:Nat)<=140737488355328)/\((((List.take x (uG (bf y))++[aF (bf y) x]).length:Nat):Int)*(8:Nat)<=140737488355328)/\0<=(x:Int)/\(x:Int)<((bf y).length:Int)/\∃z:Nat,aD .i64 (aF (bf y) x) ((bf y).getD x (0,0)).2=aF (bf y) z/\aD .i64 (x:Int) 1=(z:Int)/\List.take x (vE (bf y))++[r]=List.take z (vE (bf y))/\List.take x (uG (bf y))++[aF (bf y) x]=List.take z (uG (bf y))/\z<=(bf y).length/\(bf y).length-z<(bf y).length-x:=λr N=>by
   refine⟨by simp;omega,by simp;omega,ZaF _,c,x+1,?_,bG ω ω,?_,?_,b,ω⟩
   ·rw[bG ω ω,ib b]
   ·grind [List.take_succ,Hf]
   ·grind [List.take_succ,xG]
  have d:=Yy b;refine⟨ZaF _,c,λk1=>⟨ZaF _,c,λk2=>?_,λk2=>?_⟩,λk1=>?_⟩
  ·grind
  ·exact⟨ZaF _,c,nxt _ (by rw[d,ZaN k2,Zbw];rfl)⟩
  ·exact⟨ZaF _,c,nxt _ (by rw[d,ZaN k1,Zcw];rfl)⟩
 ·have f:x=(bf y).length:=ω;subst f;have H:List.take (bf y).length (vE (bf y))=vE (bf y):=ZaA (by rw[jz];omega);have I:List.take (bf y).length (uG (bf y))++[aF (bf y) (bf y).length]=uG (bf y):=by
   have L:(bf y).length<(uG (bf y)).length:=by rw[lW];omega
   have M:=ZbE (l:=uG (bf y)) (i:=(bf y).length);grind [xG,lW]
  rw[H,I];have u:=Sz y ω;have m:=Sy y;have q:=λ(j k:Nat) (e w:Int) (D:j<=100000) (hk:k<=4)=>(⟨u,D,hk,xB _,u.len⟩:QF (vE (bf y),uG (bf y)) j k).ok e w
  obtain⟨a,n⟩:∃a,eZ (((vE (bf y),uG (bf y)),⟨0,0,0,0,0⟩),0)=a:=⟨_,rfl⟩;have B:a=Bx (bf y) 21 0 N_:=by
   rw[<-n];unfold eZ;rw[aJ];show tX (gq (vE (bf y),uG (bf y))) (Bx (gq (vE (bf y),uG (bf y))) 20 1) 0 N_=_
   rw[m];rfl
  obtain⟨g,E⟩:=BQ (bf y) 21 0 N_ (Zaj _) (Zaj _);rw[<-B] at g E;have p:=jz (bf y);have Q:=g.len;have F:=g.gm;rw[n,m,p];obtain⟨s,hs⟩:∃s,(if a.1.au=0/\a.1.i<(bf y).length then a.1.ax (bf y) a.1.i 4 else a.1)=s:=⟨_,rfl⟩;have K:ck y=if s.au≠0 then([],s.au,s.wh) else(a.2,0,0):=by
   grind [ck,F8,FW]
  have t:=q a.1.i a.1.ab a.1.au a.1.wh ω F;refine⟨by grind,⟨q 0 0 0 0 ω ω,⟨ZaQ _,ω⟩,ZaF _⟩,λk=>⟨λk1=>⟨⟨t,ω⟩,t,λk2=>?_,λk2=>?_⟩,λk1=>⟨λk2=>absurd k k2,λ_=>?_⟩⟩,λk=>⟨λ_=>?_,λk2=>absurd k2 k⟩⟩
  ·grind [wrE,wrW]
  ·grind [cw]
  ·grind
  ·grind
def Qhw (h1:Ok xe) (a:Ok lT) (b:Ok o4):Ok He:=okZ [xe,xF,yL,r8] f79 QoE ⟨h1,QoD a b .ay,DV,ug⟩ QoG
def SA (x:Nd):Option (Nd×Int):=
 if x.op=1\/x.op=7\/x.op=8 then some (⟨x.op,[],0,0,false,0,x.af⟩,0)
 else if x.op=2 then(if x.r=aX x.r then some (⟨x.op,x.r,0,0,false,0,x.af⟩,0) else none)
 else if x.op=3\/x.op=4 then(if x.af<2 then none else some (⟨x.op,[],0,0,false,0,x.af⟩,x.af))
 else if x.op=5 then(if x.mn<0\/30<x.mn\/30<x.mx\/x.mx< -1\/(0<=x.mx/\x.mx<x.mn) then none else some (⟨x.op,[],x.mn,x.mx,x.lz,0,x.af⟩,1))
 else if x.op=6 then(if x.cap<1\/4<x.cap then none else some (⟨x.op,[],0,0,false,x.cap,x.af⟩,1))
 else none
def SB (x:Nd):Nd×Int:=lk ((SA x).getD (nd 0,0))
abbrev WY:=List Nd×Int×Int
def D3 (y:WY):Nd:=y.1.getD y.2.1.toNat (nd 0)
def ob:Option Nat->Int
 | none=>-1
 | some b=>b
def nP (y:WY):Option Nat:=gz y.1 (241-y.2.2.toNat) y.2.1.toNat
def inW (args:List (AV D.E)) (s:St D.E):C WY:=match args with
 | [l,a,d]=>aA (aW D s 7 l) λl=>aQ (da a) λ_ a=>aQ (da d) λ_ d=>.ret ((l:List Nd),a,d)
 | _=>.fail
def SC (y:WY):Prop:=(y.1.length<=1000000/\∀x∈y.1,iN x)/\(0<=y.2.1/\y.2.1<=2000000)/\0<=y.2.2/\y.2.2<=241
def Hg:bk D:=bP 225 WY inW SC (λy=>[.list 7 y.1,QtJ y.2.1,QtJ y.2.2]) λy=>QtJ (ob (lk (nP y)))
def SD (y:WY):Prop:=y.2.1<y.1.length/\y.2.2<=240/\(SA (D3 y)).isSome
def ML (y:WY) (x:Option Nat×Nat):Prop:=(x.1=none\/(x.2:Int)<=(SB (D3 y)).2)/\x.2<=y.1.length+1/\
 match x.1 with
 | none=>nP y=none
 | some b=>x.2<=b/\b<=y.1.length/\mW (gz y.1 (240-y.2.2.toNat)) ((SB (D3 y)).2.toNat-x.2) b=nP y
def Kl (y:WY) (x:Option Nat×Nat):Nat:=if x.1=none then 0 else y.1.length+1-x.2
def QoH (y:Hg.Y):cU D:=⟨[],[],[(4090,⟨Option Nat×Nat,[0,2,9],λx=>[(1,QtJ (ob x.1)),(10,QtJ x.2)],[],λ_=>[],0,ML y,Kl y⟩)],
 [(63,⟨Unit,[0,1,2],λ_=>[(7,.ptr 0 0),(8,.ptr 1 0),(9,QtJ (SB (D3 y)).2)],[],λ_=>[(0,.cells (D.ba 7 (D3 y)) 206 false),(1,.cells (D.ba 7 (SB (D3 y)).1) 206 false)],2,λ_=>SD y,λ_=>0⟩)],1,[]⟩
def QoI (y:Hg.Y):Prop:=vc [Hg.under (λy=>241-y.2.2.toNat) (241-y.2.2.toNat),xh] f225 Hg QoH y
def SE:bk D:=bP 186 (List Nd×Int) (λa s=>match a with
 | [l,a]=>aA (aW D s 7 l) λl=>aQ (da a) λ_ a=>.ret ((l:List Nd),a)
 | _=>.fail) (λy=>SC (y.1,y.2,0)) (λy=>[.list 7 y.1,QtJ y.2]) λy=>QtJ (ob (lk (nP (y.1,y.2,0))))
def MM:bk D:={ GR with f:=128 }
def SF (y:List Nd) (x:Nat×Nat):Prop:=x.1<=y.length/\x.2<=x.1/\gP (y.drop x.1) x.2=gP y 0/\1<=y.length/\y.length<=480/\gz y 241 0=some y.length
def QoK (y:MM.Y):cU D:=⟨[],[],[(122,⟨Nat×Nat,[0],λx=>[(3,QtJ ((x.2:Int)+1)),(4,QtJ x.1)],[],λ_=>[],0,SF y,λx=>y.length-x.1⟩)],[],1,[]⟩
def SH (y:(List Nd)×Int×Int):Prop:=let c:=D3 y;let q1:=(SB c).1;let b:=ob (lk (nP y));let f:=(SB c).2;let A:=!(aC c.af f);let B:=!(kE c.lz q1.lz);let C:=!(aC c.cap q1.cap);let D:=!(aC c.mx q1.mx);let E:=!(aC c.mn q1.mn);let q:=aD .i64 y.2.2 1;let s:=aI (ah y.1) y.2.1;let t:=!(aC (ah c.r) (ah q1.r));let a:=gt (Nd.mk 0 [] 0 0 false 0 0) y.1 y.2.1.toNat;let u:=az a.mx a.mn;let v:=!(decide (a.r=aX a.r));let e:=λp:Prop=>aa [y.1] (aa [y.2.1,y.2.2] p);let g:Prop:=(a.af=q1.af/\a.op=c.op/\a.r=c.r/\a.mn=c.mn/\a.mx=c.mx/\a.lz=c.lz/\a.cap=c.cap/\a.af=c.af/\(Iv (SD y)));let j:Prop:=(0=q1.mn/\0=q1.mx/\false=q1.lz/\0=q1.cap/\g);let k:Prop:=(a.op=q1.op/\[]=q1.r/\j);let h:Prop:=(∃z:Unit,e (0=f/\k));let l:Prop:=(∃z:Unit,e (1=f/\a.op=q1.op/\[]=q1.r/\a.mn=q1.mn/\a.mx=q1.mx/\a.lz=q1.lz/\0=q1.cap/\g));let m:Prop:=(ak (az a.af 2) ((-1)=b/\True) (∃z:Unit,e (a.af=f/\k)));let n:Prop:=(ak (aC a.op 5) (aa [a.mn,a.mx,a.mx] (aa [a.lz,a.lz,a.lz] (ak (az a.mn 0) ((-1)=b/\True) (ak (az 30 a.mn) ((-1)=b/\True) (ak (az 30 a.mx) ((-1)=b/\True) (ak (az a.mx (-1)) ((-1)=b/\True) (ak (aI 0 a.mx) (ak u ((-1)=b/\True) (l)) (l)))))))) (ak (aC a.op 6) (ak (az a.cap 1) ((-1)=b/\True) (ak (az 4 a.cap) ((-1)=b/\True) (∃z:Unit,e (1=f/\a.op=q1.op/\[]=q1.r/\0=q1.mn/\0=q1.mx/\false=q1.lz/\a.cap=q1.cap/\g)))) ((-1)=b/\True)));let i:Prop:=(ak (aC a.op 2) (Iv (a.r.length<=2000000)/\aa [a.r] (ak v ((-1)=b/\True) (∃z:Unit,e (0=f/\a.op=q1.op/\a.r=q1.r/\j)))) (ak (aC a.op 3) (ak (aC a.op 3) (m) (n)) (ak (aC a.op 4) (m) (n))));ak s ((-1)=b/\True) (ak (az 240 y.2.2) ((-1)=b/\True) (aI 0 y.2.1/\az y.2.1 (ah y.1)/\(ak (aC a.op 1) (ak (aC a.op 1) (h) (i)) (ak (aC a.op 7) (ak (aC a.op 7) (h) (i)) (ak (aC a.op 8) (h) (i))))/\(∀x:Unit,(Iv (SD y))->ak A ((-1)=b/\True) (ak E ((-1)=b/\True) (ak D ((-1)=b/\True) (ak B ((-1)=b/\True) (ak C ((-1)=b/\True) (ak t ((-1)=b/\True) ((∃z:(Option Nat)×Nat,aa [y.1] (aa [y.2.2,f] (aD .i64 y.2.1 1=ob z.1/\0=(z.2:Int)/\(Iv (ML y z)))))/\(∀o:(Option Nat)×Nat,let d:=ob o.1;let w:=az (o.2:Int) f;(Iv (ML y o))->ak w (ak (aI 0 d) (Iv (SC (y.1,(d,q))/\(241-q.toNat)<(241-y.2.2.toNat))/\aa [y.1] (aa [d,q] (∃z:(Option Nat)×Nat,aa [y.1] (aa [y.2.2,f] (ob (lk (nP (y.1,(d,q))))=ob z.1/\aD .i64 (o.2:Int) 1=(z.2:Int)/\(Iv (ML y z/\Kl y z<Kl y o))))))) (d=b/\True)) (d=b/\True)))))))))))
def Yz:∀y,SH y=QoI y:=λy=>by kernel_rfl
def SI (y:(List Nd)×Int):Prop:=let a:=(y.1,(y.2,(0:Int)));let q1:=ob (lk (nP a));Iv (SC a)/\aa [y.1] (aa ([y.2,0,q1]:List Int) (True))
def SJ (y:List Nd):Prop:=let b:=ah y;let q1:=(y,((0:Int),(0:Int)));let d:=!(aC (ob (lk (nP q1))) b);ak (aC b 0) (false=dL y/\True) (ak (az 480 b) (false=dL y/\True) (Iv (SC q1)/\RAP y (RAE (ak d (false=dL y/\True) ((∃z:Nat×Nat,aa [y] (1=((z.2:Int)+1)/\0=(z.1:Int)/\(Iv (SF y z))))/\(∀x:Nat×Nat,let a:=(x.1:Int);let c:=gt (Nd.mk 0 [] 0 0 false 0 0) y a.toNat;let e:=!(aC c.cap ((x.2:Int)+1));(Iv (SF y x))->ak (az a b) (aI 0 a/\az a b/\ak (aC c.op 6) (aI 0 a/\az a b/\ak e (false=dL y/\True) (∃z:Nat×Nat,aa [y] (aD .i64 ((x.2:Int)+1) 1=((z.2:Int)+1)/\aD .i64 a 1=(z.1:Int)/\(Iv (SF y z/\(y.length-z.1)<(y.length-x.1)))))) (∃z:Nat×Nat,aa [y] (((x.2:Int)+1)=((z.2:Int)+1)/\aD .i64 a 1=(z.1:Int)/\(Iv (SF y z/\(y.length-z.1)<(y.length-x.1)))))) (true=dL y/\True)))))))
def Ai (x b:Nd) (k:Int):Prop:=x.af=k/\x.mn=b.mn/\x.mx=b.mx/\x.lz=b.lz/\x.cap=b.cap/\x.r.length=b.r.length
theorem Hh (x:Nd) (h:SA x=none):nM x=none:=by
 grind [SA,nM]
theorem Hi (x b:Nd) (k:Int) (h:SA x=some (b,k)):(Ai x b k->nM x=some k)/\(¬Ai x b k->nM x=none):=by
 grind [SA,nM,Ai]
theorem YC {x b:Nd} {k:Int} (h:SA x=some (b,k)):0<=k:=by
 grind [SA]
theorem QoM (y:WY) (hy:Hg.pre y):SH y:=by
 obtain⟨l,a,d⟩:=y;obtain⟨⟨h1,m⟩,s,F⟩:(l.length<=1000000/\∀x∈l,iN x)/\(0<=a/\a<=2000000)/\0<=d/\d<=241:=hy;obtain⟨a,rfl⟩:=Zau s.1;obtain⟨d,rfl⟩:=Zau F.1;have t:nP (l,(a:Int),(d:Int))=gz l (241-d) a:=rfl;have E:D3 (l,(a:Int),(d:Int))=l.getD a (nd 0):=rfl;have X:l.getD a ⟨0,[],0,0,false,0,0⟩=l.getD a (nd 0):=rfl;unfold SH;simp only[bN,bh,Zad,Zan,Zao,ZaP,Zbi,aw,di,ZaX,ZaY,ZaZ,X,E,aJ];have stop:l.length<=a\/240<d->(-1:Int)=ob (nP (l,(a:Int),(d:Int))):=λh=>by
  rw[t];cases hd:241-d with
  | zero=>rfl
  | succ n=>
   unfold gz;rw[Zac ω];rfl
 refine⟨λk=>stop (.inl ω),λk=>⟨λk2=>stop (.inr ω),λk2=>⟨s.1,k,?_,λhJ=>?_⟩⟩⟩
 ·have H:a<l.length:=ω;have hr:(l.getD a (nd 0)).r.length<=2000000:=by
   grind [List.getElem_mem,iN]
  have bad:SA (l.getD a (nd 0))=none->(-1:Int)=ob (nP (l,(a:Int),(d:Int))):=λh=>by
   rw[t,show 241-d=(240-d)+1 by omega];unfold gz;rw[Zaa ω,Hh _ h];rfl
  have J:∀b g,SA (l.getD a (nd 0))=some (b,g)->SB (l.getD a (nd 0))=(b,g)/\SD (l,(a:Int),(d:Int)):=λb g h=>by
   refine⟨by grind [SB,aJ],show(a:Int)<(l.length:Int) by omega,k2,?_⟩;grind
  clear t;generalize nP (l,(a:Int),(d:Int))=W at*
  generalize SD (l,(a:Int),(d:Int))=q at*
  generalize l.getD a (nd 0)=x at*
  generalize SB x=Q at*
  unfold SA at bad J;obtain⟨op,r,mn,mx,lz,cap,af⟩:=x;simp only at bad J hr ⊢;generalize aX r=D at*
  clear m stop;have R:(op=1\/op=7\/op=8)->Q=(⟨op,[],0,0,false,0,af⟩,0)/\q:=λh=>J _ _ (by rw[Zac h])
  have S:op=2->r=D->Q=(⟨op,r,0,0,false,0,af⟩,0)/\q:=λh o=>J _ _ (by grind)
  have T:(op=3\/op=4)->¬af<2->Q=(⟨op,[],0,0,false,0,af⟩,af)/\q:=λh o=>J _ _ (by grind)
  have U:op=5->¬(mn<0\/30<mn\/30<mx\/mx< -1\/(0<=mx/\mx<mn))->Q=(⟨op,[],mn,mx,lz,0,af⟩,1)/\q:=λh o=>J _ _ (by grind)
  have V:op=6->¬(cap<1\/4<cap)->Q=(⟨op,[],0,0,false,cap,af⟩,1)/\q:=λh o=>J _ _ (by grind)
  have L:op=2->¬r=D->-1=ob W:=λh o=>bad (by grind)
  have M:(op=3\/op=4)->af<2->-1=ob W:=λh o=>bad (by grind)
  have N:op=5->(mn<0\/30<mn\/30<mx\/mx< -1\/(0<=mx/\mx<mn))->-1=ob W:=λh o=>bad (by grind)
  have O:op=6->(cap<1\/4<cap)->-1=ob W:=λh o=>bad (by grind)
  have P:¬(op=1\/op=7\/op=8)->op≠2->¬(op=3\/op=4)->op≠5->op≠6->-1=ob W:=λh1 m s F h5=>bad (by grind)
  clear bad J;generalize ob W=w at*
  obtain⟨u,v⟩:=Q;have q0:∀{p:Prop},(op=1\/op=7\/op=8)->(u=(⟨op,[],0,0,false,0,af⟩:Nd)->v=0->q->p)->p:=λh f=>by
   grind
  have q2:∀{p:Prop},op=2->r=D->(u=(⟨op,r,0,0,false,0,af⟩:Nd)->v=0->q->p)->p:=λh o f=>by
   grind
  have q3:∀{p:Prop},(op=3\/op=4)->¬af<2->(u=(⟨op,[],0,0,false,0,af⟩:Nd)->v=af->q->p)->p:=λh o f=>by
   grind
  have q5:∀{p:Prop},op=5->¬(mn<0\/30<mn\/30<mx\/mx< -1\/(0<=mx/\mx<mn))->(u=(⟨op,[],mn,mx,lz,0,af⟩:Nd)->v=1->q->p)->p:=λh o f=>by
   grind
  have q6:∀{p:Prop},op=6->¬(cap<1\/4<cap)->(u=(⟨op,[],0,0,false,cap,af⟩:Nd)->v=1->q->p)->p:=λh o f=>by
   grind
  clear R S T U V
  with_reducible repeat' first | apply And.intro | intro _
  all_goals first
   | assumption
   | (exfalso;omega)
   | (apply P<;>omega)
   | (exact L (by assumption) (by assumption))
   | (apply M<;>omega)
   | (apply N<;>omega)
   | (apply O<;>omega)
   | (refine q0 ω λh1 m s=>?_;subst h1;subst m;first | rfl | assumption)
   | (refine q2 (by assumption) (by assumption) λh1 m s=>?_;subst h1;subst m;first | rfl | assumption)
   | (refine q3 ω ω λh1 m s=>?_;subst h1;subst m;first | rfl | assumption)
   | (refine q5 ω ω λh1 m s=>?_;subst h1;subst m;first | rfl | assumption)
   | (refine q6 ω ω λh1 m s=>?_;subst h1;subst m;first | rfl | assumption)
 ·obtain⟨j1,I,K⟩:=hJ;rw[E] at K;have H:a<l.length:=ω;obtain⟨⟨b,g⟩,B⟩:=Option.isSome_iff_exists.mp K;have hQ:SB (l.getD a (nd 0))=(b,g):=by grind [SB,aJ]
  obtain⟨g1,g2⟩:=Hi _ _ _ B;have A:Ai (l.getD a (nd 0)) b g->nP (l,(a:Int),(d:Int))=mW (gz l (240-d)) g.toNat (a+1):=λh=>by
   rw[t,show 241-d=(240-d)+1 by omega];grind [gz]
  have j:¬Ai (l.getD a (nd 0)) b g->(-1:Int)=ob (nP (l,(a:Int),(d:Int))):=λh=>by
   rw[t,show 241-d=(240-d)+1 by omega];unfold gz;rw[Zaa ω,g2 h];rfl
  rw[hQ];simp only;refine⟨λe=>j λh=>absurd h.1 (by assumption),λe1=>⟨λe=>j λh=>absurd h.2.1 (by assumption),λe2=>⟨λe=>j λh=>absurd h.2.2.1 (by assumption),λe3=>⟨λe=>j λh=>absurd h.2.2.2.1 (by grind [kE]),λe4=>⟨λe=>j λh=>absurd h.2.2.2.2.1 (by assumption),λe5=>⟨λe=>j λh=>by have:=h.2.2.2.2.2;omega,λe6=>?_⟩⟩⟩⟩⟩⟩;have G:Ai (l.getD a (nd 0)) b g:=⟨by assumption,by assumption,by assumption,by grind [kE],by assumption,ω⟩;have eW:=A G;have C:∀x:Option Nat×Nat,ML (l,(a:Int),(d:Int)) x↔((x.1=none\/(x.2:Int)<=g)/\x.2<=l.length+1/\match x.1 with
    | none=>nP (l,(a:Int),(d:Int))=none
    | some c=>x.2<=c/\c<=l.length/\mW (gz l (240-d)) (g.toNat-x.2) c=nP (l,(a:Int),(d:Int))):=λx=>by
   grind [ML]
  clear t A j G;generalize nP (l,(a:Int),(d:Int))=W at*
  refine⟨⟨(some (a+1),0),by rw[bL ω];rfl,rfl,(C _).mpr ⟨.inr ?_,by simp,by simp,H,by grind⟩⟩,λx hx=>?_⟩
  ·exact YC B
  obtain⟨z,i⟩:=x;obtain⟨i1,i2,i3⟩:=(C _).mp hx;have hiL:(i:Int)=(i:Int):=rfl;cases z with
  | none=>
   have i3:W=none:=i3;rw[i3];refine⟨λe=>⟨λe2=>absurd (show(0:Int)<=-1 from e2) (by decide),λ_=>rfl⟩,λ_=>rfl⟩
  | some c=>
   obtain⟨c1,c2,c3⟩:i<=c/\c<=l.length/\mW (gz l (240-d)) (g.toNat-i) c=W:=i3;have i1:(i:Int)<=g:=i1.resolve_left (by simp);have I:(d:Int)<=240:=I;refine⟨λe=>⟨λe2=>?_,λe2=>absurd (show(c:Int)<0 from e2) ω⟩,λe=>?_⟩
   ·have e:(i:Int)<g:=e;have Y:aD .i64 (d:Int) 1=((d+1:Nat):Int):=bL ω;have Z:aD .i64 (i:Int) 1=((i+1:Nat):Int):=bL ω;rw[Y];refine⟨⟨⟨⟨h1,m⟩,⟨show(0:Int)<=(c:Int) by omega,show(c:Int)<=2000000 by omega⟩,show(0:Int)<=((d+1:Nat):Int) by omega,show((d+1:Nat):Int)<=241 by omega⟩,ω⟩,(gz l (240-d) c,i+1),?_,Z,(C _).mpr ⟨.inr (show((i+1:Nat):Int)<=g by omega),show i+1<=l.length+1 by omega,?_⟩,?_⟩
    ·rw[show nP (l,ob (some c),((d+1:Nat):Int))=gz l (241-(d+1)) c from rfl,show 241-(d+1)=240-d by omega]
    ·rw[show g.toNat-i=(g.toNat-(i+1))+1 by omega] at c3;unfold mW at c3;have B:=mY l (240-d) c
     revert c3 B
     grind
    ·grind [Kl]
   ·have e:g<=(i:Int):=e;rw[show g.toNat-i=0 by omega] at c3;grind [mW]
def QoN (y:List Nd×Int) (a:SE.pre y):SI y:=by
 unfold SI;simp only[eN,Zai,fB];exact a
def Qhx (h:Ok gW):Ok Hg:=Ql (λy=>241-y.2.2.toNat) Yz (QY h) QoM
def Qhy (h:Ok gW):Ok SE:=okZ [Hg] f186 (λ_=>dr ()) (Qhx h) QoN
theorem QoO (y:List Nd) (p:MM.pre y):SJ y:=by
 have n:∀x∈y,iN x:=p;unfold SJ;simp only[bN,bh,Zad,Zan,Zao,ZaP,Zbi,aw,di,ZaX,ZaY,ZaZ,aJ];have d:nP (y,(0:Int),(0:Int))=gz y 241 0:=rfl;have f:=MC y;rw[d,<-f];clear f d;unfold GQ;refine⟨λk=>?_,λk=>⟨λk2=>?_,λk2=>⟨⟨⟨show y.length<=1000000 by omega,n⟩,⟨show(0:Int)<=0 by omega,show(0:Int)<=2000000 by omega⟩,show(0:Int)<=0 by omega,show(0:Int)<=241 by omega⟩,λk3=>?_,λk3=>⟨⟨(0,0),rfl,rfl,Zaj _,Zah _,rfl,ω,ω,?_⟩,λx o=>?_⟩⟩⟩⟩
 ·grind
 ·grind
 ·have e:¬gz y 241 0=some y.length:=λh=>k3 (by rw[h];rfl)
  grind
 ·revert k3
  generalize gz y 241 0=w;intro k3;cases w with
  | none=>exact absurd (show(-1:Int)=(y.length:Int) from k3) ω
  | some b=>rw[show b=y.length by have:(b:Int)=(y.length:Int):=k3;omega]
 ·obtain⟨i,g⟩:=x;obtain⟨c1,c2,c3,c4,c5,c6⟩:i<=y.length/\g<=i/\gP (y.drop i) g=gP y 0/\1<=y.length/\y.length<=480/\gz y 241 0=some y.length:=o;rw[show decide (1<=y.length)=true by grind,show decide (y.length<=480)=true by grind,c6,ZcB,ZbI,ZbI,ZbI,<-c3];refine⟨λe=>?_,λe=>?_⟩
  ·have e:i<y.length:=ω;have m:aD .i64 (i:Int) 1=((i+1:Nat):Int):=bL ω;have l:aD .i64 ((g:Int)+1) 1=((g+1:Nat):Int)+1:=by grind
   have j:y.getD i ⟨0,[],0,0,false,0,0⟩=y.getD i (nd 0):=rfl;have eD:y.drop i=y.getD i (nd 0)::y.drop (i+1):=by
    simp_all
   generalize a:gP y 0=q at*
   simp only[j,m,l,Zad] at c3 ⊢;rw[eD] at c3 ⊢;unfold gP at c3 ⊢;refine⟨ω,ω,λc=>⟨ω,ω,λe2=>?_,λe2=>?_⟩,λc=>?_⟩
   ·grind
   ·rw[Zac c,Zac e2] at c3;exact⟨(i+1,g+1),rfl,rfl,⟨by assumption,ω,c3.trans a.symm,c4,c5,c6⟩,ω⟩
   ·rw[Zaa c] at c3;exact⟨(i+1,g),rfl,rfl,⟨by assumption,ω,c3.trans a.symm,c4,c5,c6⟩,ω⟩
  ·have e:¬i<y.length:=ω;rw[show y.drop i=[] from Za9 ω];rfl
def QaX (h:Ok gW):Ok MM:=okZ [SE] f128 QoK (Qhy h) QoO
def bD:ai:=.mk 0 [] 0 0 false 0 0 []
def Hj (v:AV D.E):C ai:=aA (asAgg v) λcs=>uw D 15 cs
def ic (op:Int):List ai->ai
 | []=>.mk 1 [] 0 0 false 0 0 []
 | [k]=>k
 | a=>.mk op [] 0 0 false 0 0 a
def Qdq (args:List (AV D.E)) (s:St D.E):C (Int×List ai):=match args with
 | [o,l]=>aQ (da o) λ_ o=>aA (aW D s 15 l) λl=>.ret (o,(l:List ai))
 | _=>.fail
def MN:bk D:=bP 219 (Int×List ai) Qdq (λy=>y.2.length<=1000000) (λy=>[QtJ y.1,.list 15 y.2]) λy=>.agg (D.ba 15 (lk (ic y.1 y.2)))
def eH (x:Nd):Bool:=x.op==5&&!x.lz&&x.mx==-1&&decide (x.mn<=1)
def SK:bk D:=bP 223 Nd (λa _=>QgY a) (λ_=>True) (λy=>[.agg (D.ba 7 y)]) λy=>.bool (eH y)
def aG (op:Int) (a:List ai):List ai:=a.flatMap λk=>if k.op=op then k.af else[k]
def MO:bk D:=bP 216 (Int×List ai) Qdq (λy=>y.2.length<=1000000/\(aG y.1 y.2).length<=1000000) (λy=>[QtJ y.1,.list 15 y.2]) λy=>.list 15 (aG y.1 y.2)
def QoR (y:MO.Y):cU D:=⟨[],[],[(58,⟨Nat,[0,8,9],λx=>[(5,.grow 15 (aG y.1 (y.2.take x)) 0),(10,QtJ x)],[],λ_=>[(0,.tok 15 209)],1,λx=>x<=y.2.length/\(aG y.1 (y.2.take x)).length<=1000000,λx=>y.2.length-x⟩)],[],1,[]⟩
def jM (f:List Nd->Option (ai×List Nd)):Nat->List Nd->Option (List ai×List Nd)
 | 0,l=>some ([],l)
 | k+1,l=>match f l with
  | none=>none
  | some (t,a)=>match jM f k a with
   | none=>none
   | some (c,b)=>some (t::c,b)
def fL:Nat->List Nd->Option (ai×List Nd)
 | 0,_=>none
 | _+1,[]=>none
 | n+1,x::l=>match jM (fL n) x.af.toNat l with
  | none=>none
  | some (b,a)=>some (.mk x.op x.r x.mn x.mx x.lz x.cap x.af b,a)
def ct (l:List Nd):ai×List Nd:=lk ((fL l.length l).getD (bD,[]))
def Hk:bk D:=bP 121 (List Nd) Yd (λy=>y.length<=1000000/\(fL y.length y).isSome) (λy=>[.list 7 y]) λy=>.tuple [.agg (D.ba 15 (ct y).1),.list 7 (ct y).2]
def tj (y:List Nd):Nd:=y.getD 0 (nd 0)
def MP (y:List Nd) (x:List ai×List Nd×Nat):Prop:=x.1.length=x.2.2/\x.2.2<=(tj y).af.toNat/\x.2.1.length<y.length/\x.1.length+x.2.1.length+1<=y.length/\∃a l,jM (fL x.2.1.length) ((tj y).af.toNat-x.2.2) x.2.1=some (a,l)/\x.1++a=(ct y).1.af/\l=(ct y).2
def QoT (y:Hk.Y):cU D:=⟨[],[],[(122,⟨List ai×List Nd×Nat,[],λx=>[(0,.list 7 x.2.1),(2,.ptr 2 0),(4,.ptr 0 0),(14,QtJ (tj y).af),(15,QtJ x.2.2)],[],λx=>[(0,.cells [QtJ (tj y).op,.list 6 (tj y).r,QtJ (tj y).mn,QtJ (tj y).mx,.bool (tj y).lz,QtJ (tj y).cap,QtJ (tj y).af,.grow 15 x.1 1] 209 false),(1,.tok 15 209),(2,.cells (D.ba 15 bD) 209 false)],3,MP y,λx=>(tj y).af.toNat-x.2.2⟩)],[],1,[]⟩
def QoU (y:Hk.Y):Prop:=vc [Hk.under (λy=>y.length) y.length] f121 Hk QoT y
mutual
def aE:ai->List Nd
 | .mk op r mn mx lz cap _ ks=>⟨op,r,mn,mx,lz,cap,ks.length⟩::aB ks
def aB:List ai->List Nd
 | []=>[]
 | t::ts=>aE t++aB ts
end
def dc (t:ai):List Nd:=lk (aE t)
def dg (t:ai):Nat:=lk (SizeOf.sizeOf t)
def dG (t:ai):Prop:=(aE t).length<=1000000/\∀x∈aE t,iN x
def Hl:bk D:=bP 123 ai (λa _=>match a with
 | [t]=>Hj t
 | _=>.fail) dG (λy=>[.agg (D.ba 15 y)]) λy=>.list 7 (dc y)
def o9 (y:ai) (n:Nat):List Nd:=lk (⟨y.op,y.r,y.mn,y.mx,y.lz,y.cap,y.af.length⟩::aB (y.af.take n))
def QoV (y:Hl.Y):cU D:=⟨[],[],[(506,⟨Nat,[20,21],λx=>[(4,.grow 7 (o9 y x) 0),(22,QtJ x)],[],λ_=>[(0,.tok 7 206)],1,λx=>x<=y.af.length,λx=>y.af.length-x⟩)],[],1,[]⟩
def QoW (y:Hl.Y):Prop:=vc [Hl.under dg (dg y)] f123 Hl QoV y
def SM (y:Int×(List ai)):Prop:=let a:=lk (ic y.1 y.2);let q1:=gt (ai.mk 0 [] 0 0 false 0 0 []) y.2 0;ak (aC (ah y.2) 0) (1=a.op/\[]=a.r/\0=a.mn/\0=a.mx/\false=a.lz/\0=a.cap/\0=a.nk/\[]=a.af/\True) (ak (aC (ah y.2) 1) (Tt 1 (az 0 (ah y.2)/\q1.op=a.op/\q1.r=a.r/\q1.mn=a.mn/\q1.mx=a.mx/\q1.lz=a.lz/\q1.cap=a.cap/\q1.nk=a.nk/\q1.af=a.af/\True)) (y.1=a.op/\[]=a.r/\0=a.mn/\0=a.mx/\false=a.lz/\0=a.cap/\0=a.nk/\y.2=a.af/\True))
def SN (y:Nd):Prop:=ak (aC y.op 5) (ak (!y.lz) (ak (aC y.mx (-1)) (aI y.mn 1=eH y/\True) (false=eH y/\True)) (false=eH y/\True)) (false=eH y/\True)
def SO (y:Int×(List ai)):Prop:=let b:=y.2.length;let q1:=ah y.2;let d:=λp:Prop=>aa [y.1] (aa [y.2] (aa [q1] p));(∃z:Nat,let e:=aG y.1 (List.take z y.2);d ([]=e/\0=(z:Int)/\(Iv (z<=b/\e.length<=1000000))))/\(∀x:Nat,let c:=aG y.1 (List.take x y.2);let a:=gt (ai.mk 0 [] 0 0 false 0 0 []) y.2 (x:Int).toNat;let f:=bM c [ai.mk a.op a.r a.mn a.mx a.lz a.cap a.nk a.af];(Iv (x<=b/\c.length<=1000000))->ak (az (x:Int) q1) (aI 0 (x:Int)/\az (x:Int) q1/\ak (aC a.op y.1) (bF (ah (bM c a.af)) 96/\∃z:Nat,let g:=aG y.1 (List.take z y.2);d (bM c a.af=g/\aD .i64 (x:Int) 1=(z:Int)/\(Iv ((z<=b/\g.length<=1000000)/\(b-z)<(b-x))))) (bF (ah f) 96/\∃z:Nat,let h:=aG y.1 (List.take z y.2);d (f=h/\aD .i64 (x:Int) 1=(z:Int)/\(Iv ((z<=b/\h.length<=1000000)/\(b-z)<(b-x)))))) (c=aG y.1 y.2/\True))
abbrev RAF (p:Prop):Prop:=aa ([[]]:List (List (Int×Int))) p
abbrev RAL (p:Prop):Prop:=aa ([[]]:List (List ai)) p
def SP (y:List Nd):Prop:=let a:=tj y;let q1:=(ct y).1;let b:=gt (Nd.mk 0 [] 0 0 false 0 0) y 0;let f:=λp:Prop=>RAE (RAF (RAD p));let g:=λp:Prop=>RAD (RAL p);Tt 1 (az 0 (ah y)=true/\Tt 1 (aI 1 (ah y)=true/\(∃z:(List ai)×(List Nd)×Nat,vU y 1=z.2.1/\b.af=a.af/\0=(z.2.2:Int)/\b.op=a.op/\b.r=a.r/\b.mn=a.mn/\b.mx=a.mx/\b.lz=a.lz/\b.cap=a.cap/\b.af=a.af/\[]=z.1/\f (false=false/\g ((Iv (MP y z)))))/\(∀x:(List ai)×(List Nd)×Nat,let d:=x.2.1.length;let c:=(ct x.2.1).1;let h:=az (x.2.2:Int) a.af;let e:=bM x.1 [ai.mk c.op c.r c.mn c.mx c.lz c.cap c.nk c.af];(Iv (MP y x))->ak h (Iv ((d<=1000000/\Option.isSome (fL d x.2.1)=true)/\d<y.length)/\RAP x.2.1 (bF (ah e) 96=true/\∃z:(List ai)×(List Nd)×Nat,(ct x.2.1).2=z.2.1/\aa [a.af] (aD .i64 (x.2.2:Int) 1=(z.2.2:Int)/\aa [a.op] (aa [a.r] (aa [a.mn,a.mx] (aa [a.lz] (aa [a.cap,a.af] (e=z.1/\f (false=false/\g ((Iv (MP y z/\(a.af.toNat-z.2.2)<(a.af.toNat-x.2.2))))))))))))) (a.op=q1.op/\a.r=q1.r/\a.mn=q1.mn/\a.mx=q1.mx/\a.lz=q1.lz/\a.cap=q1.cap/\a.af=q1.nk/\x.1=q1.af/\x.2.1=(ct y).2/\True))))
def YG:∀y,SP y=QoU y:=λy=>by kernel_rfl
abbrev RA1 (v:ai) (p:Prop):Prop:=aa [v.op] (aa [v.r] (aa [v.mn] (aa [v.mx] (aa [v.lz] (aa [v.cap] (aa [v.nk] p))))))
def SQ (y:ai):Prop:=let b:=y.af;let q1:=ah b;bF (ah y.r) 8=true/\(∃z:Nat,RAQ b q1 (([Nd.mk y.op y.r y.mn y.mx y.lz y.cap q1]:List Nd)=o9 y z/\0=(z:Int)/\(Iv (z<=b.length))))/\(∀x:Nat,let c:=b.length;let a:=gt (ai.mk 0 [] 0 0 false 0 0 []) b (x:Int).toNat;let d:=ai.mk a.op a.r a.mn a.mx a.lz a.cap a.nk a.af;let e:=bM (o9 y x) (dc d);(Iv (x<=c))->ak (az (x:Int) q1) (aI 0 (x:Int)=true/\az (x:Int) q1=true/\Iv (dG d/\dg d<dg y)/\RA1 a (RAP a.af (bF (ah e) 72=true/\∃z:Nat,aa [b] (aa [q1] (e=o9 y z/\aD .i64 (x:Int) 1=(z:Int)/\(Iv (z<=c/\(c-z)<(c-x)))))))) (o9 y x=dc y/\True))
def YH:∀y,SQ y=QoW y:=λy=>by kernel_rfl
end
end sx
end Go.Proofs.YtiiiphndmbabcaaGreat
