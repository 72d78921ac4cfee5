/- PointAny: a part of the proof. -/
import Derived.Test.YtiiiphndmbabcaaGreatC2
import Derived.LoopN
import Derived.Below
set_option linter.all false
namespace Go.Proofs.YtiiiphndmbabcaaGreat
namespace sx
open Go Go.RowKit
section
variable {P:Program} {D:Data} {M M':Pm D} {w w':World} {H:Hp D} {s s':St D.E} {lo:Nat} {m m':Mt D.E} {th:List (Nat×AO D.E)}
section
variable {f:Nat->Nat}
variable {v:AV D.E} {e:Value} {l:List (AV D.E)} {c:List Value}
def Cd (c:∀t m,M.pl t=some m->M'.pl (f t)=some m) (l:zq M M') (h:VR M v e) (p:XE D v):VR M' (BW D f v) e:=by
 cases h<;>simp only[BW]<;>first | (cases p;done) | skip
 case bool b=>exact .bool b
 case lit b=>exact .lit b
 case int h=>exact .int h
 case num h=>exact .num h
 case str h=>exact .str h
 case fT=>exact .fT
 case ptr h a=>exact .ptr (c _ _ h) a
 case kA g o=>exact .kA g o
 case mg h a hk hi=>exact .mg (c _ _ h) a hk hi
 case nA h=>exact .nA λi v n=>l _ _ _ (h i v n)
 case dF=>exact .dF
 case own h hk a k j d ht=>exact .own (c _ _ h) hk a k j d ht
 case kD h hk a k hl=>exact .kD (c _ _ h) hk a k hl
 case pre h hk a k j hl d ht=>exact .pre (c _ _ h) hk a k j hl d ht
 case oV h hk a k hl=>exact .oV (c _ _ h) hk a k hl
 case part h hk a k h0 hl j d=>exact .part (c _ _ h) hk a k h0 hl j d
 case jz h hk k h0=>exact .jz (c _ _ h) hk k h0
 case grow h a hl hz hs j d ht=>exact .grow (c _ _ h) a hl hz (hs.mono l) j d ht
 case jZ h a=>exact .jZ (c _ _ h) a
 case sub h a d j=>exact .sub (c _ _ h) a d j
 case oW=>exact .oW
 case list hs j d=>exact .list (hs.mono l) j d
 case ed=>exact .ed
 case qB=>exact .qB
 case map h=>exact .map (c _ _ h)
 case nilFunc=>exact .nilFunc
 case nilIface=>exact .nilIface
theorem vV (j:∀t d,M.pl t=some d->M'.pl (f t)=some d) (b:zq M M') (h:LR M l c) (k:jy (XE D) l):LR M' (s8 (BW D f) l) c:=by
 rw[pS];refine⟨by simp[h.1],λi v m e g=>?_⟩;rw[Zbk] at e;cases a:l[i]? with
 | none=>rw[a] at e;cases e
 | some u=>
  rw[a] at e;cases e;exact Cd j b (h.2 i u m a g) (ec.1 k u (ZaJ a))
def Kk (b:∀t l,M.pl t=some l->M'.pl (f t)=some l) (a:zq M M') (h:VR M v e) (d:okV D v):VR M' (MJ D f v) e:=by
 cases v<;>simp only[MJ]<;>(try exact Cd b a h rfl)
 case agg cs=>cases h with
  | agg hl c=>exact(VR.DB (vV b a ⟨hl,c⟩ d):)
 case tuple cs=>cases h with
  | tuple hl c=>exact(VR.DC (vV b a ⟨hl,c⟩ d):)
 case func g xs q=>
  obtain⟨o,p⟩:=l8 d;cases h with
  | func _ hl c i m=>
   have j:=vV b a ⟨hl,c⟩ o;have k:=vV b a ⟨i,m⟩ p;exact .func _ j.1 j.2 k.1 k.2
 case iface t x=>cases h with
  | iface _ n=>exact .iface _ (Cd b a n d)
theorem Kl (j:∀t d,M.pl t=some d->M'.pl (f t)=some d) (b:zq M M') (h:LR M l c) (k:jy (okV D) l):LR M' (s8 (MJ D f) l) c:=by
 rw[pS];refine⟨by simp[h.1],λi v m e g=>?_⟩;rw[Zbk] at e;cases a:l[i]? with
 | none=>rw[a] at e;cases e
 | some u=>
  rw[a] at e;cases e;exact Kk j b (h.2 i u m a g) (ec.1 k u (ZaJ a))
def Qx (b:∀t d,M.pl t=some d->M'.pl (f t)=some d) (a:zq M M') (h:VR M v e) (c:QgJ D v):VR M' (PR D f v) e:=by
 cases v<;>simp only[PR]<;>(try exact Kk b a h c)
 case tuple cs=>cases h with
  | tuple hl g=>exact(VR.DC (Kl b a ⟨hl,g⟩ c):)
theorem Yd (j:∀t b,M.pl t=some b->M'.pl (f t)=some b) (a:zq M M') {o:AO D.E} {b:MI} (g:aY D) (h:OR M o b w) (k:okO D o):OR M' (BX D f o) b w:=by
 cases o with
 | cells cs e ro=>exact⟨⟨h.1.1,h.1.2.1,by rw[pS,Za2];exact h.1.2.2⟩,h.2.map λl hl=>Kl j a hl k⟩
 | arr c xs e ro=>exact⟨h.1,h.2.1,λm=>(h.2.2 m).map λl hl=>⟨hl.1,λi v n d e2=>(hl.2 i v n d e2).pure (ef g (ZaJ d)).2 a⟩⟩
 | tok c e=>exact h
end
variable {Z:Nat->Nat} {o:AO D.E} {c:Nat}
theorem Ce (o:AO D.E):(BX D Z o).wr=o.wr:=by cases o<;>rfl
def MX (o:AO D.E) (a:MI) (j:Nat):(BX D Z o).ti a j↔o.ti a j:=by cases o<;>exact ZbW
def Qy {xs:List (D.E c)} {e:TypeId} {ro:Bool} (h:BX D Z o=.arr c xs e ro):o=.arr c xs e ro:=by cases o<;>first | exact h | cases h
def DW (P:Program) (D:Data) (k:bh D):Prop:=(∃fn c,P.funcs[k.f]?=some fn/\fn.body=some c)/\∀y,k.pre y->∀(M:Pm D) (A:Array Value) (w:World),LR M (k.args y) A.toList->ee M (λt=>cA (k.heap y) t) w->TF M k.jY->
 ∀R:Ending->World->Prop,(∀a b d,VR a (k.res y) b->cU (λt=>cA (k.heap y) t) M w (λt=>cA (k.dy y) t) a d k.jY k.oS->R (.returned b) d)->Calls P k.f A w R
noncomputable def MY (f:Nat->Nat) (b:Nat):List (Nat×AO D.E)->Option (AO D.E)
 | []=>none
 | p::l=>if f p.1=b then some (BX D f p.2) else MY f b l
theorem Aw:∀{l:List (Nat×AO D.E)},MY Z c l=some o->∃t a,cA l t=some a/\Z t=c/\o=BX D Z a
 | [],h=>by cases h
 | (t,a)::l,h=>by
  unfold MY at h;by_cases e:Z t=c
  ·grind [fh]
  ·rw[Zaa e] at h;obtain⟨i,g,h1,b,d⟩:=Aw h;grind [fh]
theorem Km:∀{l:List (Nat×AO D.E)} {h a:T (AO D.E)},(inP D Z l h).H a->∀b,a.get b=match MY Z b l with
  | some o=>some o
  | none=>h.get b
 | [],h,a,c,b=>by cases aq.1 (show(C.ret h).H a from c);rfl
 | p::l,h,a,c,b=>by
  obtain⟨h1,g1,g2⟩:=ai.1 (show(az (inP D Z l h) λh=>cR (h.put (Z p.1) (some (BX D Z p.2)))).H a from c);have d:=Km g1 b;grind [T.ea,bD,MY]
theorem DX {r:Ren}:∀{l:List (Nat×AO D.E)} {h a:T (AO D.E)},(QdM D r l h).H a->∀b,((∃p∈l,d_ r p.1=some b)->a.get b=none)/\((¬∃p∈l,d_ r p.1=some b)->a.get b=h.get b)
 | [],h,a,d,b=>by cases aq.1 (show(C.ret h).H a from d);exact⟨λ⟨p,e,_⟩=>by grind,λ_=>rfl⟩
 | p::l,h,a,d,b=>by
  obtain⟨c,g1,g2⟩:=ai.1 (show(az (cR (d_ r p.1)) λb=>az (cR (h.put b none)) λh=>QdM D r l h).H a from d);obtain⟨h1,g3,g4⟩:=ai.1 g2;rw[bD] at g1 g3;have f:=DX g4 b;grind [T.ea]
def DY {l:List (Nat×AO D.E)} (h:below D c l) {t:Nat} (ht:cA l t=some o):t<c:=cw.1 (ec.1 h _ (o9 ht))
theorem Qz (hD:aY D) {k:bh D} {y:k.Y} {args:List (AV D.E)} {v:AV D.E} (hk:DW P D k) (h:(PT D k y args s).H (v,s')):GB P D k.f args s v s':=by
 obtain⟨Z,h1⟩:=cK.1 h;obtain⟨h2,h3⟩:=bA.1 h1;obtain⟨h4,h5⟩:=l8 h2;obtain⟨V,X⟩:=l8 h4;obtain⟨hres,hok⟩:=l8 h5;have X:=cw.1 X;obtain⟨n,r,h6,h7⟩:=bq.1 h3;obtain⟨h2',h8,h9⟩:=ai.1 h7;obtain⟨h3',h10,F⟩:=ai.1 h9;have F:=aq.1 F;simp only[Zbx] at F;obtain⟨rfl,rfl⟩:=F;have hm:=Cc hD (λt t' b e=>by cases(show none=some b from e)) h6;have hle:=hm.le;refine⟨by grind,hk.1,λM A w hl hS G R hR=>?_⟩;have G:bV M s.nx (n.nx+(k.oS-k.jY)):=G;obtain⟨L,g1,g2,g3,g4⟩:=hm.sem M w hS (G.fst ω);have N:bV L n.nx (n.nx+(k.oS-k.jY)):=G.next g1;have hr0:∀t,k.jY<=t->d_ r t=none:=λt ht=>by
  cases hq:d_ r t with
  | none=>rfl
  | some b=>
   obtain⟨ot,oa,g,i,_⟩:=g4 t b hq;have:=DY V i;omega
 have hTF:TF (rl r L) k.jY:=λt ht=>by
  show(d_ r t).bind L.pl=none
  grind
 refine hk.2 y Z.out (rl r L) A w (g2 _ hl) g3 hTF R λQ v' w' hv a=>?_
 let f:=rn r k.jY n.nx
 have z:∀t b,d_ r t=some b->f t=b:=λt b e=>by
  show Option.rec (motive:=λ_=>Nat) (n.nx+(t-k.jY)) (λb=>b) (d_ r t)=b
  rw[e]
 have f_new:∀t,k.jY<=t->f t=n.nx+(t-k.jY):=λt e=>by
  show Option.rec (motive:=λ_=>Nat) (n.nx+(t-k.jY)) (λb=>b) (d_ r t)=_
  rw[hr0 t e]
 let S:Pm D:=⟨λb=>if n.nx<=b/\b<n.nx+(k.oS-k.jY) then Q.pl (k.jY+(b-n.nx)) else L.pl b,Q.sg⟩
 have hf:∀t g,Q.pl t=some g->S.pl (f t)=some g:=λt g e=>by
  by_cases C:k.jY<=t/\t<k.oS
  ·grind
  ·rw[a.ext t C] at e;obtain⟨b,i,e2⟩:=f_ e;rw[z t b i];show(if _ then _ else _)=_
   by_cases l:n.nx<=b/\b<n.nx+(k.oS-k.jY)
   ·rw[N b l.1 l.2] at e2;cases e2
   ·grind
 have O:zq Q S:=λ_ _ _ e=>e
 refine hR S v' w' (Qx hf O hv hres) (g1.trans ?_)
 
 classical
 let MN:Nat->Prop:=λb=>∃p∈k.heap y,d_ r p.1=some b
 let K:Hp D:=λb=>if MN b then n.h.get b else none
 let K':Hp D:=λb=>MY f b (k.dy y)
 have W:∀t b,d_ r t=some b->MN b:=λt b e=>by
  obtain⟨ot,_,_,i,_⟩:=g4 t b e;exact⟨(t,ot),o9 i,e⟩
 have hK:∀t b,d_ r t=some b->K b=n.h.get b:=λt b e=>Zac (W t b e)
 have Qnz:∀c,MM (λt=>cA (k.heap y) t) (rl r L) c->MM K L c:=λc ⟨t,o,g,i,e2,e3,x,m⟩=>by
  obtain⟨b,e6,e7⟩:=f_ e3;obtain⟨ot,oa,I,q1,q2,q3,q4,_⟩:=g4 t b e6;rw[show cA (k.heap y) t=some o from i] at q1;cases q1;exact⟨b,oa,g,by grind,q4▸e2,e7,x,m⟩
 have QnA:cU K L w K' S w' n.nx (n.nx+(k.oS-k.jY)):=by
  have d:∀b J,K' b=some J->∃t o g,cA (k.dy y) t=some o/\f t=b/\J=BX D f o/\Q.pl t=some g/\S.pl b=some g/\OR Q o g w':=λb J l=>by
   obtain⟨t,o,i,e2,e3⟩:=Aw l;obtain⟨g,x,m⟩:=a.fJ.obj t o i;grind
  refine⟨⟨λb J l=>?_,λb T o J g I l B e e' C hr' he=>?_,λb o v e=>?_,λb o g l hw e C j hj=>?_,λb c xs e g l hmi C=>?_,⟨a.fJ.mh.1,λb o g l hw e C=>?_⟩⟩,λb l=>?_,λb o v e=>a.J7 b o v e,λb o e=>?_,a.size,λc hc hn=>a.aO c hc λhx=>hn (Qnz c hx),λb o g l e C=>?_,λb l=>?_,a.os,a.tape,a.output,ω⟩
  ·obtain⟨t,o,g,i,e2,rfl,x,m,e6⟩:=d b J l;exact⟨g,m,Yd hf O hD e6 (ec.1 hok _ (o9 i))⟩
  ·obtain⟨t,p,q,i,e2,_,x,m,_⟩:=d b o l;obtain⟨t',p',q',e1',e2',_,e4',U,_⟩:=d T J B;rw[e] at m;cases m;rw[e'] at U;cases U;have:=a.fJ.inj t t' p p' g I i e1' x e4' C hr' he;grind
  ·obtain⟨hp,v',hc,hvv⟩:=a.fJ.gR b o v e;exact⟨hp,v',hc,hvv.pure hp O⟩
  ·obtain⟨t,p,q,i,e2,rfl,x,m,_⟩:=d b o l;rw[e] at m;cases m;exact a.fJ.sep t p g i (by grind [Ce]) x C j ((MX p g j).1 hj)
  ·obtain⟨t,p,q,i,e2,e3,x,m,_⟩:=d b _ l;rw[hmi] at m;cases m;have:=Qy e3.symm;subst this;exact a.fJ.J6 t c xs e g i x C
  ·obtain⟨t,p,q,i,e2,rfl,x,m,_⟩:=d b o l;rw[e] at m;cases m;exact a.fJ.mh.2 t p g i (by grind [Ce]) x C
  ·exact Zaa l
  ·rcases a.lP b o e with u | u | u
   ·exact .inl u
   ·omega
   ·grind
  ·obtain⟨t,p,q,i,e2,rfl,x,m,_⟩:=d b o l;rw[e] at m;cases m;rcases a.born t p g i x C with u | ⟨t0,p0,rI,i1,i2,i3,i4,i5⟩
   ·omega
   ·obtain⟨b0,i6,i7⟩:=f_ i2;obtain⟨ot,oa,I,q1,q2,q3,q4,_⟩:=g4 t0 b0 i6;grind [Ce]
  ·obtain⟨J,ho'⟩:=Zbs.1 l;obtain⟨t,p,q,i,e2,_,x,m,_⟩:=d b J ho';rcases a.MN t (by grind) with u | u
   ·obtain⟨o0,ho0⟩:=Zbs.1 u;obtain⟨T,B⟩:=hm.all t o0 ho0;obtain⟨ot,oa,I,q1,q2,q3,q4,_⟩:=g4 t T B;left;rw[<-e2,z t T B,hK t T B,q2];simp
   ·grind
 refine QnA.frame g1.fJ N (λb o l=>?_) λb=>?_
 ·grind
 ·grind [Km,DX]
theorem xe (d:aY D) {tab:List (bh D)} (ht:∀k∈tab,DW P D k):rY P D (X2 D tab):=by
 intro f args s v c h
 induction tab with
 | nil=>exact(h:False).elim
 | cons k tab a=>
  have a:=a λk hk=>ht k (ZaU _ hk)
  rcases gY.1 (show(bE (Nat.beq k.f f) (bE (BY (k.oM args s)) (X2 D tab f args s) (az (k.oM args s) λy=>PT D k y args s)) (X2 D tab f args s)).H (v,c) from h) with⟨h1,b⟩ | ⟨_,b⟩
  ·grind [gY,ai,aN,Qz]
  ·grind
end
section
variable {P:Program} {D:Data} {M M':Pm D} {w w':World} {H H':Hp D} {s s':St D.E} {φ φ':T (AV D.E)} {a:Act} {N:Nat} {m m':Mt D.E} {th:List (Nat×AO D.E)}
variable {H0:Hp D} {M0:Pm D} {w0:World} {base:Nat}
structure Ye (H0:Hp D) (M0:Pm D) (w0:World) (H:Hp D) (M:Pm D) (w:World):Prop where
 J7:zq M0 M
 lP:∀b o,M.sg b o≠none->M0.sg b o≠none\/w0.heap.size<=b\/MM H0 M0 b
 size:w0.heap.size<=w.heap.size
 aO:∀c,c<w0.heap.size->¬MM H0 M0 c->w.heap[c]?=w0.heap[c]?
 born:∀b o mi,H b=some o->M.pl b=some mi->mi.real=true->w0.heap.size<=mi.bY\/∃b0 o0 rI,H0 b0=some o0/\M0.pl b0=some rI/\rI.real=true/\rI.bY=mi.bY/\(o.wr=true->o0.wr=true)
 os:w.os=w0.os
 tape:w.tape=w0.tape
 output:w.output=w0.output
theorem Ye.refl (H0:Hp D) (a:Pm D) (w0:World):Ye H0 a w0 H0 a w0:=⟨λ_ _ _ h=>h,λ_ _ h=>.inl h,Zah _,λ_ _ _=>rfl,λb o f c d e=>.inr ⟨b,o,f,c,d,e,rfl,id⟩,rfl,rfl,rfl⟩
def Ye.wrt (h:Ye H0 M0 w0 H M w) {c:Nat} (j:MM H M c):w0.heap.size<=c\/MM H0 M0 c:=by
 obtain⟨b,o,p,i,m,l,n,rfl⟩:=j;rcases h.born b o p i l n with hs | ⟨g,q,f,a,d,e,k,hw⟩
 ·omega
 ·exact .inr ⟨g,q,f,a,hw m,d,e,k⟩
theorem Ye.GF {lo hi:Nat} (h:Ye H0 M0 w0 H M w) (k:cU H M w H' M' w' lo hi):Ye H0 M0 w0 H' M' w':=by
 refine⟨λb o v e=>k.J7 _ _ _ (h.J7 _ _ _ e),λb o d=>?_,Zav h.size k.size,λc j q=>?_,λb o u d n r=>?_,k.os.trans h.os,k.tape.trans h.tape,k.output.trans h.output⟩
 ·rcases k.lP b o d with a | a | a
  ·exact h.lP b o a
  ·exact .inr (.inl (Zav h.size a))
  ·exact .inr (h.wrt a)
 ·rw[k.aO c (ZbB j h.size) λhw=>?_,h.aO c j q];rcases h.wrt hw with a | a
  ·omega
  ·grind
 ·rcases k.born b o u d n r with hs | ⟨b1,y,i,lG,f,g,m,t⟩
  ·exact .inl (Zav h.size hs)
  ·rcases h.born b1 y i lG f g with hs | ⟨z,B,x,l,p,s,A,hw⟩
   ·omega
   ·grind
structure F0 (H0:Hp D) (M0:Pm D) (w0:World) (base N:Nat) (s:St D.E) (φ:T (AV D.E)) (M:Pm D) (a:Act) (w:World):Prop where
 fJ:ee M s.h.get w
 fr:FR M φ a N
 tf:TF M s.nx
 DZ:Ye H0 M0 w0 s.h.get M w
 per:∀t mi,t<base->M.pl t=some mi->M0.pl t=some mi
 le:base<=s.nx
variable {v d:AV D.E} {b:Nat} {l:List (Nat×AO D.E)}
def F0.step {b:Act} (h:F0 H0 M0 w0 base N s φ M a w) (k:cU s.h.get M w s'.h.get M' w' s.nx s'.nx) (c:FR M' φ' b N):F0 H0 M0 w0 base N s' φ' M' b w':=
 ⟨k.fJ,c,h.tf.GF k,h.DZ.GF k,λt d ht e=>h.per t d ht (by rw[<-k.ext t (by have:=h.le;omega)];exact e),Zav h.le k.le⟩
theorem QA (p:aY D) (h:(JZ D s v).H (d,s')) (l:ee M s.h.get w):∃j,cU s.h.get M w s'.h.get j w s.nx s'.nx/\∀val,VR M v val->VR j d val:=by
 have i:∀{v d:AV D.E},(C.ret (v,s)).H (d,s')->∃j,cU s.h.get M w s'.h.get j w s.nx s'.nx/\∀val,VR M v val->VR j d val:=λe=>by
  cases aq.1 e;exact⟨M,.refl l _,λ_ h=>h⟩
 cases v<;>simp only[JZ] at h<;>(try exact i h)
 case own b k n=>
  obtain⟨a,m1,h1,f⟩:=bq.1 h;cases aq.1 f;obtain⟨q1,q,m⟩:=kK p h1;grind [tn]
 case pre b k n=>
  obtain⟨a,m1,h1,f⟩:=bq.1 h;cases aq.1 f;obtain⟨q1,q,m⟩:=kK p h1;obtain⟨j,g1,g2,x,g3,g4,g5,g6⟩:=m M w l;exact⟨j,g1,λv g=>(tn g2 g3 g4 g5 g6).2.1 g⟩
 case part b k o n=>
  obtain⟨a,m1,h1,f⟩:=bq.1 h;cases aq.1 f;obtain⟨q1,q,m⟩:=kK p h1;obtain⟨j,g1,g2,x,g3,g4,g5,g6⟩:=m M w l;exact⟨j,g1,λv g=>(tn g2 g3 g4 g5 g6).2.2 o g⟩
 case grow c xs b=>
  cases aq.1 h;refine⟨M,.refl l _,λv g=>?_⟩;cases g with
  | grow h u hl hz hs t r ht=>exact .list hs t r
  | jZ h u=>exact .ed
theorem xf {k:IntKind} {x:Int}:∀{n:Nat} {v:AV D.E},(PW D k x n).H v->∀(M:Pm D) val,VR M (.int k x) val->VR M v val
 | 0,v,h,M,val,b=>by
  obtain⟨h1,a⟩:=cY.1 (show(ask (aB x zI) (.ret (.num k zI))).H v from h);cases aq.1 a;have h1:x=zI:=by grind [aB]
  subst h1;cases b;exact .num (by assumption)
 | n+1,v,h,M,val,b=>by
  rcases vO.1 (show(C.split (aB x (.ofNat (n+1))) (.ret (.num k (.ofNat (n+1)))) (PW D k x n)).H v from h) with⟨h1,a⟩ | ⟨_,a⟩
  ·cases aq.1 a;have h1:x=.ofNat (n+1):=by grind [aB]
   subst h1;cases b;exact .num (by assumption)
  ·exact xf a M val b
def D0 {val:Value} (h:VR M v val):JX D v:=by
 cases h<;>simp only[JX]<;>(try trivial)
 case str l h=>exact ZaK (show(l.length:Int)<=9223372036854775807 by omega)
 case own a e d ht=>rw[a];simp[aG,zI];omega
 case kD g a hl=>rw[a];simp[aG,zI]
 case grow c b cap xs i f g hl hz hs e d ht=>exact ZaK (show(xs.length:Int)<=9223372036854775807 by omega)
 case list c b o cap xs hs e d=>exact ZaK (show(xs.length:Int)<=9223372036854775807 by omega)
theorem xg:∀{l:List (AV D.E)} {l':List Value},LR M l l'->PV D l
 | [],_,_=>trivial
 | v::l,l',h=>by
  obtain⟨c,r,_,b,a⟩:=h.aM;exact⟨D0 b,xg a⟩
def QB {val:Value} (h:VR M v val):JY D v:=by
 cases v<;>simp only[JY]<;>(try exact D0 h)
 case agg l=>cases h with
  | agg hl a=>exact xg (l':=_) ⟨hl,a⟩
 case tuple l=>cases h with
  | tuple hl a=>exact xg (l':=_) ⟨hl,a⟩
def Qd4 (c:FR M φ a N) (g:∀val,VR M v val->VR M d val) (h:φ.get b=some v) (f:φ.put b (some d)=some φ'):FR M φ' a N:=by
 refine⟨λx u t=>?_,c.size,c.defers⟩;rw[T.ea _ _ _ _ f x] at t;by_cases e:x=b
 ·subst e;rw[Zac rfl] at t;cases t;exact g _ (c.at_ x v h)
 ·rw[Zaa e] at t;exact c.at_ x u t
def Yf (c:FR M φ a N) (f:Le M M') (i:∀val,VR M v val->VR M' d val) (h:φ.get b=some v) (g:φ.put b (some d)=some φ'):FR M' φ' a N:=by
 refine⟨λx u t=>?_,c.size,c.defers⟩;rw[T.ea _ _ _ _ g x] at t;by_cases e:x=b
 ·subst e;rw[Zac rfl] at t;cases t;exact i _ (c.at_ x v h)
 ·rw[Zaa e] at t;exact(c.at_ x u t).mono f
theorem cU.same {u o1:AO D.E} {l:MI} (d:ee M H0 w) (I:H0 b=some u) (J:M.pl b=some l) (K:OR M o1 l w) (hw:o1.wr=u.wr) (q:∀j,o1.ti l j->u.ti l j) (C:∀c xs e,o1≠.arr c xs e true) (lo:Nat):
  cU H0 M w (ja H0 b (some o1)) M w lo lo:=by
 have a:∀c o,ja H0 b (some o1) c=some o->∃g,H0 c=some g/\o.wr=g.wr/\(∀m,M.pl c=some m->∀j,o.ti m j->g.ti m j):=λc o h=>by
  grind [ja]
 refine⟨⟨λc o h=>?_,λc v o g m F h y e x r H A=>?_,d.gR,λc o m h hw e i j B=>?_,λc k xs e m h n t=>?_,⟨d.mh.1,λc o m h hw e i=>?_⟩⟩,λ_ _=>rfl,λ_ _ _ h=>h,λ_ _ h=>.inl h,Zah _,λ_ _ _=>rfl,λc o m h e i=>?_,λc h=>?_,rfl,rfl,rfl,Zah _⟩
 ·unfold ja at h;split at h
  ·grind
  ·exact d.obj c o h
 ·obtain⟨p,f,_⟩:=a c o h;obtain⟨G,s,_⟩:=a v g y;exact d.inj c v p G m F f s e x r H A
 ·obtain⟨p,f,h1,z⟩:=a c o h;exact d.sep c p m f (by grind) e i j (z m e j B)
 ·unfold ja at h;split at h
  ·grind
  ·exact d.J6 c k xs e m h n t
 ·obtain⟨p,f,h1,_⟩:=a c o h;exact d.mh.2 c p m f (by grind) e i
 ·grind
 ·grind [ja]
theorem QC {o n:Nat} (h:(Gj D b o n s).H s') (g:ee M s.h.get w):cU s.h.get M w s'.h.get M w s.nx s'.nx:=by
 obtain⟨a,h1,d⟩:=ai.1 (show(az (cR (s.h.get b)) _).H s' from h);cases a with
 | cells cs e ro=>
  obtain⟨v,t,x⟩:=ai.1 d;obtain⟨B,f,y⟩:=ai.1 x;obtain⟨q1,A⟩:=kF y;have j:=bD.1 h1;have l:=bD.1 t;rw[fc] at l;obtain⟨E,z,k,C,r,k1,k2,k3,k4,k5⟩:=g.obj b _ j;rw[q1,A];refine cU.same (o1:=.cells (cS cs o B) e ro) g j z ⟨⟨k.1,k.2.1,by grind [mv]⟩,C,r,k1,k2,by grind [mv],λi u hu=>?_,k5⟩ rfl (λ_ h=>h) (λ_ _ _ h=>by cases h) _;unfold cS at hu;rw[List.getElem?_set] at hu;split at hu
  ·rename_i q
   subst q;split at hu
   ·cases hu;obtain⟨m,p,a2⟩:=k4 _ v l;refine⟨m,p,?_⟩;cases v<;>simp only[Dx] at f<;>(try (cases aq.1 f;exact a2));exact xf f M m a2
   ·cases hu
  ·grind
 | arr c xs e ro=>exact(d:False).elim
 | tok c e=>exact(d:False).elim
theorem QE (m:aY D) {h:Hint} (f:(z_ D h s φ).H (s',φ')) (c:F0 H0 M0 w0 base N s φ M a w):∃g,F0 H0 M0 w0 base N s' φ' g a w:=by
 cases h with
 | lock t=>
  obtain⟨v,h1,d⟩:=ai.1 (show(az (cR (φ.get t)) λv=>aP (JZ D s v) λv s=>az (cR (φ.put t (some v))) λφ=>.ret (s,φ)).H (s',φ') from f);obtain⟨r,q,e,i⟩:=bq.1 d;obtain⟨l,j,k⟩:=ai.1 i;cases aq.1 k;obtain⟨g,g1,g2⟩:=QA m e c.fJ;exact⟨g,c.step g1 (Yf c.fr (g1.Le c.tf.fresh) g2 (bD.1 h1) (bD.1 j))⟩
 | QdN t n=>
  obtain⟨v,h1,d⟩:=ai.1 (show(az (cR (φ.get t)) λv=>az (Dx D v n) λv=>az (cR (φ.put t (some v))) λφ=>.ret (s,φ)).H (s',φ') from f);obtain⟨r,e,i⟩:=ai.1 d;obtain⟨l,j,k⟩:=ai.1 i;cases aq.1 k;refine⟨M,c.step (.refl c.fJ _) (Qd4 c.fr (λval p=>?_) (bD.1 h1) (bD.1 j))⟩;cases v<;>simp only[Dx] at e<;>(try (cases aq.1 e;exact p));grind [xf]
 | fact t=>
  cases aq.1 (show(C.ret (s,φ)).H (s',φ') from f);grind
 | PU b o n=>
  obtain⟨q,h1,d⟩:=ai.1 (show(az (Gj D b o n s) λs=>.ret (s,φ)).H (s',φ') from f);cases aq.1 d;exact⟨M,c.step (QC h1 c.fJ) c.fr⟩
theorem tp (j:aY D) {K:St D.E->T (AV D.E)->Prop}:∀{l:List (Nat×Hint)} {s:St D.E} {φ:T (AV D.E)} {M:Pm D},oT D l b s φ K->F0 H0 M0 w0 base N s φ M a w->∃r f u,K r f/\F0 H0 M0 w0 base N r f u a w
 | [],s,φ,M,h,e=>⟨s,φ,M,h,e⟩
 | p::l,s,φ,M,h,e=>by
  have c:cond (Nat.beq p.1 b) (QbE D p.2 φ ((z_ D p.2 s φ).wp λq=>oT D l b q.1 q.2 K)) (oT D l b s φ K):=h;cases m:Nat.beq p.1 b with
  | false=>rw[m] at c;exact tp j c e
  | true=>
   rw[m] at c;have x:(z_ D p.2 s φ).wp λq=>oT D l b q.1 q.2 K:=by
    cases g:p.2 with
    | fact t=>
     rw[g] at c;have d:Option.rec (motive:=λ_=>Prop) ((z_ D (.fact t) s φ).wp λq=>oT D l b q.1 q.2 K) (λv=>JY D v->(z_ D (.fact t) s φ).wp λq=>oT D l b q.1 q.2 K) (φ.get t):=c;cases k:φ.get t with
     | none=>rw[k] at d;exact d
     | some v=>rw[k] at d;exact d (QB (e.fr.at_ t v k))
    | lock t=>rw[g] at c;exact c
    | QdN t n=>rw[g] at c;exact c
    | PU id o n=>rw[g] at c;exact c
   obtain⟨⟨B,z⟩,d,y⟩:=gj x;obtain⟨A,i⟩:=QE j d e;exact tp j y i
theorem D1:∀{l:List (Nat×AO D.E)} {h a:T (AO D.E)},(ML D l h).H a->∀b,a.get b=match cA l b with
  | some o=>some o
  | none=>h.get b
 | [],h,a,c,b=>by cases aq.1 (show(C.ret h).H a from c);rfl
 | (t,o)::l,h,a,c,b=>by
  obtain⟨h1,g1,g2⟩:=ai.1 (show(az (ML D l h) λh=>cR (h.put t (some o))).H a from c);have d:=D1 g1 b;grind [T.ea,bD,fh]
theorem xh {a:T (AO D.E)} (c:(ML D l .nil).H a):a.get=λb=>cA l b:=by
 grind [D1,T.get_nil]
theorem MZ:(∀t o,cA l t=some o->t<base->d_ (fixed D base l) t=some t)/\∀t b,d_ (fixed D base l) t=some b->b=t:=by
 induction l with
 | nil=>exact⟨λt o h=>(by cases(show none=some o from h)),λt b h=>(by cases(show none=some b from h))⟩
 | cons p l a=>
  grind [fixed,jf,fh,DA]
theorem Kn:∀{l:List Nat} {b:List (AV D.E)},(wL D φ l).H b->FR M φ a N->LR M b (l.map λt=>a.tmps.getD t Go.undef)
 | [],b,h,_=>by cases aq.1 (show(C.ret []).H b from h);exact .nil
 | t::l,b,h,hf=>by
  obtain⟨v,h1,c⟩:=ai.1 (show(az (cR (φ.get t)) λv=>az (wL D φ l) λr=>.ret (v::r)).H b from h);obtain⟨r,d,e⟩:=ai.1 c;cases aq.1 e;exact .cons (hf.at_ t v (bD.1 h1)) (Kn d hf)
theorem xi:∀{l:List Nat} {b:List (AV D.E)} {φ a:T (AV D.E)},(X4 D b l φ).H a->b.length>=l.length/\∀t v,a.get t=some v->φ.get t=some v\/∃i:Nat,l[i]?=some t/\b[i]?=some v
 | [],b,φ,a,h=>by cases aq.1 (show(C.ret φ).H a from h);exact⟨by simp,λt v h=>.inl h⟩
 | x::l,[],φ,a,h=>(h:False).elim
 | x::l,u::b,φ,a,h=>by
  obtain⟨j,h1,d⟩:=ai.1 (show(az (cR (φ.put x (some u))) λφ=>X4 D b l φ).H a from h);obtain⟨q1,g⟩:=xi d;refine⟨by grind,λt v f=>?_⟩;rcases g t v f with c | ⟨i,c,k⟩
  ·rw[T.ea _ _ _ _ (bD.1 h1) t] at c;by_cases e:t=x
   ·rw[Zac e] at c;cases c;exact .inr ⟨0,by grind,rfl⟩
   ·grind
  ·exact .inr ⟨i+1,by assumption,by assumption⟩
theorem xj (hD:aY D) {L:iH D} {x:L.X} {y:List (AV D.E)} {kp:List (Nat×AO D.E)} {u:Unit} {sh:St D.E} {p:T (AV D.E)} (k:(uk D base L x y kp s φ).H u) (hs:(J0 D base L x y kp).H (sh,p)) (hkv:y.length=L.aO.length) (f:F0 H0 M0 w0 base N s φ M a w):
  ∃Q,F0 H0 M0 w0 base N sh p Q a w:=by
 obtain⟨QwY,h1,S⟩:=ai.1 k;obtain⟨⟨s1,r⟩,O,_⟩:=ai.1 S;rw[fC] at h1;rw[fC,fC] at O;obtain⟨φ1,U,V⟩:=ai.1 hs;obtain⟨φ2,W,Y⟩:=ai.1 V;obtain⟨h,P,Z⟩:=ai.1 Y;obtain⟨B,C⟩:=bA.1 Z;obtain⟨F,j⟩:=l8 B;cases aq.1 C;rw[fC] at P j;obtain⟨R,f2⟩:=MZ (D:=D) (base:=base) (l:=kp++L.pc x);have m:=Cc hD (λt t' b e e'=>by grind) O;obtain⟨A,g1,g2,g3,g4⟩:=m.sem M w f.fJ f.tf.fresh;have c:F0 H0 M0 w0 base N s1 φ A a w:=f.step g1 (f.fr.mono (g1.Le f.tf.fresh));have hl:=g2 _ (Kn h1 f.fr);refine⟨rl r A,by grind [xh],⟨λt v hv=>?_,f.fr.size,f.fr.defers⟩,λt ht=>?_,⟨c.DZ.J7,c.DZ.lP,c.DZ.size,c.DZ.aO,λt o z q k hr=>?_,c.DZ.os,c.DZ.tape,c.DZ.output⟩,λt z ht k=>?_,cw.1 F⟩
 ·obtain⟨p1,p2⟩:=xi U;obtain⟨p3,p4⟩:=xi W;have G:∃i:Nat,(L.aO++QdP (L.sl x))[i]?=some t/\(y++QdQ (L.sl x))[i]?=some v:=by
   rcases p4 t v hv with e | ⟨i,d,e2⟩
   ·rcases p2 t v e with e | ⟨i,d,e2⟩
    ·grind [T.get_nil]
    ·exact⟨i,by grind,by grind⟩
   ·exact⟨L.aO.length+i,by grind,by grind⟩
  obtain⟨i,d,e2⟩:=G;obtain⟨v',g,K⟩:=hl.get e2;grind
 ·cases hq:(rl r A).pl t with
  | none=>rfl
  | some z=>
   obtain⟨b,d,e2⟩:=f_ hq;obtain⟨J,I,n,g,_⟩:=g4 t b d;have:=DY j g;grind
 ·have q:h.get t=some o:=q;rw[xh P] at q;obtain⟨b,d,e2⟩:=f_ k;obtain⟨J,I,n,g,K,e5,e6,_⟩:=g4 t b d;rw[show cA (kp++L.pc x) t=some o from q] at g;cases g;rcases c.DZ.born b I z K e2 hr with e7 | ⟨b0,o0,rI,i1,i2,i3,i4,i5⟩
  ·omega
  ·grind
 ·obtain⟨b,d,e2⟩:=f_ k;obtain⟨J,I,n,g,_⟩:=g4 t b d;have:=m.ext t t (R t J g ht);rw[d] at this;cases this;exact c.per t z ht e2
end
section
variable {P:Program} {D:Data} {cd:TypeId->Option Nat} {ca:uj D.E} {fI:cH D} {M M':Pm D} {w w':World} {s s':St D.E} {φ φ':T (AV D.E)} {a:Act} {N:Nat}
variable {H0:Hp D} {M0:Pm D} {w0:World} {base:Nat}
variable {b:Code} {B:Wk D} {L:iH D} {Z:Func}
def zw (P:Program) (H0:Hp D) (d:Pm D) (w0:World) (base N:Nat) (c:Code) (j:Wk D):Prop:=∀(p:Nat) (s:St D.E) (φ:T (AV D.E)) (Q:Dw D),j p s φ Q->∀(M:Pm D) (a:Act) (w:World),F0 H0 d w0 base N s φ M a w->∀R:Exit->Act->World->Prop,
 (∀e g b i f h,Q e g b->F0 H0 d w0 base N g b i f h->R (QdV e) f h)->c.wp P R a w
theorem r9:∀{l:List Nat} {a:List (AV D.E)},(wL D φ l).H a->a.length=l.length
 | [],a,h=>by cases aq.1 (show(C.ret []).H a from h);rfl
 | t::l,a,h=>by
  obtain⟨v,h1,b⟩:=ai.1 (show(az (cR (φ.get t)) λv=>az (wL D φ l) λr=>.ret (v::r)).H a from h);obtain⟨r,c,d⟩:=ai.1 b;cases aq.1 d;simp[r9 c]
def D2 (U:aY D) (V:zw P H0 M0 w0 base N b B):zw P H0 M0 w0 base N (.loop b) (Aa D base L B):=by
 intro p s φ Q h M a w l R A;obtain⟨⟨v,kp⟩,h1,G⟩:=gj (show(az (wL D φ L.aO) λv=>az (MK D s L.kp) λkp=>.ret (v,kp)).wp _ from h);obtain⟨kv',I,J⟩:=ai.1 h1;obtain⟨kp',_,K⟩:=ai.1 J;cases aq.1 K;have o:=r9 I;obtain⟨⟨x,Y⟩,d⟩:=G;have key:∀(n:Nat) (x:L.X),L.me x<n->L.inv x->∀(s:St D.E) (φ:T (AV D.E)) (M:Pm D) (a:Act) (w:World) (u:Unit),(uk D base L x v kp s φ).H u->F0 H0 M0 w0 base N s φ M a w->Code.rounds P b R n a w:=by
  intro n
  induction n with
  | zero=>intro x q;omega
  | succ n Z=>
   intro x q hinv s φ M a w u W l;obtain⟨⟨sh,φh⟩,j,k⟩:=gj (d x ⟨hinv⟩);obtain⟨C,m⟩:=xj U W j o l;rw[rounds_succ];refine V _ _ _ _ k C a w m _ λe y f g a2 z r c=>?_
   cases e with
   | normal=>
    obtain⟨x',t⟩:=r;obtain⟨u',O,S⟩:=gj t;obtain⟨i,F⟩:=S.out;exact Z x' ω i y f g a2 z u' O c
   | exit id=>exact A (.exit id) y f g a2 z r c
   | ret=>exact A .ret y f g a2 z r c
 obtain⟨u,j,k⟩:=gj Y;exact wp_loop_rounds (L.me x+1) (key _ x (Zbr _) k.out s φ M a w u j l)
theorem M4 (Y:aY D) {f:iH D} (Z:zw P H0 M0 w0 base N b B):zw P H0 M0 w0 base N (.loop b) (Gk D base L f B):=by
 intro p s φ Q h M a w q R I;obtain⟨⟨d,kp⟩,h1,U⟩:=gj (show(az (wL D φ L.aO) λd=>az (MK D s L.kp) λkp=>bB (Nat.beq (kb L.aO) (kb f.aO)) (.ret (d,kp))).wp _ from h);obtain⟨kv',G,V⟩:=ai.1 h1;obtain⟨kp',_,l⟩:=ai.1 V;obtain⟨hl,l⟩:=bA.1 l;cases aq.1 l;have hkv:=r9 G;have J:d.length=f.aO.length:=by
  grind [Nat.eq_of_beq_eq_true,ia]
 obtain⟨⟨x,hx⟩,lG,hb2⟩:=U;have key:∀(n:Nat) (c:iH D),(c=L\/c=f)->∀(x:c.X),c.me x<n->c.inv x->∀(s:St D.E) (φ:T (AV D.E)) (M:Pm D) (a:Act) (w:World) (u:Unit),(uk D base c x d kp s φ).H u->F0 H0 M0 w0 base N s φ M a w->Code.rounds P b R n a w:=by
  intro n
  induction n with
  | zero=>intro _ _ x v;omega
  | succ n ih=>
   intro c hL x v hinv s φ M a w u hm q;have g:PX D base c d kp B p (λn s φ=>wM D base L d kp n s φ\/wM D base f d kp n s φ) Q:=by grind
   have t:d.length=c.aO.length:=by grind
   obtain⟨⟨sh,φh⟩,m,o⟩:=gj (g x ⟨hinv⟩);obtain⟨K,r⟩:=xj Y hm m t q;rw[rounds_succ];refine Z _ _ _ _ o K a w r _ λe A i F a2 C y j=>?_
   have again:∀k:iH D,(k=L\/k=f)->wM D base k d kp (c.me x) A i->Code.rounds P b R n a2 C:=λk G ⟨x',z⟩=>by
    obtain⟨u',h8,W⟩:=gj z;obtain⟨O,S⟩:=W.out;grind
   cases e with
   | normal=>exact(y:_\/_).elim (again L (.inl rfl)) (again f (.inr rfl))
   | exit id=>exact I (.exit id) A i F a2 C y j
   | ret=>exact I .ret A i F a2 C y j
 obtain⟨u,m,o⟩:=gj hx;exact wp_loop_rounds (L.me x+1) (key _ L (.inl rfl) x (Zbr _) o.out s φ M a w u m q)
theorem D3 (H:aY D) {y:Code} {o:Wk D} (I:zw P H0 M0 w0 base N b B) (J:zw P H0 M0 w0 base N y o):zw P H0 M0 w0 base N (.seq b y) (Ab D base L B o):=by
 intro p s φ Q h M a w G R f;obtain⟨⟨l,kp⟩,h1,r⟩:=gj (show(az (wL D φ L.aO) λl=>az (MK D s L.kp) λkp=>.ret (l,kp)).wp _ from h);obtain⟨T,t,v⟩:=ai.1 h1;obtain⟨S,_,A⟩:=ai.1 v;cases aq.1 A;have g:=r9 t;obtain⟨K,O⟩:=r;refine wp_seq (I _ _ _ _ K M a w G _ λe m c k a2 j i x=>?_);cases e with
 | normal=>
  obtain⟨z,hz⟩:=i;obtain⟨u,n,C⟩:=gj hz;obtain⟨⟨sh,U⟩,E,F⟩:=gj (O z C);obtain⟨q,d⟩:=xj H n E g x;exact J _ _ _ _ F q a2 j d R f
 | exit id=>exact f (.exit id) m c k a2 j i x
 | ret=>exact f .ret m c k a2 j i x
theorem M5 (o:zw P H0 M0 w0 base N b B) (n:Nat):zw P H0 M0 w0 base N (.loop b) (BZ D n B):=by
 intro p s φ Q h M a w m R k;refine wp_loop_rounds n ?_
 induction n generalizing p s φ M a w with
 | zero=>exact(h:False).elim
 | succ n q=>
  rw[rounds_succ];refine o _ _ _ _ h M a w m _ λe i d f a2 j g c=>?_
  cases e with
  | normal=>exact q _ i d g f a2 j c
  | exit id=>exact k (.exit id) i d f a2 j g c
  | ret=>exact k .ret i d f a2 j g c
theorem Qd5 (G:aY D) (U:P.follows .mixedOrders) (V:rZ P) (T:rY P D ca) (c:Code):zw P H0 M0 w0 base N c (Df P D cd ca base fI N c):=by
 induction c with
 | skip=>exact λp s φ Q h M a w i R d=>wp_skip (d .normal s φ M a w h i)
 | region id ops draw=>
  intro p s φ Q h M a w i R d;obtain⟨s1,W,M1,h1,m⟩:=tp G (show oT D fI.hs id s φ _ from h) i;cases draw with
  | true=>
   obtain⟨⟨Y,J⟩,O,S⟩:=gj (show(Dv P D cd (Dy fI.mu id) ca ops.toList N s1 W).wp _ from h1);obtain⟨_,X⟩:=DR (id:=id) G U V T O;exact X M1 a w m.fJ m.fr m.tf.fresh R λz o u H B=>d .normal Y J z o u S (m.step H B)
  | false=>
   obtain⟨⟨Y,J⟩,O,S⟩:=gj (show(qT P D cd (Dy fI.mu id) ca ops.toList N ops.toList 0 s1 W).wp _ from h1);obtain⟨_,X⟩:=pZ G V T _ _ _ _ _ _ O;exact wp_region_list (X M1 a w m.fJ m.fr m.tf.fresh R λz o u H B=>d .normal Y J z o u S (m.step H B))
 | seq x y q r=>
  intro p s φ Q h;have h:Option.rec (motive:=λ_=>Prop) (Option.rec (motive:=λ_=>Prop) (Df P D cd ca base fI N x (2*p) s φ (X3 D Q λs φ=>Df P D cd ca base fI N y (2*p+1) s φ Q)) (λL=>Ab D base L (Df P D cd ca base fI N x) (Df P D cd ca base fI N y) p s φ Q) (cA fI.jn p))
   (λF=>∃k:F.K,Ab D base (F.L k) (Df P D cd ca base fI N x) (Df P D cd ca base fI N y) p s φ Q) (cA fI.kf p):=h
  cases B:cA fI.kf p with
  | some F=>
   rw[B] at h;obtain⟨k,hk⟩:=h;exact D3 G q r p s φ Q hk
  | none=>
  rw[B] at h;have h:Option.rec (motive:=λ_=>Prop) (Df P D cd ca base fI N x (2*p) s φ (X3 D Q λs φ=>Df P D cd ca base fI N y (2*p+1) s φ Q)) (λL=>Ab D base L (Df P D cd ca base fI N x) (Df P D cd ca base fI N y) p s φ Q) (cA fI.jn p):=h;cases hj:cA fI.jn p with
  | some L=>rw[hj] at h;exact D3 G q r p s φ Q h
  | none=>
   rw[hj] at h;intro M a w i R d;refine wp_seq (q _ _ _ _ h M a w i _ λe C g z o u n j=>?_);cases e with
   | normal=>exact r _ _ _ _ n z o u j R d
   | exit id=>exact d (.exit id) C g z o u n j
   | ret=>exact d .ret C g z o u n j
 | cond c x y q r=>
  intro p s φ Q h M a w i R d;obtain⟨t,h1,O⟩:=gj (show(az (ev P D φ c) λv=>wG D v).wp _ from h);obtain⟨v,S,h4⟩:=ai.1 h1;have hv:=vU h4 (dN S i.fr);cases t with
  | true=>exact wp_cond_true hv (q _ _ _ _ O M a w i R d)
  | false=>exact wp_cond_false hv (r _ _ _ _ O M a w i R d)
 | block id b I=>
  intro p s φ Q h M a w i R d;refine wp_block (I _ _ _ _ h M a w i _ λe C g z o u n j=>?_);cases e with
  | normal=>exact d .normal C g z o u n j
  | ret=>exact d .ret C g z o u n j
  | exit A=>
   have n:cond (Nat.beq A id) (Q .normal C g) (Q (.exit A) C g):=n;show Exit.inBlock id R (.exit A) o u
   by_cases e:A=id
   ·rw[aN.2 e] at n;simp only[Exit.inBlock,Zac e];exact d .normal C g z o u n j
   ·rw[rM.2 e] at n;simp only[Exit.inBlock,Zaa e];exact d (.exit A) C g z o u n j
 | loop b I=>
  intro p s φ Q h;have h:Option.rec (motive:=λ_=>Prop) (Option.rec (motive:=λ_=>Prop) (BZ D fI.un (Df P D cd ca base fI N b) p s φ Q) (λL=>Aa D base L (Df P D cd ca base fI N b) p s φ Q) (cA fI.lp p))
   (λF=>∃k:F.K,Option.rec (motive:=λ_=>Prop) (Aa D base (F.L k) (Df P D cd ca base fI N b) p s φ Q) (λZ=>Gk D base (F.L k) Z (Df P D cd ca base fI N b) p s φ Q) F.E) (cA fI.kf p):=h
  cases B:cA fI.kf p with
  | some F=>
   rw[B] at h;obtain⟨k,hk⟩:=h;obtain⟨K,L,E⟩:=F;cases E with
   | none=>exact D2 G I p s φ Q hk
   | some Z=>exact M4 G I p s φ Q hk
  | none=>
  rw[B] at h;have h:Option.rec (motive:=λ_=>Prop) (BZ D fI.un (Df P D cd ca base fI N b) p s φ Q) (λL=>Aa D base L (Df P D cd ca base fI N b) p s φ Q) (cA fI.lp p):=h;cases n:cA fI.lp p with
  | none=>rw[n] at h;exact M5 I fI.un p s φ Q h
  | some L=>rw[n] at h;exact D2 G I p s φ Q h
 | rangeFunc f ps x y q r=>exact λp s φ Q h=>(h:False).elim
 | exit id=>exact λp s φ Q h M a w i R d=>wp_exit (d (.exit id) s φ M a w h i)
 | scope b I=>exact λp s φ Q h=>(h:False).elim
 | label l=>exact λp s φ Q h M a w i R d=>wp_label (d .normal s φ M a w h i)
 | goto l=>exact λp s φ Q h=>(h:False).elim
 | ret=>exact λp s φ Q h M a w i R d=>wp_ret (d .ret s φ M a w h i)
 | refuse y=>exact λp s φ Q h=>(h:False).elim
theorem xk:∀{b:List (AV D.E)} {i:Nat} {φ a:T (AV D.E)},(tc D b i φ).H a->∀t,a.get t=if i<=t/\t<i+b.length then b[t-i]? else φ.get t
 | [],i,φ,a,h,t=>by cases aq.1 (show(C.ret φ).H a from h);simp;omega
 | v::b,i,φ,a,h,t=>by
  obtain⟨d,h1,c⟩:=ai.1 (show(az (cR (φ.put i (some v))) (λφ=>tc D b (i+1) φ)).H a from h);rw[xk c t,T.ea _ _ _ _ (bD.1 h1) t];grind
theorem Ax {a:List (AV D.E)} {A:Array Value} (h:(tc D a 0 .nil).H φ) (hl:LR M a A.toList) (g:a.length<=N):
  FR M φ { tmps:=A++Array.replicate (N-A.size) Go.undef,defers:=[] } N:=by
 have hlen:a.length=A.size:=by rw[hl.1,Zba]
 refine⟨λt v b=>?_,?_,rfl⟩
 ·rw[xk h t] at b;simp only[Zaj,Zal,Za6,Zdp] at b;by_cases ht:t<a.length
  ·rw[Zac ht] at b;obtain⟨d,c,e⟩:=hl.get b;have f:(A++Array.replicate (N-A.size) Go.undef).getD t Go.undef=d:=by
    rw[ZaL] at c;rw[ZaT,ZbT ω,c];rfl
   grind
  ·grind [T.get_nil]
 ·grind
theorem xl (i:aY D) {C:Nat}:∀{rs:List ResultVar} {c:List (AV D.E)},(PZ P D s φ rs).H c->FR M φ a C->ee M s.h.get w->∃f,LR M c f/\(rs.mapM λr=>(match r with
   | .tmp t=>Pure.pure (a.tmps.getD t Go.undef)
   | .cell b t=>do loadVar t (<-Go.asAddr (a.tmps.getD b Go.undef)):Sem Value)).run P w=.ok f w
 | [],c,h,_,_=>by cases aq.1 (show(sx.C.ret []).H c from h);exact⟨[],.nil,by simp⟩
 | r::rs,c,h,hf,hS=>by
  obtain⟨v,j,h1⟩:=ai.1 (show(az (PY P D s φ r) (λv=>az (PZ P D s φ rs) λc=>.ret (v::c))).H c from h);obtain⟨us,g,l⟩:=ai.1 h1;cases aq.1 l;obtain⟨d,hl,y⟩:=xl i g hf hS;cases r with
  | tmp t=>
   refine⟨a.tmps.getD t Go.undef::d,.cons (hf.at_ t v (bD.1 j)) hl,?_⟩;simp_all
  | cell b t=>
   obtain⟨u,hu,m⟩:=ai.1 (show(az (cR (φ.get b)) λv=>Dp P D s t v).H v from j);obtain⟨k,o,e,p,q,n⟩:=Ae (P:=P) i m (hf.at_ b u (bD.1 hu)) hS;have x:(do loadVar t (<-Go.asAddr (a.tmps.getD b Go.undef)):Sem Value).run P w=.ok k w:=by
    grind [Go.asAddr]
   refine⟨k::d,.cons n hl,?_⟩;rw[ZdP,Zzd];simp_all
theorem ux {c:List Value} (n:(Z.results.toList.mapM λr=>(match r with
   | .tmp t=>Pure.pure (a.tmps.getD t Go.undef)
   | .cell b t=>do loadVar t (<-Go.asAddr (a.tmps.getD b Go.undef)):Sem Value)).run P w=.ok c w) {res:AV D.E} (d:Dz D res) (hl:LR M (wN D res) c):∃g,(results Z a.tmps).run P w=.ok g w/\VR M res g:=by
 have l:(Z.results.mapM λr=>(match r with
   | .tmp t=>Pure.pure (a.tmps.getD t Go.undef)
   | .cell b t=>do loadVar t (<-Go.asAddr (a.tmps.getD b Go.undef)):Sem Value)).run P w=.ok c.toArray w:=by
  rw[Array.mapM_eq_mapM_toList];simp_all
 refine⟨if h:c.toArray.size=1 then c.toArray[0] else .tuple c.toArray,?_,?_⟩
 ·unfold results;simp only[Zzd];exact(ZaR (λr:Result (Array Value)=>r.andThen λi m=>Sem.run P (Pure.pure (if h:i.size=1 then i[0] else .tuple i)) m) l).trans rfl
 ·have one:∀{v:AV D.E},LR M [v] c->VR M v (if h:c.toArray.size=1 then c.toArray[0] else .tuple c.toArray):=λh=>by
   obtain⟨g,r,rfl,h1,k⟩:=h.aM;obtain rfl:=k.jA;exact h1
  cases res<;>simp only[wN] at hl<;>(try exact one hl)
  rename_i j
  have f:j.length≠1:=by
   have:Bool.not (Nat.beq (kb j) 1):=d;rw[ia] at this;intro e;simp_all
  rw[dif_neg (by rw[Zb5,<-hl.1];exact f)];exact .DC hl
theorem QH {ha hb:List (Nat×AO D.E)}:(∀t o,cA ha t=some o->(cA hb t).isSome->d_ (stay D ha hb) t=some t)/\∀t b,d_ (stay D ha hb) t=some b->b=t:=by
 induction ha with
 | nil=>exact⟨λt o h=>(by cases(show none=some o from h)),λt b h=>(by cases(show none=some b from h))⟩
 | cons p l a=>
  grind [stay,jf,fh]
theorem ke (T:aY D) (F:P.follows .mixedOrders) (Pd:rZ P) {k:bh D} {y:k.Y} (W:P.funcs[k.f]?=some Z) (U:Z.body=some b) (V:rY P D ca) (hN:(k.args y).length<=Z.ntmps)
  (hb:J3 P D cd ca fI Z.ntmps k b Z.results.toList y) (M:Pm D) (A:Array Value) (w:World) (hl:LR M (k.args y) A.toList) (hS:ee M (λt=>cA (k.heap y) t) w) (hT:TF M k.jY) (R:Ending->World->Prop)
  (hR:∀M' u w',VR M' (k.res y) u->cU (λt=>cA (k.heap y) t) M w (λt=>cA (k.dy y) t) M' w' k.jY k.oS->R (.returned u) w'):Calls P k.f A w R:=by
 obtain⟨⟨φ,h⟩,h1,h2⟩:=gj (show(az (tc D (k.args y) 0 .nil) λφ=>az (ML D (k.heap y) .nil) λh=>.ret (φ,h)).wp _ from hb);obtain⟨x,h3,h4⟩:=ai.1 h1;obtain⟨h',h5,h6⟩:=ai.1 h4;cases aq.1 h6;have E:=xh h5;refine calls_of_wp W U ?_;have hA:F0 (λt=>cA (k.heap y) t) M w k.jY Z.ntmps ⟨h,k.jY⟩ φ M { tmps:=A++Array.replicate (Z.ntmps-A.size) Go.undef,defers:=[] } w:=
  ⟨by grind,Ax h3 hl hN,hT,by show Ye _ M w h.get M w;rw[E];exact .refl _ _ _,λt a _ e=>e,Zah _⟩
 refine Qd5 T F Pd V b _ _ _ _ h2 M _ w hA _ λe s' x M2 a2 B I g=>?_
 have fin:(bB (Bool.and (Dz D (k.res y)) (Bool.and (named D (k.heap y) (k.dy y) k.jY k.oS) (Nat.ble k.jY k.oS))) (az (PZ P D s' x Z.results.toList) λvs=>PQ D s' (stay D (k.dy y) (k.heap y)) (k.dy y) vs (wN D (k.res y)))).wp (λ_=>True)->
   a2.defers=[]/\∃v,(results Z a2.tmps).run P B=.ok v B/\R (.returned v) B:=λI=>by
  obtain⟨⟨s3,r⟩,g1,_⟩:=gj I;obtain⟨g2,g3⟩:=bA.1 g1;obtain⟨K,g4⟩:=l8 g2;obtain⟨hnm,s⟩:=l8 g4;have s:=cw.1 s;obtain⟨vs,g5,g6⟩:=ai.1 g3;obtain⟨st1,st2⟩:=QH (D:=D) (ha:=k.dy y) (hb:=k.heap y);have G:=Cc T (λt t' c e e'=>by grind) g6;obtain⟨z,i1,i2,i3,i4⟩:=G.sem M2 B g.fJ g.tf.fresh;have d:F0 (λt=>cA (k.heap y) t) M w k.jY Z.ntmps s3 x z a2 B:=g.step i1 (g.fr.mono (i1.Le g.tf.fresh));obtain⟨vs',X,L⟩:=xl T g5 g.fr g.fJ
  let O:Pm D:=⟨λt=>if k.jY<=t/\t<k.oS then(rl r z).pl t else M.pl t,z.sg⟩
  have m:∀t o,cA (k.dy y) t=some o->(∃S,cA (k.heap y) t=some S)\/(k.jY<=t/\t<k.oS):=λt o ht=>by
   rcases or2 (ec.1 hnm _ (o9 ht)) with q | q
   ·exact .inl (ZcI.1 q)
   ·grind [cw]
  have H:∀t a,(rl r z).pl t=some a->O.pl t=some a:=λt a e=>by
   show(if _ then _ else _)=_
   by_cases J:k.jY<=t/\t<k.oS
   ·grind
   ·rw[Zaa J];obtain⟨c,p,e2⟩:=f_ e;obtain⟨ot,oa,n,C,_⟩:=i4 t c p;rcases m t ot C with⟨S,Q⟩ | q
    ·have:=G.ext t t (st1 t ot C (by rw[Q];rfl));rw[p] at this;cases this;obtain⟨j,e5,_⟩:=hS.obj t S Q;exact d.per t a (hT.lt e5) e2
    ·omega
  have hle:Le (rl r z) O:=⟨H,λ_ _ _ e=>e⟩;obtain⟨u,j1,j2⟩:=ux L K ((i2 _ X).mono hle);refine⟨g.fr.defers,u,j1,hR O u B j2 ?_⟩;have i:∀t o a,cA (k.dy y) t=some o->O.pl t=some a->(rl r z).pl t=some a:=λt o a ht l=>by
   obtain⟨j,p,_⟩:=i3.obj t o ht;grind
  refine⟨⟨λt o ht=>?_,λt t' o o' a n ht N l fn=>i3.inj t t' o o' a n ht N (i t o a ht l) (i t' o' n N fn),λc o v e=>?_,λt o a ht hw l=>i3.sep t o a ht hw (i t o a ht l),λt b xs e a ht l J=>(i3.J6 t b xs e a ht (i t _ a ht l) J).mono λ_ _ _ h=>h,⟨i3.mh.1,λt o a ht hw l=>i3.mh.2 t o a ht hw (i t o a ht l)⟩⟩,
   λt ht=>Zaa ht,d.DZ.J7,d.DZ.lP,d.DZ.size,d.DZ.aO,λt o a ht l J=>?_,λt ht=>?_,d.DZ.os,d.DZ.tape,d.DZ.output,s⟩
  ·obtain⟨j,p,e2⟩:=i3.obj t o ht;exact⟨j,H t j p,e2.mono hle λ_=>rfl⟩
  ·obtain⟨hp,u,U,hv⟩:=i3.gR c o v e;exact⟨hp,u,U,hv.mono hle⟩
  ·obtain⟨c,p,e2⟩:=f_ (i t o a ht l);obtain⟨ot,oa,n,C,Q,e5,e6,_⟩:=i4 t c p;rw[show cA (k.dy y) t=some o from ht] at C;cases C;rcases d.DZ.born c oa a Q e2 J with e7 | ⟨b0,S,j,q1,q2,q3,q4,q5⟩
   ·omega
   ·grind
  ·obtain⟨o,ho⟩:=Zbs.1 ht;grind
 cases e with
 | normal=>exact fin I
 | ret=>exact fin I
 | exit id=>exact(I:False).elim
def Qg1 (i:aY D) (c:P.follows .mixedOrders) (e:rZ P) {k:bh D} (a:P.funcs[k.f]?=some Z) (h:Z.body=some b) (d:rY P D ca) (g:k.Y->cH D) (j:∀y,(k.args y).length<=Z.ntmps)
  (o:∀y,k.pre y->J3 P D cd ca (g y) Z.ntmps k b Z.results.toList y):DW P D k:=
 ⟨⟨Z,b,a,h⟩,λy p M A w hl m n R l=>ke i c e a h d (j y) (o y p) M A w hl m n R l⟩
def bh.under (k:bh D) (me:k.Y->Nat) (n:Nat):bh D:={ k with pre:=λy=>k.pre y/\me y<n }
end
end sx
namespace cls
open Go Go.RowKit
theorem getD_eq {α:Type} {l:List α} {i:Nat} (h:i<l.length) (d:α):l[i]?=some (l.getD i d):=by
 grind
theorem fA {α β:Type} (f:α->List β) (n:Nat) (h:∀x,(f x).length<=n) (l:List α):(l.flatMap f).length<=l.length*n:=by
 induction l with
 | nil=>simp
 | cons x t a=>simp only[Zbt,Zab,Zae];have:=h x;rw[ZaV];omega
abbrev Rg:=Int×Int
variable {l s b:List Rg} {m:List Int} {p:Rg} {y Z:Int} {k:Nat} {c:Int->Bool}
def bk (l:List Rg) (r:Int):Bool:=l.any λx=>decide (x.1<=r)&&decide (r<=x.2)
theorem QI (h:l[k]?=some p) (r:Int):bk (l.drop k) r=((decide (p.1<=r)&&decide (r<=p.2))||bk (l.drop (k+1)) r):=by
 have a:k<l.length:=by
  grind
 rw[Zaq a];rw[Zaf a] at h;cases h;rfl
def fD (r:Int):Bool:=decide (0<=r)&&decide (r<=1114111)&&(decide (r<55296)||decide (57343<r))
def clip (r p:Rg):List Rg:=if max r.1 p.1<=min r.2 p.2 then[(max r.1 p.1,min r.2 p.2)] else[]
def parts:List Rg:=[(0,55295),(57344,1114111)]
def eg (r:Rg):List Rg:=parts.flatMap (clip (max r.1 0,min r.2 1114111))
theorem D4 (r p:Rg):(clip r p).length<=1:=by grind [clip]
def tq (r:Rg):(eg r).length<=2:=fA _ 1 (D4 _) parts
def cg (out:List Rg) (r:Rg):List Rg:=
 match out.getLast? with
 | some p=>if r.1<=p.2+1 then out.dropLast++[(p.1,max p.2 r.2)] else out++[r]
 | none=>[r]
def iL (l:List Rg):List Rg:=l.foldl cg []
def F3 (r:Rg):Prop:=0<=r.1/\r.1<=r.2/\r.2<=1114111
theorem QJ (x:Rg):∀r∈eg x,F3 r:=by
 intro r a;simp only[eg,ZbG] at a;grind [clip,F3]
theorem Cf (h:∀r∈l,F3 r) (d:F3 p):∀r∈cg l p,F3 r:=by
 intro r a;unfold cg at a;split at a
 ·rename_i q b
  have c:q∈l:=List.mem_of_getLast? b;grind [List.dropLast_sublist,F3]
 ·grind
theorem zx (out:List Rg) (r:Rg):(cg out r).length<=out.length+1:=by
 grind [cg]
theorem D5 (h:l[k]?=some p):iL (l.take (k+1))=cg (iL (l.take k)) p:=by
 grind [iL,List.take_add_one]
theorem M6 (h:∀p∈l,F3 p):∀p∈iL l,F3 p:=by
 have gen:∀(l out:List Rg),(∀p∈l,F3 p)->(∀p∈out,F3 p)->∀p∈l.foldl cg out,F3 p:=by
  intro l
  induction l with
  | nil=>intro out _ h;exact h
  | cons x t b=>intro out hs a;exact b _ (λp c=>hs p (by grind)) (Cf a (hs x (by simp)))
 exact gen l [] h (by simp)
theorem xm (s:List Rg):(iL s).length<=s.length:=by
 have gen:∀(s out:List Rg),(s.foldl cg out).length<=out.length+s.length:=by
  intro s
  induction s with
  | nil=>intro out;simp
  | cons x t a=>intro out;have:=a (cg out x);have:=zx out x;simp only[Zb2,Zae];omega
 grind [iL]
def uy (p:Rg):Prop:=0<=p.1/\p.1<=p.2/\p.2<=1114111/\(p.2<55296\/57343<p.1)
def Good (l:List Rg):Prop:=(∀p∈l,uy p)/\l.Pairwise (λp q=>p.2+1<q.1)
theorem r_ (l:List Rg) (r:Int):bk l r↔∃p∈l,p.1<=r/\r<=p.2:=by
 grind [bk]
theorem jD (p:Rg) (l:List Rg) (r:Int):bk (p::l) r=((decide (p.1<=r)&&decide (r<=p.2))||bk l r):=rfl
theorem xn (l m:List Rg) (r:Int):bk (l++m) r=(bk l r||bk m r):=by simp[bk]
theorem QK (h:l.Perm s) (r:Int):bk l r=bk s r:=by
 grind [r_]
theorem gI (r:Int):fD r↔0<=r/\r<=1114111/\(r<55296\/57343<r):=by
 simp[fD];omega
theorem tr (h:Good (p::l)):Good l:=⟨λq a=>h.1 q (by grind),(ZcJ.1 h.2).2⟩
def o_ (h:Good (p::l)) (b:bk l y):p.2+1<y:=by
 have⟨q,a,h1,c⟩:=(r_ _ _).1 b;have:=(ZcJ.1 h.2).1 q a;omega
theorem xp (h:Good (p::l)) (a:bk (p::l) y):p.1<=y:=by
 rw[jD,ZbM] at a;rcases a with a | a
 ·grind
 ·have:=o_ h a;have:=h.1 p (by simp);grind [uy]
theorem qb:∀{l m:List Rg},Good l->Good m->(∀r,bk l r=bk m r)->l=m
 | [],[],_,_,_=>rfl
 | [],q::u,_,hm,h=>by
  have:=h q.1;have k:=hm.1 q (by simp);grind [uy,bk]
 | p::t,[],hl,_,h=>by
  have:=h p.1;have k:=hl.1 p (by simp);grind [uy,bk]
 | p::t,q::u,hl,hm,h=>by
  have ip:=hl.1 p (by simp);have n:=hm.1 q (by simp);unfold uy at ip n;have oM:∀r,p.1<=r->r<=p.2->bk (p::t) r:=λr a b=>by grind [jD]
  have c:∀r,q.1<=r->r<=q.2->bk (q::u) r:=λr a b=>by grind [jD]
  have e:p.1=q.1:=by
   have a:=xp hm ((h p.1).symm.trans (oM p.1 ω ω));have b:=xp hl ((h q.1).trans (c q.1 ω ω));omega
  have e2:p.2=q.2:=by
   rcases Int.lt_trichotomy p.2 q.2 with d | j | d
   ·have a:=(h (p.2+1)).trans (c (p.2+1) ω ω);rw[jD,ZbM] at a;rcases a with a | a
    ·grind
    ·have:=o_ hl a;omega
   ·exact j
   ·have a:=(h (q.2+1)).symm.trans (oM (q.2+1) ω ω);rw[jD,ZbM] at a;rcases a with a | a
    ·grind
    ·have:=o_ hm a;omega
  have f:p=q:=ZdT e e2;congr 1;refine qb (tr hl) (tr hm) λr=>?_
  by_cases o:p.1<=r/\r<=p.2
  ·have g:bk t r=false:=by
    rcases ht:bk t r with _ | _
    ·rfl
    ·have:=o_ hl ht;omega
   have i:bk u r=false:=by
    rcases ht:bk u r with _ | _
    ·rfl
    ·have:=o_ hm ht;omega
   rw[g,i]
  ·have:=h r;grind [jD]
theorem xq (h:Good l) (f:uy p) (b:∀r∈l,r.1<=p.1):Good (cg l p)/\(∀r∈cg l p,r.1<=p.1)/\∀x,bk (cg l p) x=(bk l x||(decide (p.1<=x)&&decide (x<=p.2))):=by
 rcases Zcu l with rfl | ⟨d,r,rfl⟩
 ·refine⟨⟨?_,by simp[cg]⟩,?_,λx=>?_⟩
  ·grind [cg]
  ·grind [cg]
  ·simp[cg,bk]
 ·rw[Zcv] at*
  have c:cg (d++[r]) p=if p.1<=r.2+1 then d++[(r.1,max r.2 p.2)] else d++[r]++[p]:=by simp[cg]
  have ip:=h.1 r (by simp);have g:=ZbC.1 h.2;rw[c];by_cases e:p.1<=r.2+1
  ·rw[Zac e];refine⟨⟨λq a=>?_,?_⟩,λq a=>?_,λx=>?_⟩
   ·rcases Zax.1 a with a | a
    ·exact h.1 q (by simp[a])
    ·grind [uy]
   ·grind
   ·grind
   ·grind [bk]
  ·rw[Zaa e];refine⟨⟨λq a=>?_,?_⟩,λq a=>?_,λx=>?_⟩
   ·rcases Zax.1 a with a | a
    ·exact h.1 q a
    ·simp at a;subst a;exact f
   ·grind
   ·grind
   ·grind [bk]
theorem D6 (hs:∀p∈l,uy p) (c:l.Pairwise (λa b=>a.1<=b.1)):Good (iL l)/\∀x,bk (iL l) x=bk l x:=by
 have gen:∀(l out:List Rg),(∀p∈l,uy p)->l.Pairwise (λa b=>a.1<=b.1)->Good out->(∀p∈out,∀x∈l,p.1<=x.1)->Good (l.foldl cg out)/\∀x,bk (l.foldl cg out) x=(bk out x||bk l x):=by
  intro l
  induction l with
  | nil=>intro out _ _ h _;exact⟨h,λx=>by simp[bk]⟩
  | cons r t i=>
   intro out hs c f hl;have⟨g1,g2,g3⟩:=xq f (hs r (by simp)) (λp d=>hl p d r (by simp));have e:=ZcJ.1 c;have⟨k1,k2⟩:=i _ (λp d=>hs p (by simp[d])) e.2 g1 (λp d x g=>Int.le_trans (g2 p d) (e.1 x g));grind [jD]
 have:=gen l [] hs c ⟨by simp,by simp⟩ (by simp);assumption
theorem M7 (x:Rg):∀r∈eg x,uy r:=by
 intro r a;simp only[eg,ZbG] at a;grind [clip,parts,uy]
theorem QM (x p:Rg) (r:Int):bk (clip x p) r=(decide (x.1<=r)&&decide (r<=x.2)&&(decide (p.1<=r)&&decide (r<=p.2))):=by
 grind [clip,bk]
theorem M8 (x:Rg) (r:Int):bk (eg x) r=(fD r&&(decide (x.1<=r)&&decide (r<=x.2))):=by
 simp only[eg,parts,Zbt,List.flatMap_nil,Zaw,xn,QM];grind [fD]
theorem QN (l:List Rg) (r:Int):bk (l.flatMap eg) r=(fD r&&bk l r):=by
 induction l with
 | nil=>simp[bk]
 | cons x t a=>
  grind [xn,M8,jD]
def xr (l m:List Rg):Prop:=Good m/\(∀r,bk m r=(fD r&&bk l r))/\m.length<=2*l.length
theorem D7 (e:s.Perm (l.flatMap eg)) (d:s.Pairwise (λa b=>a.1<=b.1)):xr l (iL s):=by
 have c:∀p∈s,uy p:=λp h=>by
  grind [M7]
 have⟨g,f⟩:=D6 c d;refine⟨g,λr=>?_,?_⟩
 ·rw[f,QK e,QN]
 ·have h1:=xm s;have i:=e.length_eq;have j:=fA eg 2 tq l;omega
def GJ (h:xr l s) (a:xr l b):s=b:=qb h.1 a.1 λr=>by rw[h.2.1,a.2.1]
def Qg2 (a b:Rg):Bool:=decide (a.1<=b.1)
def aU (l:List Rg):List Rg:=iL ((l.flatMap eg).mergeSort Qg2)
theorem dW (l:List Rg):xr l (aU l):=by
 refine D7 (List.mergeSort_perm _ _) ?_;grind [List.pairwise_mergeSort,Qg2]
def QO (h:xr l s):s=aU l:=GJ h (dW l)
def iv (nx:Int):List Rg->List Rg
 | []=>[(nx,1114111)]
 | p::t=>(nx,p.1-1)::iv (p.2+1) t
theorem Ay (nx:Int) (m:List Rg):(iv nx m).length=m.length+1:=by induction m generalizing nx<;>simp_all [iv]
theorem Az:∀(m:List Rg) (nx:Int),Good m->(∀p∈m,nx<=p.1)->∀r,r<=1114111->bk (iv nx m) r=(decide (nx<=r)&&!bk m r)
 | [],nx,_,_,r,a=>by simp[iv,bk,a]
 | p::t,nx,hg,hn,r,a=>by
  have ip:=hg.1 p (by simp);unfold uy at ip;have d:=ZcJ.1 hg.2;have c:=Az t (p.2+1) (tr hg) (λq b=>by grind) r a;grind [iv,bk]
theorem QP (h:fD y):y<=1114111/\0<=y:=by
 grind [gI]
def Qg3 (l n:List Rg):Prop:=Good n/\(∀r,bk n r=(fD r&&!bk l r))/\n.length<=4*l.length+2
theorem Yg (a:xr l s) (n:xr (iv 0 s) b):Qg3 l b:=by
 refine⟨n.1,λr=>?_,?_⟩
 ·rw[n.2.1];rcases c:fD r with _ | _
  ·rfl
  ·have:=QP c;rw[Az s 0 a.1 (λp d=>(a.1.1 p d).1) r this.1,a.2.1,c];simp[this.2]
 ·have h1:=n.2.2;have e:=a.2.2;grind [Ay]
def cr (l:List Rg) (lo hi:Int):List Rg:=
 match l.getLast? with
 | some r=>if r.2+1=lo then l.dropLast++[(r.1,hi)] else l++[(lo,hi)]
 | none=>[(lo,hi)]
def swap (m:List Int) (j:Nat):List Int:=(m.set j (m.getD (j+1) 0)).set (j+1) (m.getD j 0)
theorem D8 (m:List Int) (j:Nat):(swap m j).length=m.length:=by simp[swap]
theorem D9 (m:List Int) (j i:Nat) (h:j+1<m.length):(swap m j).getD i 0=if i=j+1 then m.getD j 0 else if i=j then m.getD (j+1) 0 else m.getD i 0:=by
 grind [swap]
theorem swap_perm (m:List Int) (j:Nat) (h:j+1<m.length):(swap m j).Perm m:=by
 grind [swap]
def pb (m:List Int) (k i:Nat):Prop:=∀a b,a<b->b<=i->b≠k->m.getD a 0<=m.getD b 0
def D' (m:List Int) (i:Nat):Prop:=∀a b,a<b->b<i->m.getD a 0<=m.getD b 0
theorem Cg (h:D' m k):pb m k k:=λa b h1 c d=>h a b h1 ω
theorem D_ {i:Nat} (h:pb m (k+1) i) (hi:i<m.length) (l:k+1<=i) (j:m.getD (k+1) 0<m.getD k 0):pb (swap m k) k i:=by
 intro a b h1 f g;rw[D9 m k a ω,D9 m k b ω];by_cases d:b=k+1
 ·subst d;rw[Zac rfl,Zaa ω];by_cases e:a=k
  ·omega
  ·rw[Zaa e];exact h a k ω ω ω
 ·rw[Zaa d,Zaa g];by_cases e:a=k+1
  ·rw[Zac e];exact h k b ω f d
  ·rw[Zaa e];by_cases c:a=k
   ·rw[Zac c];exact h (k+1) b ω f d
   ·rw[Zaa c];exact h a b h1 f d
theorem GK {i:Nat} (h:pb m k i) (hk:k=0\/m.getD (k-1) 0<=m.getD k 0):D' m (i+1):=by
 intro a b h1 d;by_cases c:b=k
 ·subst c;rcases hk with rfl | hk
  ·omega
  ·by_cases e:a=b-1
   ·grind
   ·have:=h a (b-1) ω ω ω;omega
 ·exact h a b h1 ω c
theorem QQ (h:D' m m.length):m.Pairwise (· <= ·):=by
 rw[ZbD];intro i j hi b a;have:=h i j a b;grind
def m1 (x:Rg):Bool:=decide (x.1<=x.2)&&decide (0<=x.1)&&decide (x.1<=1114111)
def m2 (x:Rg):Bool:=decide (x.1<=x.2)&&decide (0<=x.2)&&decide (x.2<1114111)
def lT (x:Rg):List Int:=(if m1 x then[x.1] else[])++(if m2 x then[x.2+1] else[])
def c_ (l:List Rg):List Int:=[0,55296,57344,1114112]++l.flatMap lT
theorem tt (x:Rg):(lT x).length<=2:=by grind [lT]
def QR (c:Int->Bool) (m:List Int) (k:Nat):Bool:=decide (m.getD k 0<m.getD (k+1) 0)&&(decide (m.getD k 0<55296)||decide (57343<m.getD k 0))&&c (m.getD k 0)
def Ch (c:Int->Bool) (m:List Int) (out:List Rg) (k:Nat):List Rg:=if QR c m k then cr out (m.getD k 0) (m.getD (k+1) 0-1) else out
def dJ (c:Int->Bool) (m:List Int):Nat->List Rg
 | 0=>[]
 | k+1=>Ch c m (dJ c m k) k
theorem GL (l:List Rg) (lo hi:Int):(cr l lo hi).length<=l.length+1:=by
 grind [cr]
theorem QT (c:Int->Bool) (m:List Int) (k:Nat):(dJ c m k).length<=k:=by
 induction k with
 | zero=>simp[dJ]
 | succ k a=>
  grind [GL,dJ,Ch]
theorem M9 (h:∀r∈l,-10<=r.2/\r.2<=1114111) (a: -10<=Z/\Z<=1114111):∀r∈cr l y Z,-10<=r.2/\r.2<=1114111:=by
 grind [cr,List.dropLast_sublist]
theorem Yh (a:∀x∈m,0<=x/\x<=1114112):∀k,k+1<=m.length->∀r∈dJ c m k,-10<=r.2/\r.2<=1114111:=by
 intro k
 induction k with
 | zero=>intro _ r b;simp[dJ] at b
 | succ k e=>
  intro hk;simp only[dJ,Ch];split
  ·have d:m.getD (k+1) 0∈m:=ZaJ (getD_eq (show k+1<m.length by omega) 0);have:=a _ d;exact M9 (e ω) ω
  ·grind
theorem mB:∀x∈c_ l,0<=x/\x<=1114112:=by
 intro x a;simp only[c_,Zax,ZbG] at a;rcases a with a | ⟨y,_,a⟩
 ·grind
 ·rcases Zax.1 a with a | a
  ·split at a
   ·rename_i h;simp[m1] at h;simp at a;omega
   ·simp at a
  ·split at a
   ·rename_i h;simp[m2] at h;simp at a;omega
   ·simp at a
theorem adj (h:m.Pairwise (· <= ·)) (hk:k+1<m.length) (a:y∈m):y<=m.getD k 0\/m.getD (k+1) 0<=y:=by
 grind [List.getElem_of_mem,List.pairwise_iff_getElem]
theorem Ea {lo hi:Int} (h:Good l) (c:uy (lo,hi)) (f:∀p∈l,p.2<lo):
  Good (cr l lo hi)/\(∀p∈cr l lo hi,p.2<=hi)/\∀r,bk (cr l lo hi) r=(bk l r||(decide (lo<=r)&&decide (r<=hi))):=by
 unfold uy at c;rcases Zcu l with rfl | ⟨e,p,rfl⟩
 ·refine⟨⟨λq b=>?_,by simp[cr]⟩,λq b=>?_,λr=>?_⟩
  ·simp[cr] at b;subst b;exact c
  ·grind [cr]
  ·simp[cr,bk]
 ·rw[Zcv] at*
  have d:cr (e++[p]) lo hi=if p.2+1=lo then e++[(p.1,hi)] else e++[p]++[(lo,hi)]:=by simp[cr]
  have ip:=h.1 p (by simp);have g:=ZbC.1 h.2;unfold uy at ip;rw[d];by_cases b:p.2+1=lo
  ·rw[Zac b];refine⟨⟨λq a=>?_,?_⟩,λq a=>?_,λr=>?_⟩
   ·rcases Zax.1 a with a | a
    ·exact h.1 q (by simp[a])
    ·grind [uy]
   ·grind
   ·grind
   ·grind [bk]
  ·rw[Zaa b];refine⟨⟨λq a=>?_,?_⟩,λq a=>?_,λr=>?_⟩
   ·rcases Zax.1 a with a | a
    ·exact h.1 q a
    ·simp at a;subst a;exact c
   ·grind
   ·grind
   ·grind [bk]
def Ko (c:Int->Bool) (m:List Int):Prop:=∀k,k+1<m.length->∀r,m.getD k 0<=r->r<m.getD (k+1) 0->c r=c (m.getD k 0)
theorem AA (d:m.Perm (c_ l)) (e:m.Pairwise (· <= ·)):Ko (λr=>bk l r) m:=by
 intro k hk r h1 h;have g:=mB _ (d.mem_iff.1 (ZaJ (getD_eq (show k<m.length by omega) 0)));have b1:=mB _ (d.mem_iff.1 (ZaJ (getD_eq hk 0)));have mk:∀x∈l,∀y∈lT x,y<=m.getD k 0\/m.getD (k+1) 0<=y:=λx a y i=>
  adj e hk (d.mem_iff.2 (by grind [c_]))
 generalize m.getD k 0=A at*
 rw[ZaG,r_,r_];constructor
 ·rintro⟨x,a,f,e2⟩;refine⟨x,a,?_,ω⟩;rcases(show A<x.1\/x.1<=A by omega) with b | b
  ·have c:m1 x:=by simp[m1];omega
   have:=mk x a x.1 (by simp[lT,c]);omega
  ·exact b
 ·rintro⟨x,a,f,e2⟩;refine⟨x,a,ω,?_⟩;rcases(show x.2<r\/r<=x.2 by omega) with b | b
  ·have c:m2 x:=by simp[m2];omega
   have:=mk x a (x.2+1) (by simp[lT,c]);omega
  ·exact b
theorem QU (i1:Good l) (i2:∀p∈l,p.2<y) (i3:∀r,bk l r=(decide (r<y)&&(fD r&&c r))) (e:0<=y/\y<=1114112) (f:0<=Z/\Z<=1114112) (hle:y<=Z)
  (d:55296<=y\/Z<=55296) (a2:57344<=y\/Z<=57344) (b:∀r,y<=r->r<Z->c r=c y):
  Good (if (decide (y<Z)&&(decide (y<55296)||decide (57343<y))&&c y)=true then cr l y (Z-1) else l)/\
  (∀p∈(if (decide (y<Z)&&(decide (y<55296)||decide (57343<y))&&c y)=true then cr l y (Z-1) else l),p.2<Z)/\
  ∀r,bk (if (decide (y<Z)&&(decide (y<55296)||decide (57343<y))&&c y)=true then cr l y (Z-1) else l) r=(decide (r<Z)&&(fD r&&c r)):=by
 by_cases a:(decide (y<Z)&&(decide (y<55296)||decide (57343<y))&&c y)
 ·rw[Zac a];have⟨g1,g2,g3⟩:=Ea (lo:=y) (hi:=Z-1) i1 (by grind [uy]) i2;grind [gI]
 ·grind [gI]
theorem M_ (e:m.Perm (c_ l)) (a:m.Pairwise (· <= ·)) (j:Ko c m):
  ∀k,k+1<=m.length->Good (dJ c m k)/\(∀p∈dJ c m k,p.2<m.getD k 0)/\∀r,bk (dJ c m k) r=(decide (r<m.getD k 0)&&(fD r&&c r)):=by
 have mem:∀y∈[0,55296,57344,1114112],(y:Int)∈m:=λy q=>e.mem_iff.2 (by grind [c_])
 have d:∀k,k<m.length->0<=m.getD k 0/\m.getD k 0<=1114112:=λk hk=>mB _ (e.mem_iff.1 (ZaJ (getD_eq hk 0)))
 intro k
 induction k with
 | zero=>
  intro hk;have h0:m.getD 0 0=0:=by
   have⟨i,hi,o⟩:=Za3 (mem 0 (by simp));grind [List.pairwise_iff_getElem]
  refine⟨⟨by simp[dJ],by simp[dJ]⟩,by simp[dJ],λr=>?_⟩;grind [dJ,bk,gI]
 | succ k n=>
  intro hk;have⟨i1,i2,i3⟩:=n ω;have g:=d k ω;have h:=d (k+1) ω;have hle:m.getD k 0<=m.getD (k+1) 0:=by
   grind [List.pairwise_iff_getElem]
  have f:=adj a (show k+1<m.length by omega) (mem 55296 (by simp));have a2:=adj a (show k+1<m.length by omega) (mem 57344 (by simp));have b:=j k ω;exact QU i1 i2 i3 g h hle f a2 b
theorem Eb (a:m.Perm (c_ l)) (e:m.Pairwise (· <= ·)) (f:Ko c m):
  Good (dJ c m (m.length-1))/\∀r,bk (dJ c m (m.length-1)) r=(fD r&&c r):=by
 have hl:1<=m.length:=by have:=a.length_eq;simp[c_] at this;omega
 have⟨g1,_,g3⟩:=M_ a e f (m.length-1) ω;have mem:(1114112:Int)∈m:=a.mem_iff.2 (by simp[c_]);have d:m.getD (m.length-1) 0=1114112:=by
  have b:=mB _ (a.mem_iff.1 (ZaJ (getD_eq (show m.length-1<m.length by omega) 0)));grind [List.getElem_of_mem,List.pairwise_iff_getElem]
 grind [gI]
def lH (l:List Rg):List Rg:=aU (iv 0 (aU l))
def AB (l:List Rg):Qg3 l (lH l):=Yg (dW l) (dW _)
theorem Ec (a:Good s) (h:∀r,bk s r=(fD r&&bk l r)):aU l=s:=qb (dW l).1 a λr=>by rw[(dW l).2.1,h]
theorem Yi (a:Good s) (h:∀r,bk s r=(fD r&&!bk l r)):lH l=s:=qb (AB l).1 a λr=>by rw[(AB l).2.1,h]
end cls
namespace syn
open Go Go.RowKit cls
def xt {α:Type} {l:List α} {i:Nat} {x:α} (h:l[i]?=some x):i<l.length:=(Zam.1 h).1
structure Nd where
 op:Int
 r:List Rg
 mn:Int
 mx:Int
 lz:Bool
 cap:Int
 ae:Int
def Nd.tup (x:Nd):Int×List Rg×Int×Int×Bool×Int×Int:=(x.op,x.r,x.mn,x.mx,x.lz,x.cap,x.ae)
theorem Nd.Yj {x y:Nd} (h:x.tup=y.tup):x=y:=by
 cases x;cases y;grind [Nd.tup]
instance:DecidableEq Nd:=λa b=>decidable_of_iff (a.tup=b.tup) ⟨Nd.Yj,λh=>by rw[h]⟩
def nd (op:Int):Nd:=⟨op,[],0,0,false,0,0⟩
def xu (l:List Rg):Nd:={ nd 2 with r:=l }
abbrev Gt:=Int×Int
structure Ps where
 i:Nat
 ak:Nat
 ab:Nat
 an:Int
 wh:Int
section
variable (G:List Gt)
def aI (i:Nat):Int:=((G.take i).map (·.2)).sum
def Ps.ax (s:Ps) (i:Nat) (e:Int):Ps:=if s.an=0 then { s with an:=e,wh:=aI G i } else s
def bb (s:Ps) (r:Int):Bool:=match G[s.i]? with
 | some g=>g.1==r
 | none=>false
def Ps.next (s:Ps):Ps:={ s with i:=s.i+1 }
def bp (s:Ps) (r:Int):Ps:=if bb G s r then s.next else s
def fi (i:Nat):Bool:=match G[i]? with
 | some g=>g.1==65533&&g.2==1
 | none=>false
def aK (i:Nat):Int:=(G.getD i (0,0)).1
def bW (op:Int):List (List Nd)->List Nd
 | []=>[nd 1]
 | [x]=>x
 | a=>{ nd op with ae:=a.length }::a.flatten
def Yk:List Rg:=lH [(10,10)]
def ew (r:Int):List Rg:=aU [(r,r)]
def iw (r:Int):Bool:=decide (33<=r)&&decide (r<=47)||decide (58<=r)&&decide (r<=64)||decide (91<=r)&&decide (r<=96)||decide (123<=r)&&decide (r<=126)
def mC (s:Ps) (a:Nat) (r:Int):Ps×List Rg×Bool:=
 if r=110 then(s,ew 10,true)
 else if r=116 then(s,ew 9,true)
 else if r=114 then(s,ew 13,true)
 else if r=100 then(s,aU [(48,57)],false)
 else if r=115 then(s,aU [(9,10),(13,13),(32,32)],false)
 else if r=119 then(s,aU [(48,57),(65,90),(95,95),(97,122)],false)
 else if iw r then(s,ew r,true)
 else(s.ax G a 4,[],false)
def eh (s:Ps):Ps×List Rg×Bool:=
 let t:=s.next
 if G.length<=t.i then(t.ax G s.i 4,[],false)
 else if fi G t.i then(t.ax G t.i 4,[],false)
 else mC G t.next s.i (aK G t.i)
def b5 (s:Ps):Ps×List Rg×Bool:=
 if fi G s.i then(s.ax G s.i 4,[],false)
 else
  let r:=aK G s.i
  if r=92 then eh G s
  else if r=91\/r=93\/r=45 then(s,[],false)
  else(s.next,[(r,r)],true)
def o7 (l:List Rg):Int:=(l.getD 0 (0,0)).1
def j3 (a:List Rg) (one:Bool) (c:Nat) (s:Ps):Ps×List Rg:=
 let b:=if s.i<G.length then b5 G s else(s,[],false)
 let t:=if b.1.an=0/\(one=false\/b.2.2=false\/o7 b.2.1<o7 a) then b.1.ax G c 4 else b.1
 if t.an=0 then(t,[(o7 a,o7 b.2.1)]) else(t,[])
def ei (s:Ps):Ps×List Rg:=
 let a:=b5 G s
 if a.1.an≠0 then(a.1,[])
 else if a.2.1=[] then(a.1.ax G s.i 4,[])
 else if bb G a.1 45 then j3 G a.2.1 a.2.2 s.i a.1.next
 else(a.1,a.2.1)
def dX (a:Nat):Nat->Ps->List Rg->Bool->Ps×List Rg×Bool×Bool
 | 0,s,l,none_=>(s,l,none_,false)
 | n+1,s,l,none_=>
  if s.an=0/\bb G s 93=false then
   if G.length<=s.i then(s.ax G a 4,l,none_,true)
   else dX a n (ei G s).1 (l++(ei G s).2) false
  else(s,l,none_,false)
def sd (s:Ps):Ps×List Nd:=
 let neg:=bb G s.next 94
 let t:=bp G s.next 94
 let c:=dX G s.i (G.length+2-t.i) t [] true
 if c.2.2.2 then(c.1,[])
 else if c.1.an≠0 then(c.1,[])
 else if c.2.2.1 then(c.1.ax G s.i 4,[])
 else(c.1.next,[xu (if neg then lH (aU c.2.1) else aU c.2.1)])
def ct:Nat->Nat->List UInt8->Nat×List UInt8
 | 0,i,b=>(i,b)
 | n+1,i,b=>if i<G.length/\48<=aK G i/\aK G i<=57 then
   ct n (i+1) (if 48<aK G i\/b≠[] then b++[UInt8.ofNat (aK G i).toNat] else b) else(i,b)
def dv (s:Ps):Ps:={ s with i:=(ct G (G.length-s.i) s.i []).1 }
def gU (s:Ps):List UInt8:=(ct G (G.length-s.i) s.i []).2
def gJ (s:Ps):Bool:=decide (s.i<(ct G (G.length-s.i) s.i []).1)
end
def iy (a b:List UInt8):Bool:=decide (a.length<b.length)||(a.length==b.length&&Op.bytesLess a b)
def hI (l:List UInt8):Int:=l.foldl (λn c=>10*n+((c.toNat:Int) -48)) 0
def eF (l:List UInt8):Int×Bool:=if 2<l.length then(0,false) else(hI l,decide (hI l<=30))
section
variable (G:List Gt)
def nK (a:Nat) (s:Ps) (m n:List UInt8) (ok en:Bool):Ps×Int×Int:=
 if ok=false then(s.ax G a 4,0,0)
 else if bb G s 125=false then(s.ax G a 4,0,0)
 else if en=false/\iy n m=true then(s.next.ax G a 4,0,0)
 else
  let lo:=eF m
  let hi:=eF (if en then[] else n)
  if lo.2=false\/hi.2=false then(s.next.ax G a 2,0,0)
  else(s.next,lo.1,if en then-1 else hi.1)
def gv (s:Ps):Ps×Int×Int:=
 let t:=dv G s.next
 let m:=gU G s.next
 let ok:=gJ G s.next
 if ok/\bb G t 44 then nK G s.i (dv G t.next) m (gU G t.next) ok (!gJ G t.next)
 else nK G s.i t m m ok false
def ig (aH:Ps->Ps×List Nd) (s:Ps):Ps×List Nd:=
 let free:=bb G s.next 63
 let c:=if free then s.next.next else s.next
 if free/\bb G c 58=false then(c.ax G s.i 4,[])
 else
  let s3:=if free then c.next else c
  if 20<=s3.ak then(s3.ax G s.i 10,[])
  else if free=false/\4<=s3.ab then(s3.ax G s.i 13,[])
  else
   let d:Ps:=if free then s3 else { s3 with ab:=s3.ab+1 }
   let a:=aH { d with ak:=d.ak+1 }
   let b:Ps:={ a.1 with ak:=a.1.ak-1 }
   if b.an=0/\bb G b 41=false then(b.ax G s.i 4,[])
   else
    let e:Ps:=if b.an=0 then b.next else b
    if free then(e,a.2) else(e,{ nd 6 with cap:=d.ab,ae:=1 }::a.2)
def jb (aH:Ps->Ps×List Nd) (s:Ps):Ps×List Nd:=
 if fi G s.i then(s.ax G s.i 4,[])
 else
  let r:=aK G s.i
  if r=40 then ig G aH s
  else if r=91 then sd G s
  else if r=92 then((eh G s).1,[xu (eh G s).2.1])
  else if r=46 then(s.next,[xu Yk])
  else if r=94 then(s.next,[nd 7])
  else if r=36 then(s.next,[nd 8])
  else if r=42\/r=43\/r=63\/r=41\/r=93\/r=123\/r=125\/r=124 then(s.ax G s.i 4,[])
  else(s.next,[xu (ew r)])
def nL (s:Ps) (mn mx:Int) (x:List Nd):Ps×List Nd:=
 if s.an≠0 then(s,[])
 else(bp G s 63,{ nd 5 with mn:=mn,mx:=mx,lz:=bb G s 63,ae:=1 }::x)
def fv (aH:Ps->Ps×List Nd) (s:Ps):Ps×List Nd:=
 let a:=jb G aH s
 if a.1.an≠0 then(a.1,[])
 else if bb G a.1 42 then nL G a.1.next 0 (-1) a.2
 else if bb G a.1 43 then nL G a.1.next 1 (-1) a.2
 else if bb G a.1 63 then nL G a.1.next 0 1 a.2
 else if bb G a.1 123 then nL G (gv G a.1).1 (gv G a.1).2.1 (gv G a.1).2.2 a.2
 else a
def eI (aH:Ps->Ps×List Nd):Nat->Ps->List (List Nd)->Ps×List (List Nd)
 | 0,s,a=>(s,a)
 | n+1,s,a=>
  if s.an=0/\s.i<G.length/\bb G s 124=false/\¬(bb G s 41/\0<s.ak) then eI aH n (fv G aH s).1 (a++[(fv G aH s).2])
  else(s,a)
def mD (aH:Ps->Ps×List Nd) (s:Ps):Ps×List Nd:=
 let c:=eI G aH (G.length+2-s.i) s []
 (c.1,bW 3 c.2)
def gx (aH:Ps->Ps×List Nd):Nat->Ps->List (List Nd)->Ps×List (List Nd)
 | 0,s,a=>(s,a)
 | n+1,s,a=>
  if s.an=0/\bb G s 124=true then gx aH n (mD G aH s.next).1 (a++[(mD G aH s.next).2])
  else(s,a)
def Ed (aH:Ps->Ps×List Nd) (s:Ps):Ps×List Nd:=
 let c:=mD G aH s
 let d:=gx G aH (G.length+2-c.1.i) c.1 [c.2]
 (d.1,bW 4 d.2)
def qZ:Nat->Ps->Ps×List Nd
 | 0,s=>(s,[])
 | n+1,s=>Ed G (qZ n) s
def Pe:Ps:=⟨0,0,0,0,0⟩
def xw:List Nd×Int×Int:=
 let a:=qZ G 21 Pe
 let s:=if a.1.an=0/\a.1.i<G.length then a.1.ax G a.1.i 4 else a.1
 if s.an≠0 then([],s.an,s.wh) else(a.2,0,0)
end
section
variable {G:List Gt}
@[simp] theorem Yl (s:Ps) (k:Nat) (e:Int):(s.ax G k e).i=s.i:=by grind [Ps.ax]
@[simp] theorem QbM (s:Ps) (k:Nat) (e:Int):(s.ax G k e).ak=s.ak:=by grind [Ps.ax]
@[simp] theorem Ci (s:Ps) (k:Nat) (e:Int):(s.ax G k e).ab=s.ab:=by grind [Ps.ax]
theorem fj (s:Ps) (k:Nat) {e:Int} (a:e≠0):(s.ax G k e).an≠0:=by
 grind [Ps.ax]
@[simp] theorem jg (s:Ps):s.next.i=s.i+1:=rfl
@[simp] theorem Qd6 (s:Ps):s.next.ak=s.ak:=rfl
@[simp] theorem QbN (s:Ps):s.next.ab=s.ab:=rfl
@[simp] theorem Qg5 (s:Ps):s.next.an=s.an:=rfl
theorem da {s:Ps} {r:Int} (h:bb G s r):s.i<G.length:=by
 grind [bb]
structure gi (G:List Gt) (s t:Ps):Prop where
 le:s.i<=t.i
 len:t.i<=G.length
 op:t.ak=s.ak
 gr:s.ab<=t.ab
 gm:t.ab<=4
variable {s Z:Ps}
def gi.trans {u:Ps} (h:gi G s Z) (a:gi G Z u):gi G s u:=
 ⟨Zav h.le a.le,a.len,a.op.trans h.op,Zav h.gr a.gr,a.gm⟩
theorem gi.refl (h:s.i<=G.length) (a:s.ab<=4):gi G s s:=⟨Zah _,h,rfl,Zah _,a⟩
theorem gi.ax (h:gi G s Z) (k:Nat) (e:Int):gi G s (Z.ax G k e):=⟨by simpa using h.le,by simpa using h.len,by simpa using h.op,by simpa using h.gr,by simpa using h.gm⟩
theorem gi.next (h:gi G s Z) (hl:Z.i<G.length):gi G s Z.next:=⟨by have:=h.le;simp;omega,by simp;omega,h.op,h.gr,h.gm⟩
def gi.skip (h:gi G s Z) (r:Int):gi G s (bp G Z r):=by
 unfold bp;split
 ·rename_i a
  exact h.next (da a)
 ·exact h
theorem QV (s:Ps) (a:Nat) (r:Int):(mC G s a r).1=s\/(mC G s a r).1=s.ax G a 4:=by
 grind [mC]
def qd (l:List Rg):(aU l).length<=2*l.length:=(dW l).2.2
theorem AD (s:Ps) (a:Nat) (r:Int):(mC G s a r).2.1.length<=8:=by
 unfold mC
 repeat' split
 all_goals first | exact Zav (qd _) (by simp) | simp
theorem AE (h:gi G s Z) (hl:Z.i<G.length):gi G s (eh G Z).1/\Z.i<(eh G Z).1.i/\(eh G Z).2.1.length<=8:=by
 unfold eh;simp only;split
 ·exact⟨(h.next hl).ax _ _,by simp,by simp⟩
 ·split
  ·exact⟨(h.next hl).ax _ _,by simp,by simp⟩
  ·have a:=(h.next hl).next ω;refine⟨?_,?_,AD _ _ _⟩
   ·rcases QV (G:=G) Z.next.next Z.i (aK G Z.next.i) with e | e<;>rw[e]
    ·exact a
    ·exact a.ax _ _
   ·rcases QV (G:=G) Z.next.next Z.i (aK G Z.next.i) with e | e<;>rw[e]<;>simp<;>omega
theorem mE (h:gi G s Z) (hl:Z.i<G.length):gi G s (b5 G Z).1/\((b5 G Z).2.1≠[]->Z.i<(b5 G Z).1.i)/\(b5 G Z).2.1.length<=8:=by
 unfold b5;split
 ·exact⟨h.ax _ _,by simp,by simp⟩
 ·simp only;split
  ·grind [AE]
  ·split
   ·grind
   ·exact⟨h.next hl,λ_=>by simp,by simp⟩
theorem Na (h:gi G s Z) (a:List Rg) (one:Bool) (c:Nat):gi G s (j3 G a one c Z).1/\Z.i<=(j3 G a one c Z).1.i/\(j3 G a one c Z).2.length<=8:=by
 have key:gi G s (if Z.i<G.length then b5 G Z else(Z,[],false)).1/\Z.i<=(if Z.i<G.length then b5 G Z else(Z,[],false)).1.i:=by
  split
  ·rename_i hl
   refine⟨(mE h hl).1,?_⟩;exact((mE (gi.refl (s:=Z) h.len h.gm) hl).1).le
  ·grind
 unfold j3;simp only;generalize (if Z.i<G.length then b5 G Z else(Z,[],false))=b at key;have⟨k1,k2⟩:=key
 repeat' split
 all_goals first | exact⟨k1.ax _ _,by simp_all,by simp⟩ | exact⟨k1,k2,by simp⟩
theorem kt (h:gi G s Z) (hl:Z.i<G.length):gi G s (ei G Z).1/\((ei G Z).1.an=0->Z.i<(ei G Z).1.i)/\(ei G Z).2.length<=8:=by
 have⟨k1,k2,k3⟩:=mE h hl;unfold ei;simp only;split
 ·grind
 ·split
  ·exact⟨k1.ax _ _,λe=>absurd e (fj _ _ (by decide)),by simp⟩
  ·rename_i _ a
   have k4:=k2 a;split
   ·rename_i c
    have⟨b,a2,a3⟩:=Na (k1.next (da c)) (b5 G Z).2.1 (b5 G Z).2.2 Z.i;exact⟨b,λ_=>by simp at a2;omega,a3⟩
   ·grind
theorem AF (a:Nat):∀(n:Nat) (t:Ps) (l:List Rg) (b:Bool),gi G s t->gi G s (dX G a n t l b).1/\t.i<=(dX G a n t l b).1.i
 | 0,t,l,b,h=>⟨h,Zah _⟩
 | n+1,t,l,b,h=>by
  unfold dX;split
  ·split
   ·exact⟨h.ax _ _,by simp⟩
   ·have hl:t.i<G.length:=ω;have c:=(kt (gi.refl (s:=t) h.len h.gm) hl).1.le;have b:=AF a n (ei G t).1 (l++(ei G t).2) false (kt h hl).1;grind
  ·grind
theorem tu (a:Nat):∀(n:Nat) (t:Ps) (l:List Rg) (b:Bool),t.i<=G.length->t.ab<=4->(G.length+1<n+t.i\/t.an≠0/\0<n)->(dX G a n t l b).1.an≠0\/bb G (dX G a n t l b).1 93
 | 0,t,l,b,h,d,e=>by omega
 | n+1,t,l,b,h,d,e=>by
  unfold dX;split
  ·split
   ·grind [fj]
   ·have hl:t.i<G.length:=ω;have⟨c,a2,a3⟩:=kt (gi.refl (s:=t) h d) hl;refine tu a n _ _ _ c.len c.gm ?_;omega
  ·grind
theorem jE:∀(n i:Nat) (b:List UInt8),i<=(ct G n i b).1/\((ct G n i b).1<=G.length\/(ct G n i b).1=i)/\(ct G n i b).2.length+i<=b.length+(ct G n i b).1
 | 0,i,b=>⟨Zah _,.inr rfl,Zah _⟩
 | n+1,i,b=>by
  unfold ct;split
  ·have⟨h1,a,c⟩:=jE n (i+1) (if 48<aK G i\/b≠[] then b++[UInt8.ofNat (aK G i).toNat] else b);grind
  ·grind
def se (h:gi G s Z):gi G s (dv G Z)/\Z.i<=(dv G Z).i:=by
 have a:=jE (G:=G) (G.length-Z.i) Z.i [];have h1:=a.1;have b:(dv G Z).i<=G.length:=by
  rcases a.2.1 with e | e
  ·exact e
  ·show(ct G _ _ _).1<=_
   rw[e];exact h.len
 exact⟨⟨Zav h.le h1,b,h.op,h.gr,h.gm⟩,h1⟩
theorem xx (h:gi G s Z) (b:Nat) (m n:List UInt8) (ok en:Bool):gi G s (nK G b Z m n ok en).1/\Z.i<=(nK G b Z m n ok en).1.i:=by
 unfold nK;split
 ·exact⟨h.ax _ _,by simp⟩
 ·split
  ·exact⟨h.ax _ _,by simp⟩
  ·rename_i c
   have a:=h.next (da (by simpa using c));split
   ·exact⟨a.ax _ _,by simp⟩
   ·by_cases d:(eF m).2=false\/(eF (if en=true then[] else n)).2=false
    ·rw[Zac d];exact⟨a.ax _ _,by simp⟩
    ·simp_all
theorem xy (h:gi G s Z) (hl:Z.i<G.length):gi G s (gv G Z).1/\Z.i<(gv G Z).1.i:=by
 have⟨a,a2⟩:=se (h.next hl);simp only[jg] at a2;unfold gv;simp only;split
 ·rename_i b
  have⟨b1,c⟩:=se (a.next (da b.2));grind [jg,xx]
 ·grind [xx]
theorem QW (h:gi G s Z) (hl:Z.i<G.length):gi G s (sd G Z).1/\Z.i<(sd G Z).1.i/\(sd G Z).2.length<=1:=by
 have h1:=(h.next hl).skip 94;have d:Z.i<(bp G Z.next 94).i:=by unfold bp;split<;>simp<;>omega
 have⟨a,a2⟩:=AF Z.i (G.length+2-(bp G Z.next 94).i) _ ([]:List Rg) true h1;have a3:=tu (G:=G) Z.i (G.length+2-(bp G Z.next 94).i) (bp G Z.next 94) [] true h1.len h1.gm ω;unfold sd;simp only;generalize dX G Z.i (G.length+2-(bp G Z.next 94).i) (bp G Z.next 94) [] true=c at a a2 a3;split
 ·grind
 ·split
  ·grind
  ·split
   ·exact⟨a.ax _ _,by simp;omega,by simp⟩
   ·have b:bb G c.1 93:=by grind
    exact⟨a.next (da b),by simp;omega,by simp⟩
def mF (G:List Gt) (aH:Ps->Ps×List Nd):Prop:=∀s,s.i<=G.length->s.ab<=4->gi G s (aH s).1/\(aH s).2.length<=3*((aH s).1.i-s.i)+1
variable {aH:Ps->Ps×List Nd}
variable {s:Ps}
theorem GM (A:mF G aH) (hl:s.i<G.length) (u:s.ab<=4):gi G s (ig G aH s).1/\((ig G aH s).1.an=0->s.i<(ig G aH s).1.i)/\(ig G aH s).2.length<=3*((ig G aH s).1.i-s.i):=by
 have h1:=(gi.refl ω u).next hl;unfold ig;simp only;generalize c:bb G s.next 63=free;generalize o:(if free=true then s.next.next else s.next)=f;have h:gi G s f/\s.i<f.i:=by
  subst o;split
  ·rename_i t
   subst t;exact⟨h1.next (da c),by simp;omega⟩
  ·simp_all
 split
 ·exact⟨h.1.ax _ _,λe=>absurd e (fj _ _ (by decide)),by simp⟩
 ·generalize p:(if free=true then f.next else f)=s3;have b:gi G s s3/\s.i<s3.i:=by
   subst p;split
   ·have:bb G f 58:=by
     grind
    exact⟨h.1.next (da this),by simp;omega⟩
   ·exact h
  split
  ·exact⟨b.1.ax _ _,λe=>absurd e (fj _ _ (by decide)),by simp⟩
  ·split
   ·exact⟨b.1.ax _ _,λe=>absurd e (fj _ _ (by decide)),by simp⟩
   ·generalize v:(if free=true then s3 else({ s3 with ab:=s3.ab+1 }:Ps))=s4;have j:s4.i=s3.i/\s4.ak=s3.ak/\s3.ab<=s4.ab/\s4.ab<=4:=by
     have:=b.1.gm;grind
    have r:=b.1.len;have⟨b1,q⟩:=A { s4 with ak:=s4.ak+1 } (by grind) j.2.2.2;generalize aH { s4 with ak:=s4.ak+1 }=a at b1 q;simp only[j.1] at q;have g:=b1.le;simp only[j.1] at g;have k:gi G s ({ a.1 with ak:=a.1.ak-1 }:Ps):=by
     refine⟨?_,b1.len,?_,?_,b1.gm⟩
     ·have:=b.2;simp;omega
     ·have:=b1.op;have:=b.1.op;simp at*;omega
     ·have:=b1.gr;have:=b.1.gr;simp at*;omega
    split
    ·exact⟨k.ax _ _,λe=>absurd e (fj _ _ (by decide)),by simp⟩
    ·rename_i d
     have l:gi G s (if a.1.an=0 then({ a.1 with ak:=a.1.ak-1 }:Ps).next else({ a.1 with ak:=a.1.ak-1 }:Ps))/\a.1.i<=(if a.1.an=0 then({ a.1 with ak:=a.1.ak-1 }:Ps).next else({ a.1 with ak:=a.1.ak-1 }:Ps)).i/\(a.1.an=0->(if a.1.an=0 then({ a.1 with ak:=a.1.ak-1 }:Ps).next else({ a.1 with ak:=a.1.ak-1 }:Ps)).i=a.1.i+1):=by
      split
      ·rename_i n
       have m:bb G ({ a.1 with ak:=a.1.ak-1 }:Ps) 41:=by
        cases m:bb G ({ a.1 with ak:=a.1.ak-1 }:Ps) 41
        ·exact absurd ⟨n,m⟩ d
        ·rfl
       exact⟨k.next (da m),by simp,λ_=>rfl⟩
      ·rename_i n
       exact⟨k,by simp,λe=>absurd e n⟩
     have hlen:a.2.length+1<=3*((if a.1.an=0 then({ a.1 with ak:=a.1.ak-1 }:Ps).next else({ a.1 with ak:=a.1.ak-1 }:Ps)).i-s.i):=by
      have:=l.2.1;have:=b.2;omega
     split
     ·exact⟨l.1,λ_=>by grind,by grind⟩
     ·exact⟨l.1,λ_=>by grind,by simp;omega⟩
theorem AG (A:mF G aH) (hl:s.i<G.length) (a:s.ab<=4):gi G s (jb G aH s).1/\((jb G aH s).1.an=0->s.i<(jb G aH s).1.i)/\(jb G aH s).2.length<=3*((jb G aH s).1.i-s.i):=by
 have h0:=gi.refl (Zcx hl) a;have h1:=h0.next hl;have hw:gi G s (s.ax G s.i 4)/\((s.ax G s.i 4).an=0->s.i<(s.ax G s.i 4).i)/\([]:List Nd).length<=3*((s.ax G s.i 4).i-s.i):=⟨h0.ax _ _,λe=>absurd e (fj _ _ (by decide)),by simp⟩;have b:∀x:Nd,gi G s s.next/\(s.next.an=0->s.i<s.next.i)/\[x].length<=3*(s.next.i-s.i):=λx=>⟨h1,λ_=>by simp,by simp⟩
 unfold jb;grind [GM,QW,AE]
theorem Ee {t:Ps} (h:gi G s t) (mn mx:Int) (x:List Nd):gi G s (nL G t mn mx x).1/\t.i<=(nL G t mn mx x).1.i/\(nL G t mn mx x).2.length<=x.length+1:=by
 unfold nL;split
 ·grind
 ·refine⟨h.skip 63,?_,by simp⟩;unfold bp;split<;>simp
theorem xz (A:mF G aH) (hl:s.i<G.length) (d:s.ab<=4):gi G s (fv G aH s).1/\((fv G aH s).1.an=0->s.i<(fv G aH s).1.i)/\(fv G aH s).2.length<=3*((fv G aH s).1.i-s.i):=by
 have⟨b,a2,a3⟩:=AG A hl d;unfold fv;simp only;generalize jb G aH s=a at b a2 a3;split
 ·grind
 ·rename_i g
  have key:∀(r mn mx:Int),bb G a.1 r->gi G s (nL G a.1.next mn mx a.2).1/\((nL G a.1.next mn mx a.2).1.an=0->s.i<(nL G a.1.next mn mx a.2).1.i)/\(nL G a.1.next mn mx a.2).2.length<=3*((nL G a.1.next mn mx a.2).1.i-s.i):=λr mn mx c=>by
   have⟨b1,e,f⟩:=Ee (b.next (da c)) mn mx a.2;grind [jg]
  grind [xy,da,Ee]
def total (a:List (List Nd)):Nat:=a.flatten.length
theorem gy (a:List (List Nd)) (x:List Nd):total (a++[x])=total a+x.length:=by simp[total]
theorem xA (op:Int):∀a:List (List Nd),(bW op a).length<=total a+1
 | []=>by grind [bW]
 | [x]=>by simp[bW,total]
 | x::y::a=>by simp[bW,total]
theorem AH (A:mF G aH):∀(n:Nat) (t:Ps) (a:List (List Nd)),gi G s t->total a<=3*(t.i-s.i)->gi G s (eI G aH n t a).1/\total (eI G aH n t a).2<=3*((eI G aH n t a).1.i-s.i)
 | 0,t,a,h,c=>⟨h,c⟩
 | n+1,t,a,h,c=>by
  unfold eI;split
  ·rename_i d
   have⟨b,a2,a3⟩:=xz A d.2.1 h.gm;have e:=b.le;have f:=h.le;refine AH A n _ _ (h.trans b) ?_;rw[gy];omega
  ·grind
def mG (A:mF G aH) (hl:s.i<=G.length) (b:s.ab<=4):gi G s (mD G aH s).1/\(mD G aH s).2.length<=3*((mD G aH s).1.i-s.i)+1:=by
 have⟨a,a2⟩:=AH A (G.length+2-s.i) s [] (gi.refl hl b) (by simp[total]);exact⟨a,Zav (xA _ _) (by show total (eI G aH (G.length+2-s.i) s []).2+1<=_;exact ZcU a2)⟩
theorem AI (A:mF G aH):∀(n:Nat) (t:Ps) (a:List (List Nd)),gi G s t->0<a.length->total a+2*a.length<=3*(t.i-s.i)+3->gi G s (gx G aH n t a).1/\0<(gx G aH n t a).2.length/\total (gx G aH n t a).2+2*(gx G aH n t a).2.length<=3*((gx G aH n t a).1.i-s.i)+3
 | 0,t,a,h,h0,d=>⟨h,h0,d⟩
 | n+1,t,a,h,h0,d=>by
  unfold gx;split
  ·rename_i e
   have b:=h.next (da e.2);have⟨c,a2⟩:=mG A (s:=t.next) b.len b.gm;have f:=c.le;have g:=h.le;simp only[jg] at f a2;refine AI A n _ _ (b.trans c) (by simp) ?_;grind [gy]
  ·grind
theorem uz (op:Int) (a:List (List Nd)) (h:0<a.length):(bW op a).length+2<=total a+2*a.length:=by
 match a,h with
 | [x],_=>simp[bW,total]
 | x::y::a,_=>simp[bW,total];omega
theorem QX (A:mF G aH) (hl:s.i<=G.length) (d:s.ab<=4):gi G s (Ed G aH s).1/\(Ed G aH s).2.length<=3*((Ed G aH s).1.i-s.i)+1:=by
 have⟨a,a2⟩:=mG A (s:=s) hl d;unfold Ed;generalize mD G aH s=c at a a2;have⟨b1,b,e⟩:=AI A (G.length+2-c.1.i) c.1 [c.2] a (by simp) (by grind [total]);have:=uz 4 _ b;grind
theorem vW:∀n,mF G (qZ G n)
 | 0=>λs h a=>⟨gi.refl h a,by simp[qZ]⟩
 | n+1=>λs h a=>QX (vW n) h a
end
section
variable (G:List Gt)
def sf (s:Ps) (a:Nat):Ps×List Rg:=
 if G.length<=s.i then(s.ax G a 4,[])
 else if fi G s.i then(s.ax G s.i 4,[])
 else
  let r:=aK G s.i
  if r=110 then(s.next,[(10,10)])
  else if r=116 then(s.next,[(9,9)])
  else if r=114 then(s.next,[(13,13)])
  else if r=100 then(s.next,[(48,57)])
  else if r=115 then(s.next,aU [(9,10),(13,13),(32,32)])
  else if r=119 then(s.next,aU [(48,57),(65,90),(95,95),(97,122)])
  else if iw r then(s.next,[(r,r)])
  else(s.next.ax G a 4,[])
def fk (s:Ps):Ps×List Rg:=
 if fi G s.i then(s.next.ax G s.i 4,[])
 else
  let r:=aK G s.i
  if r=92 then sf G s.next s.i
  else if r=91\/r=45 then(s.next.ax G s.i 4,[])
  else(s.next,[(r,r)])
def dk (l:List Rg):Bool:=decide (l.length=1)&&decide ((l.getD 0 (0,0)).1=(l.getD 0 (0,0)).2)
def kL (s:Ps) (c:Nat) (a l:List Rg):Ps×List Rg×Bool:=
 if s.an≠0\/bb G s 45=false then(s,l++a,false)
 else
  let t:=s.next
  if G.length<=t.i\/bb G t 93\/bb G t 91\/bb G t 45=true then(t.ax G c 4,l,true)
  else
   let b:=fk G t
   if b.1.an=0/\(dk a=false\/dk b.2=false\/o7 b.2<o7 a) then(b.1.ax G c 4,l,true)
   else if b.1.an=0 then(b.1,l++[(o7 a,o7 b.2)],false)
   else(b.1,l,false)
def dI:Nat->Ps->List Rg->Bool->Ps×List Rg×Bool
 | 0,s,l,any=>(s,l,any)
 | n+1,s,l,any=>
  if s.an=0/\s.i<G.length/\bb G s 93=false then
   let m:=kL G (fk G s).1 s.i (fk G s).2 l
   if m.2.2 then(m.1,m.2.1,true) else dI n m.1 m.2.1 true
  else(s,l,any)
def zy (s:Ps) (a:Nat):Ps×List Rg:=
 let neg:=bb G s 94
 let t:=bp G s 94
 let c:=dI G (G.length+2-t.i) t [] false
 let u:=if c.1.an=0/\(c.2.2=false\/bb G c.1 93=false) then c.1.ax G a 4 else c.1
 (u.next,if neg then lH c.2.1 else aU c.2.1)
def jF (a:Nat) (s:Ps) (m n:List UInt8) (ok op:Bool):Ps×Int×Int:=
 let t:=if ok=false\/bb G s 125=false\/(op=false/\iy n m) then s.ax G a 4 else s
 let lo:=eF m
 let hi:=if op then(-1,true) else eF n
 let u:=if lo.2=false\/hi.2=false then t.next.ax G a 2 else t.next
 (u,lo.1,hi.1)
def ey (s:Ps):Ps×Int×Int:=
 let t:=dv G s.next
 let m:=gU G s.next
 let ok:=gJ G s.next
 if ok/\bb G t 44 then jF G s.i (dv G t.next) m (gU G t.next) ok (!gJ G t.next)
 else jF G s.i t m m ok false
def fe (s:Ps) (a:Nat):Ps:=
 (if s.an=0/\bb G s 41=false then s.ax G a 4 else s).next
def jh (aH:Ps->Ps×List Nd) (deep:Nat) (s:Ps) (a:Nat):Ps×List Nd:=
 let quiet:=bb G s 63
 if quiet/\bb G s.next 58=false then(s.ax G a 4,[])
 else if 20<=deep then(s.ax G a 10,[])
 else if quiet then(fe G (aH s.next.next).1 a,(aH s.next.next).2)
 else if 4<=s.ab then(s.ax G a 13,[])
 else
  let t:Ps:={ s with ab:=s.ab+1 }
  (fe G (aH t).1 a,{ nd 6 with cap:=t.ab,ae:=1 }::(aH t).2)
def ga (aH:Ps->Ps×List Nd) (deep:Nat) (s:Ps):Ps×List Nd:=
 if fi G s.i then(s.next.ax G s.i 4,[])
 else
  let r:=aK G s.i
  if r=40 then jh G aH deep s.next s.i
  else if r=91 then((zy G s.next s.i).1,[xu (zy G s.next s.i).2])
  else if r=46 then(s.next,[xu (lH [(10,10)])])
  else if r=94 then(s.next,[nd 7])
  else if r=36 then(s.next,[nd 8])
  else if r=92 then((sf G s.next s.i).1,[xu (sf G s.next s.i).2])
  else if r=42\/r=43\/r=63\/r=123\/r=125\/r=93\/r=41\/r=124 then(s.next.ax G s.i 4,[])
  else(s.next,[xu [(r,r)]])
def jG (s:Ps) (mn mx:Int) (x:List Nd):Ps×List Nd:=
 (bp G s 63,{ nd 5 with mn:=mn,mx:=mx,lz:=bb G s 63,ae:=1 }::x)
def si (aH:Ps->Ps×List Nd) (deep:Nat) (s:Ps):Ps×List Nd:=
 let a:=ga G aH deep s
 if a.1.an≠0\/G.length<=a.1.i then a
 else if bb G a.1 42 then jG G a.1.next 0 (-1) a.2
 else if bb G a.1 43 then jG G a.1.next 1 (-1) a.2
 else if bb G a.1 63 then jG G a.1.next 0 1 a.2
 else if bb G a.1 123 then jG G (ey G a.1).1 (ey G a.1).2.1 (ey G a.1).2.2 a.2
 else a
def ej (aH:Ps->Ps×List Nd) (deep:Nat):Nat->Ps->List (List Nd)->Ps×List (List Nd)
 | 0,s,a=>(s,a)
 | n+1,s,a=>
  if s.an=0/\s.i<G.length/\bb G s 124=false/\bb G s 41=false then ej aH deep n (si G aH deep s).1 (a++[(si G aH deep s).2])
  else(s,a)
def oG (aH:Ps->Ps×List Nd) (deep:Nat) (s:Ps):Ps×List Nd:=
 let c:=ej G aH deep (G.length+2-s.i) s []
 (c.1,bW 3 c.2)
def dP (aH:Ps->Ps×List Nd) (deep:Nat):Nat->Ps->List (List Nd)->Ps×List (List Nd)
 | 0,s,a=>(s,a)
 | n+1,s,a=>
  if s.an=0/\bb G s 124=true then dP aH deep n (oG G aH deep s.next).1 (a++[(oG G aH deep s.next).2])
  else(s,a)
def uA (aH:Ps->Ps×List Nd) (deep:Nat) (s:Ps):Ps×List Nd:=
 let c:=oG G aH deep s
 let d:=dP G aH deep (G.length+2-c.1.i) c.1 [c.2]
 (d.1,bW 4 d.2)
def Cj:Nat->Nat->Ps->Ps×List Nd
 | 0,_,s=>(s,[])
 | n+1,deep,s=>uA G (Cj n (deep+1)) deep s
def GN:List Nd×Int×Int:=
 let a:=Cj G 21 0 Pe
 let s:=if a.1.an=0/\a.1.i<G.length then a.1.ax G a.1.i 4 else a.1
 if s.an≠0 then([],s.an,s.wh) else(a.2,0,0)
end
section
variable {G:List Gt}
structure Fx (G:List Gt):Prop where
 one:∀i,i<G.length->ew (aK G i)=[(aK G i,aK G i)]
 n:ew 10=[(10,10)]
 t:ew 9=[(9,9)]
 r:ew 13=[(13,13)]
 d:aU [(48,57)]=[(48,57)]
 s:dk (aU [(9,10),(13,13),(32,32)])=false
 w:dk (aU [(48,57),(65,90),(95,95),(97,122)])=false
 s0:aU [(9,10),(13,13),(32,32)]≠[]
 w0:aU [(48,57),(65,90),(95,95),(97,122)]≠[]
 not:∀l,lH (aU l)=lH l
structure At (G:List Gt) (deep:Nat) (s t:Ps):Prop where
 e:s.an=0
 e2:t.an=0
 i:t.i=s.i
 g:t.ab=s.ab
 o:s.ak=deep
 le:s.i<=G.length
variable {s:Ps} {e:Int}
def Rel {α:Type} (G:List Gt) (deep:Nat) (a b:Ps×α):Prop:=(At G deep a.1 b.1/\b.2=a.2)\/(a.1.an≠0/\b.1.an=a.1.an/\b.1.wh=a.1.wh)
theorem bQ (h:s.an=0) (k:Nat) (e:Int):s.ax G k e={ s with an:=e,wh:=aI G k }:=by grind [Ps.ax]
theorem fS {α:Type} {deep k:Nat} {t:Ps} {x y:α} (hs:s.an=0) (ht:t.an=0) (a:e≠0):Rel G deep (s.ax G k e,x) (t.ax G k e,y):=by
 right;grind [bQ]
theorem fB {t:Ps} (h:t.i=s.i) (r:Int):bb G t r=bb G s r:=by grind [bb]
theorem gK (h:bb G s e):s.i<G.length:=by
 grind [bb]
theorem qe (h:s.i<G.length):bb G s e=(aK G s.i==e):=by
 grind [bb,aK]
variable {deep:Nat} {s t:Ps}
variable {x:Ps}
theorem At.next (h:At G deep s t) (hl:s.i<G.length):At G deep s.next t.next:=⟨h.e,h.e2,by show t.i+1=s.i+1;rw[h.i],h.g,h.o,hl⟩
def At.skip (h:At G deep s t) (r:Int):At G deep (bp G s r) (bp G t r):=by
 unfold bp;rw[fB h.i];split
 ·rename_i a;exact h.next (gK a)
 ·exact h
def kM (r:Int):dk [(r,r)]:=by simp[dk]
theorem Ef (F:Fx G) (h:At G deep s t) (hl:s.i<G.length):Rel G deep ((eh G s).1,(eh G s).2.1) (sf G t.next s.i)/\((eh G s).1.an=0->(eh G s).2.2=dk (eh G s).2.1/\(eh G s).2.1≠[]):=by
 have c:=h.next hl;unfold eh sf;rw[c.i];by_cases h1:G.length<=s.next.i
 ·rw[Zac h1,Zac h1];exact⟨fS c.e c.e2 (by decide),λb=>by rw[bQ c.e] at b;cases b⟩
 ·rw[Zaa h1,Zaa h1];by_cases f:fi G s.next.i
  ·rw[Zac f,Zac f];exact⟨fS c.e c.e2 (by decide),λb=>by rw[bQ c.e] at b;cases b⟩
  ·rw[Zaa f,Zaa f];have g:=F.one s.next.i ω;have a:=c.next ω;generalize aK G s.next.i=r at g;unfold mC;by_cases c1:r=110
   ·rw[Zac c1,Zac c1,F.n];exact⟨.inl ⟨a,rfl⟩,λ_=>⟨(kM _).symm,by simp⟩⟩
   rw[Zaa c1,Zaa c1];by_cases c2:r=116
   ·rw[Zac c2,Zac c2,F.t];exact⟨.inl ⟨a,rfl⟩,λ_=>⟨(kM _).symm,by simp⟩⟩
   rw[Zaa c2,Zaa c2];by_cases c3:r=114
   ·rw[Zac c3,Zac c3,F.r];exact⟨.inl ⟨a,rfl⟩,λ_=>⟨(kM _).symm,by simp⟩⟩
   rw[Zaa c3,Zaa c3];by_cases c4:r=100
   ·rw[Zac c4,Zac c4,F.d];exact⟨.inl ⟨a,rfl⟩,λ_=>⟨by rfl,by simp⟩⟩
   rw[Zaa c4,Zaa c4];by_cases c5:r=115
   ·rw[Zac c5,Zac c5];exact⟨.inl ⟨a,rfl⟩,λ_=>⟨F.s.symm,F.s0⟩⟩
   rw[Zaa c5,Zaa c5];by_cases c6:r=119
   ·rw[Zac c6,Zac c6];exact⟨.inl ⟨a,rfl⟩,λ_=>⟨F.w.symm,F.w0⟩⟩
   rw[Zaa c6,Zaa c6];by_cases c7:iw r
   ·rw[Zac c7,Zac c7,g];exact⟨.inl ⟨a,rfl⟩,λ_=>⟨(kM _).symm,by simp⟩⟩
   ·rw[Zaa c7,Zaa c7];exact⟨fS a.e a.e2 (by decide),λb=>by rw[bQ a.e] at b;cases b⟩
theorem Eg (F:Fx G) (h:At G deep s t) (hl:s.i<G.length) (a:bb G s 93=false):
  (Rel G deep ((b5 G s).1,(b5 G s).2.1) (fk G t)/\((b5 G s).1.an=0->(b5 G s).2.2=dk (b5 G s).2.1/\(b5 G s).2.1≠[]))\/
   (b5 G s=(s,[],false)/\fi G s.i=false/\(aK G s.i=91\/aK G s.i=45)/\fk G t=(t.next.ax G s.i 4,[])):=by
 have d:=h.next hl;rw[qe hl] at a;unfold b5 fk;rw[h.i];by_cases b:fi G s.i
 ·rw[Zac b,Zac b];exact .inl ⟨fS h.e d.e2 (by decide),λc=>by rw[bQ h.e] at c;cases c⟩
 ·rw[Zaa b,Zaa b];generalize aK G s.i=r at a;by_cases c1:r=92
  ·grind [Ef]
  ·rw[Zaa c1,Zaa c1];by_cases c2:r=91\/r=45
   ·grind
   ·have c3:¬r=93:=by grind
    rw[Zaa ω,Zaa c2];exact .inl ⟨.inl ⟨d,rfl⟩,λ_=>⟨(kM _).symm,by simp⟩⟩
theorem Qd7 {i:Nat} (hl:i<G.length) (h:aK G i≠65533):fi G i=false:=by
 grind [fi,aK]
theorem gL (hl:x.i<G.length) (h:aK G x.i=91\/aK G x.i=93\/aK G x.i=45):b5 G x=(x,[],false):=by
 grind [b5,Qd7]
theorem AJ (a:List Rg) (one:Bool) (b:Nat) (c:x.an=0) (h:G.length<=x.i\/(x.i<G.length/\(aK G x.i=91\/aK G x.i=93\/aK G x.i=45))):j3 G a one b x=(x.ax G b 4,[]):=by
 grind [gL,j3,bQ]
def QnD (G:List Gt) (deep:Nat) (l:List Rg) (a:Ps×List Rg) (m:Ps×List Rg×Bool):Prop:=(At G deep a.1 m.1/\m.2=(l++a.2,false))\/(a.1.an≠0/\m.1.an=a.1.an/\m.1.wh=a.1.wh)
theorem QY {b:Nat} {a l:List Rg} (h:x.an≠0):kL G x b a l=(x,l++a,false):=by
 grind [kL]
theorem QZ (F:Fx G) (h:At G deep s t) (hl:s.i<G.length) (C:bb G s 93=false) (l:List Rg):QnD G deep l (ei G s) (kL G (fk G t).1 t.i (fk G t).2 l):=by
 rcases Eg F h hl C with⟨w,H⟩ | ⟨w,R,S,hi⟩
 ·unfold ei;generalize b5 G s=a at w H ⊢;have⟨j,a2,a3⟩:=a;generalize fk G t=b at w ⊢;have⟨b1,y⟩:=b;simp only at w H ⊢;rcases w with⟨p,v⟩ | ⟨v,x,d⟩
  ·simp only at p v;subst v;have⟨hs,E⟩:=H p.e;rw[Zaa (by rw[p.e];simp),Zaa E];by_cases m:bb G j 45
   ·rw[Zac m];have q:=p.next (gK m);unfold kL;rw[Zaa (by rw[fB p.i,m,p.e2];simp)];simp only;have o:=q.i;rw[fB o,fB o,fB o,o,h.i];by_cases c1:G.length<=j.next.i
    ·rw[Zac (.inl c1),AJ y a3 s.i q.e (.inl c1),bQ q.e,bQ q.e2];exact .inr ⟨by simp,rfl,rfl⟩
    ·by_cases c2:bb G j.next 93\/bb G j.next 91\/bb G j.next 45
     ·rw[Zac (.inr c2)];have I:aK G j.next.i=91\/aK G j.next.i=93\/aK G j.next.i=45:=by
       grind [qe]
      rw[AJ y a3 s.i q.e (.inr ⟨ω,I⟩),bQ q.e,bQ q.e2];exact .inr ⟨by simp,rfl,rfl⟩
     ·rw[Zaa (by grind)];have z:bb G j.next 93=false:=by
       grind
      rcases Eg F q ω z with⟨n,u⟩ | ⟨n,L,O,M⟩
      ·unfold j3;rw[Zac (show j.next.i<G.length by omega)];generalize b5 G j.next=c at n u ⊢;have⟨A,P,Q⟩:=c;generalize fk G b1.next=f at n ⊢;have⟨B,K⟩:=f;simp only at n u ⊢;rcases n with⟨g,d⟩ | ⟨d,r,D⟩
       ·subst d;have⟨J,_⟩:=u g.e;subst hs J;by_cases c3:dk y=false\/dk K=false\/o7 K<o7 y
        ·rw[Zac (⟨g.e,c3⟩:A.an=0/\_),Zac (⟨g.e2,c3⟩:B.an=0/\_),bQ g.e,bQ g.e2];exact .inr ⟨by simp,rfl,rfl⟩
        ·rw[Zaa (λk=>c3 k.2:¬(A.an=0/\_)),Zaa (λk=>c3 k.2:¬(B.an=0/\_)),Zac g.e,Zac g.e2];exact .inl ⟨g,rfl⟩
       ·rw[Zaa (λk=>d k.1:¬(A.an=0/\_)),Zaa d,Zaa (λk=>d (r▸k.1):¬(B.an=0/\_)),Zaa (λk=>d (r▸k))];exact .inr ⟨d,r,D⟩
      ·grind [qe]
   ·rw[Zaa m];unfold kL;rw[Zac (.inr (by rw[fB p.i];simpa using m))];exact .inl ⟨p,rfl⟩
  ·simp only at v x d;rw[Zac v,QY ω];exact .inr ⟨v,x,d⟩
 ·unfold ei;rw[w,hi];have N:=h.next hl;rw[Zaa (by rw[h.e];simp),bQ h.e,bQ N.e2];exact .inr ⟨by simp,rfl,rfl⟩
def Qg6 (G:List Gt) (deep c:Nat) (a:Ps×List Rg×Bool×Bool) (b:Ps×List Rg×Bool):Prop:=
 (At G deep a.1 b.1/\b.2.1=a.2.1/\b.2.2=!a.2.2.1/\a.2.2.2=false/\bb G a.1 93)\/
  (a.1.an≠0/\b.1.an=a.1.an/\b.1.wh=a.1.wh)\/(a.1.an=4/\a.1.wh=aI G c/\b.1.an=0/\bb G b.1 93=false)
theorem AK (F:Fx G) (c:Nat):∀(n:Nat) (s t:Ps) (l:List Rg) (none_:Bool),At G deep s t->s.ab<=4->G.length+2<=n+s.i->Qg6 G deep c (dX G c n s l none_) (dI G n t l (!none_))
 | 0,s,t,l,none_,h,r,w=>by have:=h.le;omega
 | n+1,s,t,l,none_,h,r,w=>by
  unfold dX dI;by_cases b:bb G s 93=false
  ·rw[Zac ⟨h.e,b⟩];by_cases hl:G.length<=s.i
   ·rw[Zac hl,Zaa (by rw[h.i];omega),bQ h.e];exact .inr (.inr ⟨rfl,rfl,h.e2,(fB h.i 93).trans b⟩)
   ·rw[Zaa hl,Zac ⟨h.e2,by rw[h.i];omega,by rw[fB h.i];exact b⟩];have hi:=QZ F h ω b l;have f:=(kt (gi.refl (G:=G) h.le r) ω).2.1;have p:=(kt (gi.refl (G:=G) h.le r) ω).1.gm;generalize ei G s=a at hi f p ⊢;generalize kL G (fk G t).1 t.i (fk G t).2 l=m at hi ⊢;have⟨m1,m2,m3⟩:=m;have⟨q,a2⟩:=a;rcases hi with⟨u,g⟩ | ⟨g,d,j⟩
    ·obtain⟨rfl,rfl⟩:=g;exact AK F c n q m1 _ false u p (by have:=f u.e;simp only at this;omega)
    ·simp only at g d j ⊢;have v:dX G c n q (l++a2) false=(q,l++a2,false,false):=by
      cases n with
      | zero=>rfl
      | succ n=>rw[dX,Zaa (λk=>g k.1)]
     rw[v];cases m3
     ·have e2:dI G n m1 m2 true=(m1,m2,true):=by
       cases n with
       | zero=>rfl
       | succ n=>rw[dI,Zaa (λk=>g (d▸k.1))]
      rw[e2];exact .inr (.inl ⟨g,d,j⟩)
     ·exact .inr (.inl ⟨g,d,j⟩)
  ·have o:bb G s 93:=by grind
   rw[Zaa (λk=>b k.2),Zaa (λk=>b ((fB h.i 93)▸k.2.2))];exact .inl ⟨h,rfl,rfl,rfl,o⟩
theorem Ym (F:Fx G) (h:At G deep s t) (w:s.ab<=4) (hl:s.i<G.length):Rel G deep (sd G s) ((zy G t.next s.i).1,[xu (zy G t.next s.i).2]):=by
 have r:=h.next hl;have hk:=r.skip 94;have l:(bp G s.next 94).ab<=4:=by unfold bp;split<;>exact w
 have n:Qg6 G deep s.i (dX G s.i (G.length+2-(bp G s.next 94).i) (bp G s.next 94) [] true) (dI G (G.length+2-(bp G s.next 94).i) (bp G t.next 94) [] false):=AK F s.i (G.length+2-(bp G s.next 94).i) _ _ [] true hk l ω;have j:=tu (G:=G) s.i (G.length+2-(bp G s.next 94).i) (bp G s.next 94) [] true hk.le l (.inl ω);unfold sd zy;simp only;rw[fB r.i,hk.i];generalize dX G s.i (G.length+2-(bp G s.next 94).i) (bp G s.next 94) [] true=a at n j ⊢;generalize dI G (G.length+2-(bp G s.next 94).i) (bp G t.next 94) [] false=b at n ⊢;have⟨c,a2,a3,a4⟩:=a;have⟨b1,x,q⟩:=b;rcases n with⟨g,q1,u,v,f⟩ | ⟨m,d,o⟩ | ⟨m,hw,d,f⟩
 ·simp only at q1 u v;subst q1 u v;simp only[ZaE,Za0];rw[Zaa (by rw[g.e];simp)];cases a3
  ·have hu:(if b1.an=0/\((!false)=false\/bb G b1 93=false) then b1.ax G s.i 4 else b1)=b1:=Zaa (by rw[fB g.i,f];simp);rw[hu];refine .inl ⟨g.next (gK f),?_⟩;simp only[F.not];rfl
  ·have hu:(if b1.an=0/\((!true)=false\/bb G b1 93=false) then b1.ax G s.i 4 else b1)=b1.ax G s.i 4:=Zac ⟨g.e2,.inl rfl⟩;rw[hu,bQ g.e,bQ g.e2];exact .inr ⟨by simp,rfl,rfl⟩
 ·have hu:(if b1.an=0/\(q=false\/bb G b1 93=false) then b1.ax G s.i 4 else b1)=b1:=Zaa (λk=>m (d▸k.1));rw[hu];have p:(if a4=true then(c,([]:List Nd)) else if c.an≠0 then(c,[]) else if a3=true then(c.ax G s.i 4,[]) else(c.next,[xu (if bb G s.next 94=true then lH (aU a2) else aU a2)]))=(c,[]):=by
   grind
  rw[p];exact .inr ⟨m,d,o⟩
 ·have hu:(if b1.an=0/\(q=false\/bb G b1 93=false) then b1.ax G s.i 4 else b1)=b1.ax G s.i 4:=Zac ⟨d,.inr f⟩;have p:(if a4=true then(c,([]:List Nd)) else if c.an≠0 then(c,[]) else if a3=true then(c.ax G s.i 4,[]) else(c.next,[xu (if bb G s.next 94=true then lH (aU a2) else aU a2)]))=(c,[]):=by
   grind
  rw[hu,bQ d,p];exact .inr ⟨by grind,m.symm,hw.symm⟩
def Yn (G:List Gt) (deep:Nat) (a b:Ps×Int×Int):Prop:=(At G deep a.1 b.1/\b.2=a.2)\/(a.1.an≠0/\b.1.an=a.1.an/\b.1.wh=a.1.wh)
theorem xB (h:At G deep s t) (b:Nat) (m n:List UInt8) (ok en:Bool) (k:en->n=[]):Yn G deep (nK G b s m n ok en) (jF G b t m n ok en):=by
 have key:∀(u:Ps) (c:Prop) [Decidable c] (z:Int×Int) (a:Ps×Int×Int),a.1.an≠0->u.an=a.1.an->u.wh=a.1.wh->Yn G deep a ((if c then u.next.ax G b 2 else u.next),z):=by
  intro u c _ z a h1 g j;refine .inr ⟨h1,?_⟩;split
  ·have e:u.next.ax G b 2=u.next:=by unfold Ps.ax;rw[Zaa (by simp_all)]
   rw[e];exact⟨g,j⟩
  ·exact⟨g,j⟩
 have f:∀(x:Ps),x.an=0->(x.ax G b 4).an≠0:=λx l=>by grind [bQ]
 have e2:∀(x y:Ps),x.an=0->y.an=0->(y.ax G b 4).an=(x.ax G b 4).an/\(y.ax G b 4).wh=(x.ax G b 4).wh:=λx y l p=>by grind [bQ]
 unfold nK jF;rw[fB h.i];by_cases c1:ok=false
 ·rw[Zac c1];have ht:(if ok=false\/bb G s 125=false\/en=false/\iy n m=true then t.ax G b 4 else t)=t.ax G b 4:=Zac (.inl c1);rw[ht];exact key _ _ _ _ (f s h.e) (e2 s t h.e h.e2).1 (e2 s t h.e h.e2).2
 rw[Zaa c1];by_cases c2:bb G s 125=false
 ·rw[Zac c2];have ht:(if ok=false\/bb G s 125=false\/en=false/\iy n m=true then t.ax G b 4 else t)=t.ax G b 4:=Zac (.inr (.inl c2));rw[ht];exact key _ _ _ _ (f s h.e) (e2 s t h.e h.e2).1 (e2 s t h.e h.e2).2
 rw[Zaa c2];have d:=h.next (gK (by simpa using c2));by_cases c3:en=false/\iy n m
 ·rw[Zac c3];have ht:(if ok=false\/bb G s 125=false\/en=false/\iy n m=true then t.ax G b 4 else t)=t.ax G b 4:=Zac (.inr (.inr c3));rw[ht];exact key _ _ _ _ (f s.next d.e) (e2 s.next t d.e h.e2).1 (e2 s.next t d.e h.e2).2
 have ht:(if ok=false\/bb G s 125=false\/en=false/\iy n m=true then t.ax G b 4 else t)=t:=Zaa (by grind);rw[Zaa c3,ht];have o:eF []=(0,true):=by decide
 cases en
 ·simp only[ZaE,Za0];by_cases c4:(eF m).2=false\/(eF n).2=false
  ·rw[Zac c4,Zac c4,bQ d.e,bQ d.e2];exact .inr ⟨by simp,rfl,rfl⟩
  ·rw[Zaa c4,Zaa c4];exact .inl ⟨d,rfl⟩
 ·simp only[Zbv];by_cases c4:(eF m).2=false
  ·rw[Zac (.inl c4),Zac (.inl c4),bQ d.e,bQ d.e2];exact .inr ⟨by simp,rfl,rfl⟩
  ·rw[Zaa (by grind),Zaa (by grind)];exact .inl ⟨d,rfl⟩
theorem GO (h:t.i=s.i):gU G t=gU G s/\gJ G t=gJ G s/\(dv G t).i=(dv G s).i:=by
 grind [gU,gJ,dv]
def At.Qg7 (h:At G deep s t):At G deep (dv G s) (dv G t):=by
 have hle:=jE (G:=G) (G.length-s.i) s.i [];have:=h.le;refine⟨h.e,h.e2,(GO h.i).2.2,h.g,h.o,?_⟩;show(ct G (G.length-s.i) s.i []).1<=_
 omega
theorem GP:∀(n i:Nat) (b:List UInt8),(ct G n i b).1=i->(ct G n i b).2=b
 | 0,i,b,h=>rfl
 | n+1,i,b,h=>by
  grind [ct,jE]
theorem Nb (h:gJ G x=false):gU G x=[]:=by
 grind [gJ,gU,GP,jE]
theorem Nc (h:At G deep s t) (hl:s.i<G.length):Yn G deep (gv G s) (ey G t):=by
 have d:=h.next hl;have⟨e,f,l⟩:=GO (G:=G) d.i;have b:=d.Qg7;unfold gv ey;simp only;rw[e,f,fB b.i,h.i];by_cases a:gJ G s.next/\bb G (dv G s.next) 44
 ·rw[Zac a,Zac a];have c:=b.next (gK a.2);have⟨g,j,m⟩:=GO (G:=G) c.i;rw[g,j];exact xB c.Qg7 _ _ _ _ _ λk=>Nb (by grind)
 ·grind [xB]
variable {aH mH:Ps->Ps×List Nd}
variable {x:Ps} {Z:Nat} {a:List (List Nd)} {b:List Nd}
def GQ (G:List Gt) (deep:Nat) (aH a:Ps->Ps×List Nd):Prop:=∀s t,At G deep s t->s.ab<=4->Rel G deep (aH s) (a t)
def xC (d:Nat) {a b:Ps×List Nd} (c:Nat) (h:Rel G (d+1) a b):
  let f:Ps:={ a.1 with ak:=a.1.ak-1 }
  (f.an=0/\bb G f 41=false->(f.ax G c 4).an≠0/\(fe G b.1 c).an=(f.ax G c 4).an/\(fe G b.1 c).wh=(f.ax G c 4).wh)/\
   (¬(f.an=0/\bb G f 41=false)->(At G d f.next (fe G b.1 c)/\f.an=0/\b.2=a.2)\/(f.an≠0/\(fe G b.1 c).an=f.an/\(fe G b.1 c).wh=f.wh)):=by
 unfold fe;rcases h with⟨h,s⟩ | ⟨p,n,q⟩
 ·have j:At G d { a.1 with ak:=a.1.ak-1 } b.1:=⟨h.e,h.e2,h.i,h.g,by show a.1.ak-1=d;rw[h.o];omega,h.le⟩;refine⟨λm=>?_,λm=>?_⟩
  ·rw[Zac ⟨h.e2,(fB j.i 41).trans m.2⟩,bQ j.e,bQ h.e2];exact⟨by simp,rfl,rfl⟩
  ·have l:bb G { a.1 with ak:=a.1.ak-1 } 41:=by
    cases r:bb G { a.1 with ak:=a.1.ak-1 } 41
    ·exact absurd ⟨j.e,r⟩ m
    ·rfl
   rw[Zaa (by rw[(fB j.i 41).trans l];simp)];exact .inl ⟨j.next (gK l),j.e,s⟩
 ·refine⟨λm=>absurd m.1 p,λ_=>?_⟩;rw[Zaa (λk=>p (n▸k.1))];exact .inr ⟨p,n,q⟩
theorem Nf (A:GQ G (deep+1) aH mH) (h:At G deep s t) (n:s.ab<=4) (hl:s.i<G.length):Rel G deep (ig G aH s) (jh G mH deep t.next s.i):=by
 have a:=h.next hl;unfold ig jh;rw[fB a.i];cases l:bb G s.next 63
 ·simp only[ZaE,Za0,false_and];by_cases c1:20<=s.next.ak
  ·rw[Zac c1,Zac (by have:=a.o;omega)];exact fS a.e a.e2 (by decide)
  rw[Zaa c1,Zaa (show ¬20<=deep by have:=a.o;omega)];by_cases c2:4<=s.next.ab
  ·rw[Zac (⟨trivial,c2⟩),Zac (by rw[a.g];exact c2)];exact fS a.e a.e2 (by decide)
  rw[Zaa (λk=>c2 k.2),Zaa (show ¬4<=t.next.ab by rw[a.g];exact c2)];have p:((t.next.ab+1:Nat):Int)=((s.next.ab+1:Nat):Int):=by rw[a.g]
  have⟨k1,k2⟩:=xC deep s.i (A { { s.next with ab:=s.next.ab+1 } with ak:=s.next.ak+1 } { t.next with ab:=t.next.ab+1 } ⟨a.e,a.e2,a.i,by show t.next.ab+1=s.next.ab+1;rw[a.g],by show s.next.ak+1=deep+1;rw[a.o],a.le⟩ (by grind));split
  ·rename_i f
   have⟨q1,b,c⟩:=k1 f;exact .inr ⟨q1,b,c⟩
  ·rename_i f
   rcases k2 f with⟨q1,b,c⟩ | ⟨q1,b,c⟩
   ·rw[Zac b];refine .inl ⟨q1,?_⟩;grind
   ·rw[Zaa q1];exact .inr ⟨q1,b,c⟩
 ·simp only[Zbv,Zal];have m:=a.next (gK l);rw[fB m.i];by_cases c0:bb G s.next.next 58=false
  ·rw[Zac c0,Zac c0];exact fS m.e a.e2 (by decide)
  rw[Zaa c0,Zaa c0];have j:bb G s.next.next 58:=by grind
  have d:=m.next (gK j);by_cases c1:20<=s.next.next.next.ak
  ·rw[Zac c1,Zac (by have:=d.o;omega)];exact fS d.e a.e2 (by decide)
  rw[Zaa c1,Zaa (show ¬20<=deep by have:=d.o;omega),Zaa (by simp)];have⟨k1,k2⟩:=xC deep s.i (A { s.next.next.next with ak:=s.next.next.next.ak+1 } t.next.next.next ⟨d.e,d.e2,d.i,d.g,by show s.next.next.next.ak+1=deep+1;rw[d.o],d.le⟩ n);split
  ·rename_i f
   have⟨q1,b,c⟩:=k1 f;exact .inr ⟨q1,b,c⟩
  ·rename_i f
   rcases k2 f with⟨q1,b,c⟩ | ⟨q1,b,c⟩
   ·rw[Zac b];exact .inl ⟨q1,c⟩
   ·rw[Zaa q1];exact .inr ⟨q1,b,c⟩
theorem Q0 (F:Fx G) (A:GQ G (deep+1) aH mH) (h:At G deep s t) (k:s.ab<=4) (hl:s.i<G.length):Rel G deep (jb G aH s) (ga G mH deep t):=by
 have a:=h.next hl;have g:=F.one s.i hl;unfold jb ga;rw[h.i];by_cases b:fi G s.i
 ·rw[Zac b,Zac b];exact fS h.e a.e2 (by decide)
 rw[Zaa b,Zaa b];generalize aK G s.i=r at g ⊢;by_cases c1:r=40
 ·grind [Nf]
 rw[Zaa c1,Zaa c1];by_cases c2:r=91
 ·grind [Ym]
 rw[Zaa c2,Zaa c2];by_cases c3:r=46
 ·subst c3;exact .inl ⟨a,rfl⟩
 rw[Zaa c3,Zaa c3];by_cases c4:r=94
 ·subst c4;exact .inl ⟨a,rfl⟩
 rw[Zaa c4,Zaa c4];by_cases c5:r=36
 ·subst c5;exact .inl ⟨a,rfl⟩
 rw[Zaa c5,Zaa c5];by_cases c6:r=92
 ·rw[Zac c6,Zac c6];have⟨hs,_⟩:=Ef F h hl;rcases hs with⟨j,f⟩ | ⟨f,c,d⟩
  ·refine .inl ⟨j,?_⟩;grind
  ·exact .inr ⟨f,c,d⟩
 rw[Zaa c6,Zaa c6];by_cases c7:r=42\/r=43\/r=63\/r=41\/r=93\/r=123\/r=125\/r=124
 ·rw[Zac c7,Zac ω];exact fS h.e a.e2 (by decide)
 ·rw[Zaa c7,Zaa ω,g];exact .inl ⟨a,rfl⟩
theorem sj {a b:Ps×Int×Int} (h:Yn G deep a b) (x:List Nd):Rel G deep (nL G a.1 a.2.1 a.2.2 x) (jG G b.1 b.2.1 b.2.2 x):=by
 unfold nL jG;rcases h with⟨h,g⟩ | ⟨f,c,d⟩
 ·rw[Zaa (by rw[h.e];simp),g,fB h.i];exact .inl ⟨h.skip 63,rfl⟩
 ·rw[Zac f];refine .inr ⟨f,?_⟩;unfold bp;split<;>exact⟨c,d⟩
theorem Yo (F:Fx G) (A:GQ G (deep+1) aH mH) (h:At G deep s t) (p:s.ab<=4) (hl:s.i<G.length):Rel G deep (fv G aH s) (si G mH deep t):=by
 have l:=Q0 F A h p hl;unfold fv si;generalize jb G aH s=a at l ⊢;generalize ga G mH deep t=b at l ⊢;have⟨d,a2⟩:=a;have⟨b1,j⟩:=b;rcases l with⟨c,f⟩ | ⟨f,m,n⟩
 ·simp only at c f ⊢;subst f;rw[Zaa (by rw[c.e];simp)];by_cases hle:G.length<=b1.i
  ·rw[Zac (show b1.an≠0\/G.length<=b1.i from .inr hle)];have g:∀r,bb G d r=false:=λr=>by
    cases q:bb G d r
    ·rfl
    ·have:=gK q;have:=c.i;omega
   rw[g,g,g,g];exact .inl ⟨c,rfl⟩
  ·rw[Zaa (show ¬(b1.an≠0\/G.length<=b1.i) by rw[c.e2];simp;omega)];have o:d.i<G.length:=by have:=c.i;omega
   have k:=c.next o;rw[fB c.i,fB c.i,fB c.i,fB c.i];by_cases c1:bb G d 42
   ·rw[Zac c1,Zac c1];exact sj (a:=(d.next,0,-1)) (b:=(b1.next,0,-1)) (.inl ⟨k,rfl⟩) j
   rw[Zaa c1,Zaa c1];by_cases c2:bb G d 43
   ·rw[Zac c2,Zac c2];exact sj (a:=(d.next,1,-1)) (b:=(b1.next,1,-1)) (.inl ⟨k,rfl⟩) j
   rw[Zaa c2,Zaa c2];by_cases c3:bb G d 63
   ·rw[Zac c3,Zac c3];exact sj (a:=(d.next,0,1)) (b:=(b1.next,0,1)) (.inl ⟨k,rfl⟩) j
   rw[Zaa c3,Zaa c3];by_cases c4:bb G d 123
   ·grind [sj,Nc]
   rw[Zaa c4,Zaa c4];exact .inl ⟨c,rfl⟩
 ·rw[Zac f,Zac (.inl ω)];exact .inr ⟨f,m,n⟩
def GR {α:Type} (G:List Gt) (deep:Nat) (a b:Ps×α):Prop:=Rel G deep a b\/(deep=0/\a.1.an=4/\a.1.wh=aI G b.1.i/\b.1.an=0/\bb G b.1 41)
theorem AL (h:x.an≠0):eI G aH Z x a=(x,a):=by
 cases Z with
 | zero=>rfl
 | succ Z=>rw[eI,Zaa (λk=>h k.1)]
theorem GU (h:x.an≠0):ej G mH deep Z x a=(x,a):=by
 cases Z with
 | zero=>rfl
 | succ Z=>rw[ej,Zaa (λk=>h k.1)]
theorem qf (h:x.an≠0):gx G aH Z x a=(x,a):=by
 cases Z with
 | zero=>rfl
 | succ Z=>rw[gx,Zaa (λk=>h k.1)]
theorem lU (h:x.an≠0\/bb G x 124=false):dP G mH deep Z x a=(x,a):=by
 cases Z with
 | zero=>rfl
 | succ Z=>rw[dP,Zaa (by grind)]
theorem AM (F:Fx G) (A:GQ G (deep+1) aH mH) (O:mF G aH):∀(n:Nat) (s t:Ps) (f:List (List Nd)),At G deep s t->s.ab<=4->GR G deep (eI G aH n s f) (ej G mH deep n t f)
 | 0,s,t,f,h,m=>.inl (.inl ⟨h,rfl⟩)
 | n+1,s,t,f,h,m=>by
  unfold eI ej;rw[fB h.i,fB h.i,h.i];by_cases c1:s.i<G.length/\bb G s 124=false
  ·by_cases c2:bb G s 41
   ·rw[Zaa (λk:t.an=0/\_=>by grind)];by_cases c3:0<s.ak
    ·rw[Zaa (λk=>k.2.2.2 ⟨c2,c3⟩)];exact .inl (.inl ⟨h,rfl⟩)
    ·rw[Zac ⟨h.e,c1.1,c1.2,λk=>c3 k.2⟩];have u:aK G s.i=41:=by grind [qe]
     have r:jb G aH s=(s.ax G s.i 4,[]):=by
      grind [jb]
     have er:fv G aH s=(s.ax G s.i 4,[]):=by
      unfold fv;simp only[r];rw[Zac (by rw[bQ h.e];simp)]
     rw[er];rw[AL (by rw[bQ h.e];simp)];refine .inr ⟨by have:=h.o;omega,by rw[bQ h.e],by rw[bQ h.e];show _=aI G t.i;rw[h.i],h.e2,(fB h.i 41).trans c2⟩
   ·have g:bb G s 41=false:=by grind
    rw[Zac ⟨h.e,c1.1,c1.2,λk=>c2 k.1⟩,Zac ⟨h.e2,c1.1,c1.2,g⟩];have p:=Yo F A h m c1.1;have c:=(xz O c1.1 m).1.gm;generalize fv G aH s=a at p c ⊢;generalize si G mH deep t=b at p ⊢;have⟨q,a2⟩:=a;have⟨b1,w⟩:=b;rcases p with⟨v,d⟩ | ⟨d,j,l⟩
    ·subst d;exact AM F A O n q b1 _ v c
    ·rw[AL d,GU ω];exact .inl (.inr ⟨d,j,l⟩)
  ·rw[Zaa (λk=>c1 ⟨k.2.1,k.2.2.1⟩),Zaa (λk=>c1 ⟨k.2.1,k.2.2.1⟩)];exact .inl (.inl ⟨h,rfl⟩)
theorem Eh {α β:Type} {a b:Ps×α} (f:α->β) (h:GR G deep a b):GR G deep (a.1,f a.2) (b.1,f b.2):=by
 rcases h with(⟨h,c⟩ | h) | h
 ·exact .inl (.inl ⟨h,by grind⟩)
 ·exact .inl (.inr h)
 ·exact .inr h
def Kp (F:Fx G) (A:GQ G (deep+1) aH mH) (O:mF G aH) (h:At G deep s t) (a:s.ab<=4):GR G deep (mD G aH s) (oG G mH deep t):=by
 unfold oG;rw[h.i];exact Eh (bW 3) (AM F A O _ s t [] h a)
theorem AN (F:Fx G) (A:GQ G (deep+1) aH mH) (O:mF G aH):∀(n:Nat) (s t:Ps) (l:List (List Nd)),At G deep s t->s.ab<=4->GR G deep (gx G aH n s l) (dP G mH deep n t l)
 | 0,s,t,l,h,m=>.inl (.inl ⟨h,rfl⟩)
 | n+1,s,t,l,h,m=>by
  unfold gx dP;rw[fB h.i];by_cases c1:bb G s 124
  ·rw[Zac ⟨h.e,c1⟩,Zac ⟨h.e2,c1⟩];have p:=h.next (gK c1);have o:=Kp F A O p m;have j:=(mG O (s:=s.next) p.le m).1.gm;generalize mD G aH s.next=a at o j ⊢;generalize oG G mH deep t.next=b at o ⊢;have⟨q,a2⟩:=a;have⟨b1,u⟩:=b;rcases o with(⟨r,f⟩ | ⟨f,c,d⟩) | ⟨hd,f,c,d,he3⟩
   ·subst f;exact AN F A O n q b1 _ r j
   ·rw[qf f,lU (.inl ω)];exact .inl (.inr ⟨f,c,d⟩)
   ·have g:bb G b1 124=false:=by
     grind [gK,qe]
    rw[qf ω,lU (.inr g)];exact .inr ⟨hd,f,c,d,he3⟩
  ·rw[Zaa (λk=>c1 k.2),Zaa (λk=>c1 k.2)];exact .inl (.inl ⟨h,rfl⟩)
theorem Q3 (F:Fx G) (A:GQ G (deep+1) aH mH) (O:mF G aH) (h:At G deep s t) (l:s.ab<=4):GR G deep (Ed G aH s) (uA G mH deep t):=by
 have j:=Kp F A O h l;have g:=(mG O (s:=s) h.le l).1.gm;unfold Ed uA;simp only;generalize mD G aH s=a at j g ⊢;generalize oG G mH deep t=b at j ⊢;have⟨m,a2⟩:=a;have⟨b1,n⟩:=b;rcases j with(⟨k,e⟩ | ⟨e,c,d⟩) | ⟨hd,e,c,d,he3⟩
 ·subst e;rw[k.i];exact Eh (bW 4) (AN F A O _ m b1 [n] k g)
 ·rw[qf e,lU (.inl ω)];exact .inl (.inr ⟨e,c,d⟩)
 ·have f:bb G b1 124=false:=by
   grind [gK,qe]
  rw[qf ω,lU (.inr f)];exact .inr ⟨hd,e,c,d,he3⟩
theorem Kq (F:Fx G):∀(n deep:Nat) (s t:Ps),At G deep s t->s.ab<=4->GR G deep (qZ G n s) (Cj G n deep t)
 | 0,deep,s,t,h,a=>.inl (.inl ⟨h,rfl⟩)
 | n+1,deep,s,t,h,a=>by
  refine Q3 F (λs t h a=>?_) (vW n) h a;rcases Kq F n (deep+1) s t h a with h1 | h1
  all_goals grind
def fin (G:List Gt) (a:Ps×List Nd):List Nd×Int×Int:=
 let s:=if a.1.an=0/\a.1.i<G.length then a.1.ax G a.1.i 4 else a.1
 if s.an≠0 then([],s.an,s.wh) else(a.2,0,0)
theorem xD (a:x.an=0) (hi:x.i<G.length):fin G (x,b)=([],4,aI G x.i):=by grind [fin,Ps.ax]
theorem Q4 (a:x.an=0) (hi:¬x.i<G.length):fin G (x,b)=(b,0,0):=by grind [fin]
theorem Kr (a:x.an≠0):fin G (x,b)=([],x.an,x.wh):=by simp[fin,a]
theorem Ng (F:Fx G):GN G=xw G:=by
 have h:=Kq F 21 0 Pe Pe ⟨rfl,rfl,rfl,rfl,rfl,Zaj _⟩ (by decide);show fin G (Cj G 21 0 Pe)=fin G (qZ G 21 Pe)
 generalize qZ G 21 Pe=a at h ⊢;have⟨j,a2⟩:=a;rcases h with(⟨b,d⟩ | ⟨d,f,g⟩) | ⟨hd,d,f,g,he3⟩
 ·subst d;by_cases c:j.i<G.length
  ·rw[xD b.e2 (by rw[b.i];exact c),xD b.e c,b.i]
  ·rw[Q4 b.e2 (by rw[b.i];exact c),Q4 b.e c]
 ·grind [Kr]
 ·grind [xD,gK,Kr]
end
end syn
end Go.Proofs.YtiiiphndmbabcaaGreat
