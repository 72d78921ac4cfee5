/- StreamRises: a part of the proof. -/
import Derived.Test.YtadfknojfbmjgaaGreatC8
import Derived.Below
set_option linter.all false
namespace Go.Proofs.YtadfknojfbmjgaaGreat
namespace sx
open Go Go.RowKit
section
variable {P:Program} {D:Data} {cd:TypeId->Option Nat} {ca:yM D.E} {iX:cH D} {M M':Pm D} {w w':World} {s s':St D.E} {φ φ':T (AV D.E)} {a:Act} {N:Nat}
variable {H0:Hp D} {M0:Pm D} {w0:World} {base:Nat}
variable {b:Code} {B:Wk D} {L:gP D}
def y2 (P:Program) (H0:Hp D) (d:Pm D) (w0:World) (base N:Nat) (c:Code) (j:Wk D):Prop:=∀(p:Nat) (s:St D.E) (φ:T (AV D.E)) (Q:Dc D),j p s φ Q->∀(M:Pm D) (a:Act) (w:World),F8 H0 d w0 base N s φ M a w->∀R:Exit->Act->World->Prop,
 (∀e g b i f h,Q e g b->F8 H0 d w0 base N g b i f h->R (QnH e) f h)->c.wp P R a w
theorem r5:∀{l:List Nat} {a:List (AV D.E)},(wx D φ l).H a->a.length=l.length
 | [],a,h=>by cases ai.1 (show(C.ret []).H a from h);rfl
 | t::l,a,h=>by
  obtain⟨v,h1,b⟩:=af.1 (show(av (cE (φ.get t)) λv=>av (wx D φ l) λr=>.ret (v::r)).H a from h);obtain⟨r,c,d⟩:=af.1 b;cases ai.1 d;simp[r5 c]
def DJ (U:aP D) (V:y2 P H0 M0 w0 base N b B):y2 P H0 M0 w0 base N (.loop b) (zD D base L B):=by
 intro p s φ Q h M a w l R A;obtain⟨⟨v,kp⟩,h1,G⟩:=fX (show(av (wx D φ L.aH) λv=>av (Ma D s L.kp) λkp=>.ret (v,kp)).wp _ from h);obtain⟨kv',I,J⟩:=af.1 h1;obtain⟨kp',_,K⟩:=af.1 J;cases ai.1 K;have o:=r5 I;obtain⟨⟨x,Y⟩,d⟩:=G;have key:∀(n:Nat) (x:L.X),L.me x<n->L.inv x->∀(s:St D.E) (φ:T (AV D.E)) (M:Pm D) (a:Act) (w:World) (u:Unit),(t_ D base L x v kp s φ).H u->F8 H0 M0 w0 base N s φ M a w->Code.rounds P b R n a w:=by
  intro n
  induction n with
  | zero=>intro x q;omega
  | succ n Z=>
   intro x q hinv s φ M a w u W l;obtain⟨⟨sh,φh⟩,j,k⟩:=fX (d x ⟨hinv⟩);obtain⟨C,m⟩:=wY U W j o l;rw[rounds_succ];refine V _ _ _ _ k C a w m _ λe y f g a2 z r c=>?_
   cases e with
   | normal=>
    obtain⟨x',t⟩:=r;obtain⟨u',O,S⟩:=fX t;obtain⟨i,F⟩:=S.out;exact Z x' ω i y f g a2 z u' O c
   | exit id=>exact A (.exit id) y f g a2 z r c
   | ret=>exact A .ret y f g a2 z r c
 obtain⟨u,j,k⟩:=fX Y;exact wp_loop_rounds (L.me x+1) (key _ x (Zbr _) k.out s φ M a w u j l)
theorem Ms (Y:aP D) {f:gP D} (Z:y2 P H0 M0 w0 base N b B):y2 P H0 M0 w0 base N (.loop b) (Gq D base L f B):=by
 intro p s φ Q h M a w q R I;obtain⟨⟨d,kp⟩,h1,U⟩:=fX (show(av (wx D φ L.aH) λd=>av (Ma D s L.kp) λkp=>bB (Nat.beq (ly L.aH) (ly f.aH)) (.ret (d,kp))).wp _ from h);obtain⟨kv',G,V⟩:=af.1 h1;obtain⟨kp',_,l⟩:=af.1 V;obtain⟨hl,l⟩:=bm.1 l;cases ai.1 l;have hkv:=r5 G;have J:d.length=f.aH.length:=by
  grind [Nat.eq_of_beq_eq_true,ju]
 obtain⟨⟨x,hx⟩,lK,hb2⟩:=U;have key:∀(n:Nat) (c:gP D),(c=L\/c=f)->∀(x:c.X),c.me x<n->c.inv x->∀(s:St D.E) (φ:T (AV D.E)) (M:Pm D) (a:Act) (w:World) (u:Unit),(t_ D base c x d kp s φ).H u->F8 H0 M0 w0 base N s φ M a w->Code.rounds P b R n a w:=by
  intro n
  induction n with
  | zero=>intro _ _ x v;omega
  | succ n ih=>
   intro c hL x v hinv s φ M a w u hm q;have g:Pn D base c d kp B p (λn s φ=>wy D base L d kp n s φ\/wy D base f d kp n s φ) Q:=by grind
   have t:d.length=c.aH.length:=by grind
   obtain⟨⟨sh,φh⟩,m,o⟩:=fX (g x ⟨hinv⟩);obtain⟨K,r⟩:=wY Y hm m t q;rw[rounds_succ];refine Z _ _ _ _ o K a w r _ λe A i F a2 C y j=>?_
   have again:∀k:gP D,(k=L\/k=f)->wy D base k d kp (c.me x) A i->Code.rounds P b R n a2 C:=λk G ⟨x',z⟩=>by
    obtain⟨u',h8,W⟩:=fX z;obtain⟨O,S⟩:=W.out;grind
   cases e with
   | normal=>exact(y:_\/_).elim (again L (.inl rfl)) (again f (.inr rfl))
   | exit id=>exact I (.exit id) A i F a2 C y j
   | ret=>exact I .ret A i F a2 C y j
 obtain⟨u,m,o⟩:=fX hx;exact wp_loop_rounds (L.me x+1) (key _ L (.inl rfl) x (Zbr _) o.out s φ M a w u m q)
theorem DK (H:aP D) {y:Code} {o:Wk D} (I:y2 P H0 M0 w0 base N b B) (J:y2 P H0 M0 w0 base N y o):y2 P H0 M0 w0 base N (.seq b y) (zE D base L B o):=by
 intro p s φ Q h M a w G R f;obtain⟨⟨l,kp⟩,h1,r⟩:=fX (show(av (wx D φ L.aH) λl=>av (Ma D s L.kp) λkp=>.ret (l,kp)).wp _ from h);obtain⟨T,t,v⟩:=af.1 h1;obtain⟨S,_,A⟩:=af.1 v;cases ai.1 A;have g:=r5 t;obtain⟨K,O⟩:=r;refine wp_seq (I _ _ _ _ K M a w G _ λe m c k a2 j i x=>?_);cases e with
 | normal=>
  obtain⟨z,hz⟩:=i;obtain⟨u,n,C⟩:=fX hz;obtain⟨⟨sh,U⟩,E,F⟩:=fX (O z C);obtain⟨q,d⟩:=wY H n E g x;exact J _ _ _ _ F q a2 j d R f
 | exit id=>exact f (.exit id) m c k a2 j i x
 | ret=>exact f .ret m c k a2 j i x
theorem Mu (o:y2 P H0 M0 w0 base N b B) (n:Nat):y2 P H0 M0 w0 base N (.loop b) (Bz D n B):=by
 intro p s φ Q h M a w m R k;refine wp_loop_rounds n ?_
 induction n generalizing p s φ M a w with
 | zero=>exact(h:False).elim
 | succ n q=>
  rw[rounds_succ];refine o _ _ _ _ h M a w m _ λe i d f a2 j g c=>?_
  cases e with
  | normal=>exact q _ i d g f a2 j c
  | exit id=>exact k (.exit id) i d f a2 j g c
  | ret=>exact k .ret i d f a2 j g c
theorem QdT (G:aP D) (U:P.follows .mixedOrders) (V:yY P) (T:yX P D ca) (c:Code):y2 P H0 M0 w0 base N c (CW P D cd ca base iX N c):=by
 induction c with
 | skip=>exact λp s φ Q h M a w i R d=>wp_skip (d .normal s φ M a w h i)
 | region id ops draw=>
  intro p s φ Q h M a w i R d;obtain⟨s1,W,M1,h1,m⟩:=tc G (show oN D iX.hs id s φ _ from h) i;cases draw with
  | true=>
   obtain⟨⟨Y,J⟩,O,S⟩:=fX (show(Pc P D cd (Xi iX.mu id) ca ops.toList N s1 W).wp _ from h1);obtain⟨_,X⟩:=PU (id:=id) G U V T O;exact X M1 a w m.gn m.fr m.tf.fresh R λz o u H B=>d .normal Y J z o u S (m.step H B)
  | false=>
   obtain⟨⟨Y,J⟩,O,S⟩:=fX (show(wv P D cd (Xi iX.mu id) ca ops.toList N ops.toList 0 s1 W).wp _ from h1);obtain⟨_,X⟩:=s9 G V T _ _ _ _ _ _ O;exact wp_region_list (X M1 a w m.gn m.fr m.tf.fresh R λz o u H B=>d .normal Y J z o u S (m.step H B))
 | seq x y q r=>
  intro p s φ Q h;have h:Option.rec (motive:=λ_=>Prop) (Option.rec (motive:=λ_=>Prop) (CW P D cd ca base iX N x (2*p) s φ (Xg D Q λs φ=>CW P D cd ca base iX N y (2*p+1) s φ Q)) (λL=>zE D base L (CW P D cd ca base iX N x) (CW P D cd ca base iX N y) p s φ Q) (ch iX.jn p))
   (λF=>∃k:F.K,zE D base (F.L k) (CW P D cd ca base iX N x) (CW P D cd ca base iX N y) p s φ Q) (ch iX.kf p):=h
  cases B:ch iX.kf p with
  | some F=>
   rw[B] at h;obtain⟨k,hk⟩:=h;exact DK G q r p s φ Q hk
  | none=>
  rw[B] at h;have h:Option.rec (motive:=λ_=>Prop) (CW P D cd ca base iX N x (2*p) s φ (Xg D Q λs φ=>CW P D cd ca base iX N y (2*p+1) s φ Q)) (λL=>zE D base L (CW P D cd ca base iX N x) (CW P D cd ca base iX N y) p s φ Q) (ch iX.jn p):=h;cases hj:ch iX.jn p with
  | some L=>rw[hj] at h;exact DK G q r p s φ Q h
  | none=>
   rw[hj] at h;intro M a w i R d;refine wp_seq (q _ _ _ _ h M a w i _ λe C g z o u n j=>?_);cases e with
   | normal=>exact r _ _ _ _ n z o u j R d
   | exit id=>exact d (.exit id) C g z o u n j
   | ret=>exact d .ret C g z o u n j
 | cond c x y q r=>
  intro p s φ Q h M a w i R d;obtain⟨t,h1,O⟩:=fX (show(av (ev P D φ c) λv=>Da D v).wp _ from h);obtain⟨v,S,h4⟩:=af.1 h1;have hv:=Ka h4 (dW S i.fr);cases t with
  | true=>exact wp_cond_true hv (q _ _ _ _ O M a w i R d)
  | false=>exact wp_cond_false hv (r _ _ _ _ O M a w i R d)
 | block id b I=>
  intro p s φ Q h M a w i R d;refine wp_block (I _ _ _ _ h M a w i _ λe C g z o u n j=>?_);cases e with
  | normal=>exact d .normal C g z o u n j
  | ret=>exact d .ret C g z o u n j
  | exit A=>
   have n:cond (Nat.beq A id) (Q .normal C g) (Q (.exit A) C g):=n;show Exit.inBlock id R (.exit A) o u
   by_cases e:A=id
   ·rw[aF.2 e] at n;simp only[Exit.inBlock,Zac e];exact d .normal C g z o u n j
   ·rw[wA.2 e] at n;simp only[Exit.inBlock,Zaa e];exact d (.exit A) C g z o u n j
 | loop b I=>
  intro p s φ Q h;have h:Option.rec (motive:=λ_=>Prop) (Option.rec (motive:=λ_=>Prop) (Bz D iX.un (CW P D cd ca base iX N b) p s φ Q) (λL=>zD D base L (CW P D cd ca base iX N b) p s φ Q) (ch iX.lp p))
   (λF=>∃k:F.K,Option.rec (motive:=λ_=>Prop) (zD D base (F.L k) (CW P D cd ca base iX N b) p s φ Q) (λZ=>Gq D base (F.L k) Z (CW P D cd ca base iX N b) p s φ Q) F.E) (ch iX.kf p):=h
  cases B:ch iX.kf p with
  | some F=>
   rw[B] at h;obtain⟨k,hk⟩:=h;obtain⟨K,L,E⟩:=F;cases E with
   | none=>exact DJ G I p s φ Q hk
   | some Z=>exact Ms G I p s φ Q hk
  | none=>
  rw[B] at h;have h:Option.rec (motive:=λ_=>Prop) (Bz D iX.un (CW P D cd ca base iX N b) p s φ Q) (λL=>zD D base L (CW P D cd ca base iX N b) p s φ Q) (ch iX.lp p):=h;cases n:ch iX.lp p with
  | none=>rw[n] at h;exact Mu I iX.un p s φ Q h
  | some L=>rw[n] at h;exact DJ G I p s φ Q h
 | rangeFunc f ps x y q r=>exact λp s φ Q h=>(h:False).elim
 | exit id=>exact λp s φ Q h M a w i R d=>wp_exit (d (.exit id) s φ M a w h i)
 | scope b I=>exact λp s φ Q h=>(h:False).elim
 | label l=>exact λp s φ Q h M a w i R d=>wp_label (d .normal s φ M a w h i)
 | goto l=>exact λp s φ Q h=>(h:False).elim
 | ret=>exact λp s φ Q h M a w i R d=>wp_ret (d .ret s φ M a w h i)
 | refuse y=>exact λp s φ Q h=>(h:False).elim
theorem wZ:∀{b:List (AV D.E)} {i:Nat} {φ a:T (AV D.E)},(wz D b i φ).H a->∀t,a.get t=if i<=t/\t<i+b.length then b[t-i]? else φ.get t
 | [],i,φ,a,h,t=>by cases ai.1 (show(C.ret φ).H a from h);simp;omega
 | v::b,i,φ,a,h,t=>by
  obtain⟨d,h1,c⟩:=af.1 (show(av (cE (φ.put i (some v))) (λφ=>wz D b (i+1) φ)).H a from h);rw[wZ c t,T.dU _ _ _ _ (bu.1 h1) t];grind
theorem Mw {a:List (AV D.E)} {A:Array Value} (h:(wz D a 0 .nil).H φ) (hl:LR M a A.toList) (g:a.length<=N):
  FR M φ { tmps:=A++Array.replicate (N-A.size) Go.undef,defers:=[] } N:=by
 have hlen:a.length=A.size:=by rw[hl.1,Zba]
 refine⟨λt v b=>?_,?_,rfl⟩
 ·rw[wZ h t] at b;simp only[Zaj,Zal,Za6,Zdp] at b;by_cases ht:t<a.length
  ·rw[Zac ht] at b;obtain⟨d,c,e⟩:=hl.get b;have f:(A++Array.replicate (N-A.size) Go.undef).getD t Go.undef=d:=by
    rw[ZaL] at c;rw[ZaT,ZbT ω,c];rfl
   grind
  ·grind [T.get_nil]
 ·grind
theorem DL (i:aP D) {C:Nat}:∀{rs:List ResultVar} {c:List (AV D.E)},(Xj P D s φ rs).H c->FR M φ a C->ey M s.h.get w->∃f,LR M c f/\(rs.mapM λr=>(match r with
   | .tmp t=>Pure.pure (a.tmps.getD t Go.undef)
   | .cell b t=>do loadVar t (<-Go.asAddr (a.tmps.getD b Go.undef)):Sem Value)).run P w=.ok f w
 | [],c,h,_,_=>by cases ai.1 (show(sx.C.ret []).H c from h);exact⟨[],.nil,by simp⟩
 | r::rs,c,h,hf,hS=>by
  obtain⟨v,j,h1⟩:=af.1 (show(av (Po P D s φ r) (λv=>av (Xj P D s φ rs) λc=>.ret (v::c))).H c from h);obtain⟨us,g,l⟩:=af.1 h1;cases ai.1 l;obtain⟨d,hl,y⟩:=DL i g hf hS;cases r with
  | tmp t=>
   refine⟨a.tmps.getD t Go.undef::d,.cons (hf.at_ t v (bu.1 j)) hl,?_⟩;simp_all
  | cell b t=>
   obtain⟨u,hu,m⟩:=af.1 (show(av (cE (φ.get b)) λv=>C7 P D s t v).H v from j);obtain⟨k,o,e,p,q,n⟩:=zJ (P:=P) i m (hf.at_ b u (bu.1 hu)) hS;have x:(do loadVar t (<-Go.asAddr (a.tmps.getD b Go.undef)):Sem Value).run P w=.ok k w:=by
    grind [Go.asAddr]
   refine⟨k::d,.cons n hl,?_⟩;rw[ZdP,Zzd];simp_all
theorem DM {fn:Func} {c:List Value} (n:(fn.results.toList.mapM λr=>(match r with
   | .tmp t=>Pure.pure (a.tmps.getD t Go.undef)
   | .cell b t=>do loadVar t (<-Go.asAddr (a.tmps.getD b Go.undef)):Sem Value)).run P w=.ok c w) {res:AV D.E} (d:Pq D res) (hl:LR M (BA D res) c):∃g,(results fn a.tmps).run P w=.ok g w/\VR M res g:=by
 have l:(fn.results.mapM λr=>(match r with
   | .tmp t=>Pure.pure (a.tmps.getD t Go.undef)
   | .cell b t=>do loadVar t (<-Go.asAddr (a.tmps.getD b Go.undef)):Sem Value)).run P w=.ok c.toArray w:=by
  rw[Array.mapM_eq_mapM_toList];simp_all
 refine⟨if h:c.toArray.size=1 then c.toArray[0] else .tuple c.toArray,?_,?_⟩
 ·unfold results;simp only[Zzd];exact(ZaR (λr:Result (Array Value)=>r.andThen λi m=>Sem.run P (Pure.pure (if h:i.size=1 then i[0] else .tuple i)) m) l).trans rfl
 ·have one:∀{v:AV D.E},LR M [v] c->VR M v (if h:c.toArray.size=1 then c.toArray[0] else .tuple c.toArray):=λh=>by
   obtain⟨g,r,rfl,h1,k⟩:=h.bX;obtain rfl:=k.oq;exact h1
  cases res<;>simp only[BA] at hl<;>(try exact one hl)
  rename_i j
  have f:j.length≠1:=by
   have:Bool.not (Nat.beq (ly j) 1):=d;rw[ju] at this;intro e;simp_all
  rw[dif_neg (by rw[Zb5,<-hl.1];exact f)];exact .Dg hl
theorem P9 {ha hb:List (Nat×AO D.E)}:(∀t o,ch ha t=some o->(ch hb t).isSome->dT (stay D ha hb) t=some t)/\∀t b,dT (stay D ha hb) t=some b->b=t:=by
 induction ha with
 | nil=>exact⟨λt o h=>(by cases(show none=some o from h)),λt b h=>(by cases(show none=some b from h))⟩
 | cons p l a=>
  grind [stay,jf,fj]
theorem r6 (T:aP D) (F:P.follows .mixedOrders) (OH:yY P) {k:bf D} {y:k.Y} {fn:Func} (W:P.funcs[k.f]?=some fn) (U:fn.body=some b) (V:yX P D ca) (hN:(k.args y).length<=fn.ntmps)
  (hb:Qbx P D cd ca iX fn.ntmps k b fn.results.toList y) (M:Pm D) (A:Array Value) (w:World) (hl:LR M (k.args y) A.toList) (hS:ey M (λt=>ch (k.heap y) t) w) (hT:TF M k.ox) (R:Ending->World->Prop)
  (hR:∀M' u w',VR M' (k.res y) u->cL (λt=>ch (k.heap y) t) M w (λt=>ch (k.h_ y) t) M' w' k.ox k.Bv->R (.returned u) w'):Calls P k.f A w R:=by
 obtain⟨⟨φ,h⟩,h1,h2⟩:=fX (show(av (wz D (k.args y) 0 .nil) λφ=>av (Mb D (k.heap y) .nil) λh=>.ret (φ,h)).wp _ from hb);obtain⟨x,h3,h4⟩:=af.1 h1;obtain⟨h',h5,h6⟩:=af.1 h4;cases ai.1 h6;have E:=wW h5;refine calls_of_wp W U ?_;have hA:F8 (λt=>ch (k.heap y) t) M w k.ox fn.ntmps ⟨h,k.ox⟩ φ M { tmps:=A++Array.replicate (fn.ntmps-A.size) Go.undef,defers:=[] } w:=
  ⟨by grind,Mw h3 hl hN,hT,by show Xv _ M w h.get M w;rw[E];exact .refl _ _ _,λt a _ e=>e,Zah _⟩
 refine QdT T F OH V b _ _ _ _ h2 M _ w hA _ λe s' x M2 a2 B I g=>?_
 have fin:(bB (Bool.and (Pq D (k.res y)) (Bool.and (named D (k.heap y) (k.h_ y) k.ox k.Bv) (Nat.ble k.ox k.Bv))) (av (Xj P D s' x fn.results.toList) λvs=>Pf D s' (stay D (k.h_ y) (k.heap y)) (k.h_ y) vs (BA D (k.res y)))).wp (λ_=>True)->
   a2.defers=[]/\∃v,(results fn a2.tmps).run P B=.ok v B/\R (.returned v) B:=λI=>by
  obtain⟨⟨s3,r⟩,g1,_⟩:=fX I;obtain⟨g2,g3⟩:=bm.1 g1;obtain⟨K,g4⟩:=l4 g2;obtain⟨hnm,s⟩:=l4 g4;have s:=b9.1 s;obtain⟨vs,g5,g6⟩:=af.1 g3;obtain⟨st1,st2⟩:=P9 (D:=D) (ha:=k.h_ y) (hb:=k.heap y);have G:=BO T (λt t' c e e'=>by grind) g6;obtain⟨z,i1,i2,i3,i4⟩:=G.sem M2 B g.gn g.tf.fresh;have d:F8 (λt=>ch (k.heap y) t) M w k.ox fn.ntmps s3 x z a2 B:=g.step i1 (g.fr.mono (i1.Le g.tf.fresh));obtain⟨vs',X,L⟩:=DL T g5 g.fr g.gn
  let O:Pm D:=⟨λt=>if k.ox<=t/\t<k.Bv then(rl r z).pl t else M.pl t,z.sg⟩
  have m:∀t o,ch (k.h_ y) t=some o->(∃S,ch (k.heap y) t=some S)\/(k.ox<=t/\t<k.Bv):=λt o ht=>by
   rcases or2 (dV.1 hnm _ (oZ ht)) with q | q
   ·exact .inl (ZcI.1 q)
   ·grind [b9]
  have H:∀t a,(rl r z).pl t=some a->O.pl t=some a:=λt a e=>by
   show(if _ then _ else _)=_
   by_cases J:k.ox<=t/\t<k.Bv
   ·grind
   ·rw[Zaa J];obtain⟨c,p,e2⟩:=fU e;obtain⟨ot,oa,n,C,_⟩:=i4 t c p;rcases m t ot C with⟨S,Q⟩ | q
    ·have:=G.ext t t (st1 t ot C (by rw[Q];rfl));rw[p] at this;cases this;obtain⟨j,e5,_⟩:=hS.obj t S Q;exact d.per t a (hT.lt e5) e2
    ·omega
  have hle:Le (rl r z) O:=⟨H,λ_ _ _ e=>e⟩;obtain⟨u,j1,j2⟩:=DM L K ((i2 _ X).mono hle);refine⟨g.fr.defers,u,j1,hR O u B j2 ?_⟩;have i:∀t o a,ch (k.h_ y) t=some o->O.pl t=some a->(rl r z).pl t=some a:=λt o a ht l=>by
   obtain⟨j,p,_⟩:=i3.obj t o ht;grind
  refine⟨⟨λt o ht=>?_,λt t' o o' a n ht N l Z=>i3.inj t t' o o' a n ht N (i t o a ht l) (i t' o' n N Z),λc o v e=>?_,λt o a ht hw l=>i3.sep t o a ht hw (i t o a ht l),λt b xs e a ht l J=>(i3.J2 t b xs e a ht (i t _ a ht l) J).mono λ_ _ _ h=>h,⟨i3.ml.1,λt o a ht hw l=>i3.ml.2 t o a ht hw (i t o a ht l)⟩⟩,
   λt ht=>Zaa ht,d.DG.J3,d.DG.lJ,d.DG.size,d.DG.aH,λt o a ht l J=>?_,λt ht=>?_,d.DG.os,d.DG.tape,d.DG.output,s⟩
  ·obtain⟨j,p,e2⟩:=i3.obj t o ht;exact⟨j,H t j p,e2.mono hle λ_=>rfl⟩
  ·obtain⟨hp,u,U,hv⟩:=i3.gE c o v e;exact⟨hp,u,U,hv.mono hle⟩
  ·obtain⟨c,p,e2⟩:=fU (i t o a ht l);obtain⟨ot,oa,n,C,Q,e5,e6,_⟩:=i4 t c p;rw[show ch (k.h_ y) t=some o from ht] at C;cases C;rcases d.DG.born c oa a Q e2 J with e7 | ⟨b0,S,j,q1,q2,q3,q4,q5⟩
   ·omega
   ·grind
  ·obtain⟨o,ho⟩:=Zbs.1 ht;grind
 cases e with
 | normal=>exact fin I
 | ret=>exact fin I
 | exit id=>exact(I:False).elim
def bf.under (k:bf D) (me:k.Y->Nat) (n:Nat):bf D:={ k with pre:=λy=>k.pre y/\me y<n }
end
end sx
namespace cls
open Go Go.RowKit
theorem getD_eq {α:Type} {l:List α} {i:Nat} (h:i<l.length) (d:α):l[i]?=some (l.getD i d):=by
 grind
theorem fA {α β:Type} (f:α->List β) (n:Nat) (h:∀x,(f x).length<=n) (l:List α):(l.flatMap f).length<=l.length*n:=by
 induction l with
 | nil=>simp
 | cons x t a=>simp only[Zbt,Zab,Zae];have:=h x;rw[ZaV];omega
abbrev Rg:=Int×Int
variable {l s b:List Rg} {m:List Int} {p:Rg} {y Z:Int} {k:Nat} {c:Int->Bool}
def hasB (l:List Rg) (r:Int):Bool:=l.any λx=>decide (x.1<=r)&&decide (r<=x.2)
theorem P' (h:l[k]?=some p) (r:Int):hasB (l.drop k) r=((decide (p.1<=r)&&decide (r<=p.2))||hasB (l.drop (k+1)) r):=by
 have a:k<l.length:=by
  grind
 rw[Zaq a];rw[Zaf a] at h;cases h;rfl
def fF (r:Int):Bool:=decide (0<=r)&&decide (r<=1114111)&&(decide (r<55296)||decide (57343<r))
def clip (r p:Rg):List Rg:=if max r.1 p.1<=min r.2 p.2 then[(max r.1 p.1,min r.2 p.2)] else[]
def parts:List Rg:=[(0,55295),(57344,1114111)]
def dY (r:Rg):List Rg:=parts.flatMap (clip (max r.1 0,min r.2 1114111))
theorem DN (r p:Rg):(clip r p).length<=1:=by grind [clip]
def te (r:Rg):(dY r).length<=2:=fA _ 1 (DN _) parts
def bV (out:List Rg) (r:Rg):List Rg:=
 match out.getLast? with
 | some p=>if r.1<=p.2+1 then out.dropLast++[(p.1,max p.2 r.2)] else out++[r]
 | none=>[r]
def iG (l:List Rg):List Rg:=l.foldl bV []
def F9 (r:Rg):Prop:=0<=r.1/\r.1<=r.2/\r.2<=1114111
theorem P_ (x:Rg):∀r∈dY x,F9 r:=by
 intro r a;simp only[dY,ZbG] at a;grind [clip,F9]
theorem BR (h:∀r∈l,F9 r) (d:F9 p):∀r∈bV l p,F9 r:=by
 intro r a;unfold bV at a;split at a
 ·rename_i q b
  have c:q∈l:=List.mem_of_getLast? b;grind [List.dropLast_sublist,F9]
 ·grind
theorem y3 (out:List Rg) (r:Rg):(bV out r).length<=out.length+1:=by
 grind [bV]
theorem DO (h:l[k]?=some p):iG (l.take (k+1))=bV (iG (l.take k)) p:=by
 grind [iG,List.take_add_one]
theorem Mx (h:∀p∈l,F9 p):∀p∈iG l,F9 p:=by
 have gen:∀(l out:List Rg),(∀p∈l,F9 p)->(∀p∈out,F9 p)->∀p∈l.foldl bV out,F9 p:=by
  intro l
  induction l with
  | nil=>intro out _ h;exact h
  | cons x t b=>intro out hs a;exact b _ (λp c=>hs p (by grind)) (BR a (hs x (by simp)))
 exact gen l [] h (by simp)
theorem w6 (s:List Rg):(iG s).length<=s.length:=by
 have gen:∀(s out:List Rg),(s.foldl bV out).length<=out.length+s.length:=by
  intro s
  induction s with
  | nil=>intro out;simp
  | cons x t a=>intro out;have:=a (bV out x);have:=y3 out x;simp only[Zb2,Zae];omega
 grind [iG]
def tg (p:Rg):Prop:=0<=p.1/\p.1<=p.2/\p.2<=1114111/\(p.2<55296\/57343<p.1)
def Good (l:List Rg):Prop:=(∀p∈l,tg p)/\l.Pairwise (λp q=>p.2+1<q.1)
theorem r7 (l:List Rg) (r:Int):hasB l r↔∃p∈l,p.1<=r/\r<=p.2:=by
 grind [hasB]
theorem jE (p:Rg) (l:List Rg) (r:Int):hasB (p::l) r=((decide (p.1<=r)&&decide (r<=p.2))||hasB l r):=rfl
theorem w7 (l m:List Rg) (r:Int):hasB (l++m) r=(hasB l r||hasB m r):=by simp[hasB]
theorem Qa (h:l.Perm s) (r:Int):hasB l r=hasB s r:=by
 grind [r7]
theorem gu (r:Int):fF r↔0<=r/\r<=1114111/\(r<55296\/57343<r):=by
 simp[fF];omega
theorem ti (h:Good (p::l)):Good l:=⟨λq a=>h.1 q (by grind),(ZcJ.1 h.2).2⟩
def o3 (h:Good (p::l)) (b:hasB l y):p.2+1<y:=by
 obtain⟨q,a,h1,c⟩:=(r7 _ _).1 b;have:=(ZcJ.1 h.2).1 q a;omega
theorem w8 (h:Good (p::l)) (a:hasB (p::l) y):p.1<=y:=by
 rw[jE,ZbM] at a;rcases a with a | a
 ·grind
 ·have:=o3 h a;have:=h.1 p (by simp);grind [tg]
theorem pO:∀{l m:List Rg},Good l->Good m->(∀r,hasB l r=hasB m r)->l=m
 | [],[],_,_,_=>rfl
 | [],q::u,_,hm,h=>by
  have:=h q.1;have k:=hm.1 q (by simp);grind [tg,hasB]
 | p::t,[],hl,_,h=>by
  have:=h p.1;have k:=hl.1 p (by simp);grind [tg,hasB]
 | p::t,q::u,hl,hm,h=>by
  have ip:=hl.1 p (by simp);have n:=hm.1 q (by simp);unfold tg at ip n;have zy:∀r,p.1<=r->r<=p.2->hasB (p::t) r:=λr a b=>by grind [jE]
  have c:∀r,q.1<=r->r<=q.2->hasB (q::u) r:=λr a b=>by grind [jE]
  have f:p.1=q.1:=by
   have a:=w8 hm ((h p.1).symm.trans (zy p.1 ω ω));have b:=w8 hl ((h q.1).trans (c q.1 ω ω));omega
  have e2:p.2=q.2:=by
   rcases Int.lt_trichotomy p.2 q.2 with e | j | e
   ·have a:=(h (p.2+1)).trans (c (p.2+1) ω ω);rw[jE,ZbM] at a;rcases a with a | a
    ·grind
    ·have:=o3 hl a;omega
   ·exact j
   ·have a:=(h (q.2+1)).symm.trans (zy (q.2+1) ω ω);rw[jE,ZbM] at a;rcases a with a | a
    ·grind
    ·have:=o3 hm a;omega
  have d:p=q:=ZdT f e2;subst d;congr 1;refine pO (ti hl) (ti hm) λr=>?_
  by_cases o:p.1<=r/\r<=p.2
  ·have g:hasB t r=false:=by
    rcases ht:hasB t r with _ | _
    ·rfl
    ·have:=o3 hl ht;omega
   have i:hasB u r=false:=by
    rcases ht:hasB u r with _ | _
    ·rfl
    ·have:=o3 hm ht;omega
   rw[g,i]
  ·have:=h r;grind [jE]
theorem w9 (h:Good l) (f:tg p) (b:∀r∈l,r.1<=p.1):Good (bV l p)/\(∀r∈bV l p,r.1<=p.1)/\∀x,hasB (bV l p) x=(hasB l x||(decide (p.1<=x)&&decide (x<=p.2))):=by
 rcases Zcu l with rfl | ⟨d,r,rfl⟩
 ·refine⟨⟨?_,by simp[bV]⟩,?_,λx=>?_⟩
  ·grind [bV]
  ·grind [bV]
  ·simp[bV,hasB]
 ·rw[Zcv] at*
  have e:bV (d++[r]) p=if p.1<=r.2+1 then d++[(r.1,max r.2 p.2)] else d++[r]++[p]:=by simp[bV]
  have ip:=h.1 r (by simp);have i:=b r (by simp);have j:=ZbC.1 h.2;have g:∀q∈d,q.2+1<r.1:=λq c=>j.2.2 q c r (by simp)
  unfold tg at ip f;rw[e];by_cases c:p.1<=r.2+1
  ·rw[Zac c];refine⟨⟨λq a=>?_,?_⟩,λq a=>?_,λx=>?_⟩
   ·rcases Zax.1 a with a | a
    ·exact h.1 q (by simp[a])
    ·grind [tg]
   ·grind
   ·grind
   ·grind [hasB]
  ·rw[Zaa c];refine⟨⟨λq a=>?_,?_⟩,λq a=>?_,λx=>?_⟩
   ·rcases Zax.1 a with a | a
    ·exact h.1 q a
    ·simp at a;subst a;exact f
   ·grind
   ·grind
   ·grind [hasB]
theorem DP (hs:∀p∈l,tg p) (c:l.Pairwise (λa b=>a.1<=b.1)):Good (iG l)/\∀x,hasB (iG l) x=hasB l x:=by
 have gen:∀(l out:List Rg),(∀p∈l,tg p)->l.Pairwise (λa b=>a.1<=b.1)->Good out->(∀p∈out,∀x∈l,p.1<=x.1)->Good (l.foldl bV out)/\∀x,hasB (l.foldl bV out) x=(hasB out x||hasB l x):=by
  intro l
  induction l with
  | nil=>intro out _ _ h _;exact⟨h,λx=>by simp[hasB]⟩
  | cons r t i=>
   intro out hs c f hl;obtain⟨g1,g2,g3⟩:=w9 f (hs r (by simp)) (λp d=>hl p d r (by simp));have e:=ZcJ.1 c;obtain⟨k1,k2⟩:=i _ (λp d=>hs p (by simp[d])) e.2 g1 (λp d x g=>Int.le_trans (g2 p d) (e.1 x g));grind [jE]
 have:=gen l [] hs c ⟨by simp,by simp⟩ (by simp);assumption
theorem My (x:Rg):∀r∈dY x,tg r:=by
 intro r a;simp only[dY,ZbG] at a;grind [clip,parts,tg]
theorem Qb (x p:Rg) (r:Int):hasB (clip x p) r=(decide (x.1<=r)&&decide (r<=x.2)&&(decide (p.1<=r)&&decide (r<=p.2))):=by
 grind [clip,hasB]
theorem Mz (x:Rg) (r:Int):hasB (dY x) r=(fF r&&(decide (x.1<=r)&&decide (r<=x.2))):=by
 simp only[dY,parts,Zbt,List.flatMap_nil,Zaw,w7,Qb];grind [fF]
theorem Qc (l:List Rg) (r:Int):hasB (l.flatMap dY) r=(fF r&&hasB l r):=by
 induction l with
 | nil=>simp[hasB]
 | cons x t a=>
  grind [w7,Mz,jE]
def w_ (l m:List Rg):Prop:=Good m/\(∀r,hasB m r=(fF r&&hasB l r))/\m.length<=2*l.length
theorem DQ (e:s.Perm (l.flatMap dY)) (d:s.Pairwise (λa b=>a.1<=b.1)):w_ l (iG s):=by
 have c:∀p∈s,tg p:=λp h=>by
  grind [My]
 obtain⟨g,f⟩:=DP c d;refine⟨g,λr=>?_,?_⟩
 ·rw[f,Qa e,Qc]
 ·have h1:=w6 s;have i:=e.length_eq;have j:=fA dY 2 te l;omega
def GM (h:w_ l s) (a:w_ l b):s=b:=pO h.1 a.1 λr=>by rw[h.2.1,a.2.1]
def Qhl (a b:Rg):Bool:=decide (a.1<=b.1)
def aL (l:List Rg):List Rg:=iG ((l.flatMap dY).mergeSort Qhl)
theorem dN (l:List Rg):w_ l (aL l):=by
 refine DQ (List.mergeSort_perm _ _) ?_;grind [List.pairwise_mergeSort,Qhl]
def Qd (h:w_ l s):s=aL l:=GM h (dN l)
def ib (nx:Int):List Rg->List Rg
 | []=>[(nx,1114111)]
 | p::t=>(nx,p.1-1)::ib (p.2+1) t
theorem z6 (nx:Int) (m:List Rg):(ib nx m).length=m.length+1:=by induction m generalizing nx<;>simp_all [ib]
theorem z7:∀(m:List Rg) (nx:Int),Good m->(∀p∈m,nx<=p.1)->∀r,r<=1114111->hasB (ib nx m) r=(decide (nx<=r)&&!hasB m r)
 | [],nx,_,_,r,a=>by simp[ib,hasB,a]
 | p::t,nx,hg,hn,r,a=>by
  have ip:=hg.1 p (by simp);unfold tg at ip;have d:=ZcJ.1 hg.2;have c:=z7 t (p.2+1) (ti hg) (λq b=>by grind) r a;grind [ib,hasB]
theorem Qe (h:fF y):y<=1114111/\0<=y:=by
 grind [gu]
def Qhm (l n:List Rg):Prop:=Good n/\(∀r,hasB n r=(fF r&&!hasB l r))/\n.length<=4*l.length+2
theorem Xx (a:w_ l s) (n:w_ (ib 0 s) b):Qhm l b:=by
 refine⟨n.1,λr=>?_,?_⟩
 ·rw[n.2.1];rcases c:fF r with _ | _
  ·rfl
  ·have:=Qe c;rw[z7 s 0 a.1 (λp d=>(a.1.1 p d).1) r this.1,a.2.1,c];simp[this.2]
 ·have h1:=n.2.2;have e:=a.2.2;grind [z6]
def b5 (l:List Rg) (lo hi:Int):List Rg:=
 match l.getLast? with
 | some r=>if r.2+1=lo then l.dropLast++[(r.1,hi)] else l++[(lo,hi)]
 | none=>[(lo,hi)]
def swap (m:List Int) (j:Nat):List Int:=(m.set j (m.getD (j+1) 0)).set (j+1) (m.getD j 0)
theorem DR (m:List Int) (j:Nat):(swap m j).length=m.length:=by simp[swap]
theorem DS (m:List Int) (j i:Nat) (h:j+1<m.length):(swap m j).getD i 0=if i=j+1 then m.getD j 0 else if i=j then m.getD (j+1) 0 else m.getD i 0:=by
 grind [swap]
theorem swap_perm (m:List Int) (j:Nat) (h:j+1<m.length):(swap m j).Perm m:=by
 have a:m=m.take j++(m.getD j 0::m.getD (j+1) 0::m.drop (j+2)):=by
  apply Zb6;grind
 grind [swap]
def o4 (m:List Int) (k i:Nat):Prop:=∀a b,a<b->b<=i->b≠k->m.getD a 0<=m.getD b 0
def DT (m:List Int) (i:Nat):Prop:=∀a b,a<b->b<i->m.getD a 0<=m.getD b 0
theorem BS (h:DT m k):o4 m k k:=λa b h1 c d=>h a b h1 ω
theorem DU {i:Nat} (h:o4 m (k+1) i) (hi:i<m.length) (l:k+1<=i) (j:m.getD (k+1) 0<m.getD k 0):o4 (swap m k) k i:=by
 intro a b h1 f g;rw[DS m k a ω,DS m k b ω];by_cases d:b=k+1
 ·subst d;rw[Zac rfl,Zaa ω];by_cases e:a=k
  ·omega
  ·rw[Zaa e];exact h a k ω ω ω
 ·rw[Zaa d,Zaa g];by_cases e:a=k+1
  ·rw[Zac e];exact h k b ω f d
  ·rw[Zaa e];by_cases c:a=k
   ·rw[Zac c];exact h (k+1) b ω f d
   ·rw[Zaa c];exact h a b h1 f d
theorem GN {i:Nat} (h:o4 m k i) (hk:k=0\/m.getD (k-1) 0<=m.getD k 0):DT m (i+1):=by
 intro a b h1 d;by_cases c:b=k
 ·subst c;rcases hk with rfl | hk
  ·omega
  ·by_cases e:a=b-1
   ·grind
   ·have:=h a (b-1) ω ω ω;omega
 ·exact h a b h1 ω c
theorem Qf (h:DT m m.length):m.Pairwise (· <= ·):=by
 rw[ZbD];intro i j hi b a;have:=h i j a b;grind
def m1 (x:Rg):Bool:=decide (x.1<=x.2)&&decide (0<=x.1)&&decide (x.1<=1114111)
def m2 (x:Rg):Bool:=decide (x.1<=x.2)&&decide (0<=x.2)&&decide (x.2<1114111)
def kO (x:Rg):List Int:=(if m1 x then[x.1] else[])++(if m2 x then[x.2+1] else[])
def cP (l:List Rg):List Int:=[0,55296,57344,1114112]++l.flatMap kO
theorem tj (x:Rg):(kO x).length<=2:=by grind [kO]
def Qg (c:Int->Bool) (m:List Int) (k:Nat):Bool:=decide (m.getD k 0<m.getD (k+1) 0)&&(decide (m.getD k 0<55296)||decide (57343<m.getD k 0))&&c (m.getD k 0)
def BU (c:Int->Bool) (m:List Int) (out:List Rg) (k:Nat):List Rg:=if Qg c m k then b5 out (m.getD k 0) (m.getD (k+1) 0-1) else out
def dw (c:Int->Bool) (m:List Int):Nat->List Rg
 | 0=>[]
 | k+1=>BU c m (dw c m k) k
theorem GO (l:List Rg) (lo hi:Int):(b5 l lo hi).length<=l.length+1:=by
 grind [b5]
theorem Qh (c:Int->Bool) (m:List Int) (k:Nat):(dw c m k).length<=k:=by
 induction k with
 | zero=>simp[dw]
 | succ k a=>
  grind [GO,dw,BU]
theorem MA (h:∀r∈l,-10<=r.2/\r.2<=1114111) (a: -10<=Z/\Z<=1114111):∀r∈b5 l y Z,-10<=r.2/\r.2<=1114111:=by
 grind [b5,List.dropLast_sublist]
theorem Xy (a:∀x∈m,0<=x/\x<=1114112):∀k,k+1<=m.length->∀r∈dw c m k,-10<=r.2/\r.2<=1114111:=by
 intro k
 induction k with
 | zero=>intro _ r b;simp[dw] at b
 | succ k e=>
  intro hk;simp only[dw,BU];split
  ·have d:m.getD (k+1) 0∈m:=ZaJ (getD_eq (show k+1<m.length by omega) 0);have:=a _ d;exact MA (e ω) ω
  ·grind
theorem mH:∀x∈cP l,0<=x/\x<=1114112:=by
 intro x a;simp only[cP,Zax,ZbG] at a;rcases a with a | ⟨y,_,a⟩
 ·grind
 ·unfold kO at a;rcases Zax.1 a with a | a
  ·split at a
   ·rename_i h;simp[m1] at h;simp at a;omega
   ·simp at a
  ·split at a
   ·rename_i h;simp[m2] at h;simp at a;omega
   ·simp at a
theorem adj (h:m.Pairwise (· <= ·)) (hk:k+1<m.length) (a:y∈m):y<=m.getD k 0\/m.getD (k+1) 0<=y:=by
 grind [List.getElem_of_mem,List.pairwise_iff_getElem]
theorem DV {lo hi:Int} (h:Good l) (c:tg (lo,hi)) (e:∀p∈l,p.2<lo):
  Good (b5 l lo hi)/\(∀p∈b5 l lo hi,p.2<=hi)/\∀r,hasB (b5 l lo hi) r=(hasB l r||(decide (lo<=r)&&decide (r<=hi))):=by
 unfold tg at c;simp only at c;rcases Zcu l with rfl | ⟨d,p,rfl⟩
 ·refine⟨⟨λq b=>?_,by simp[b5]⟩,λq b=>?_,λr=>?_⟩
  ·simp[b5] at b;subst b;exact c
  ·grind [b5]
  ·simp[b5,hasB]
 ·rw[Zcv] at*
  have f:b5 (d++[p]) lo hi=if p.2+1=lo then d++[(p.1,hi)] else d++[p]++[(lo,hi)]:=by simp[b5]
  have ip:=h.1 p (by simp);have i:=e p (by simp);have j:=ZbC.1 h.2;have g:∀q∈d,q.2+1<p.1:=λq b=>j.2.2 q b p (by simp)
  unfold tg at ip;rw[f];by_cases b:p.2+1=lo
  ·rw[Zac b];refine⟨⟨λq a=>?_,?_⟩,λq a=>?_,λr=>?_⟩
   ·rcases Zax.1 a with a | a
    ·exact h.1 q (by simp[a])
    ·grind [tg]
   ·grind
   ·grind
   ·grind [hasB]
  ·rw[Zaa b];refine⟨⟨λq a=>?_,?_⟩,λq a=>?_,λr=>?_⟩
   ·rcases Zax.1 a with a | a
    ·exact h.1 q a
    ·simp at a;subst a;exact c
   ·grind
   ·grind
   ·grind [hasB]
def Kk (c:Int->Bool) (m:List Int):Prop:=∀k,k+1<m.length->∀r,m.getD k 0<=r->r<m.getD (k+1) 0->c r=c (m.getD k 0)
theorem z_ (d:m.Perm (cP l)) (e:m.Pairwise (· <= ·)):Kk (λr=>hasB l r) m:=by
 intro k hk r h1 h;have g:=mH _ (d.mem_iff.1 (ZaJ (getD_eq (show k<m.length by omega) 0)));have b1:=mH _ (d.mem_iff.1 (ZaJ (getD_eq hk 0)));have mk:∀x∈l,∀y∈kO x,y<=m.getD k 0\/m.getD (k+1) 0<=y:=λx a y i=>
  adj e hk (d.mem_iff.2 (by grind [cP]))
 generalize m.getD k 0=A at*
 generalize m.getD (k+1) 0=C at*
 show hasB l r=hasB l A
 rw[ZaG,r7,r7];constructor
 ·rintro⟨x,a,f,e2⟩;refine⟨x,a,?_,ω⟩;rcases(show A<x.1\/x.1<=A by omega) with b | b
  ·have c:m1 x:=by simp[m1];omega
   have:=mk x a x.1 (by simp[kO,c]);omega
  ·exact b
 ·rintro⟨x,a,f,e2⟩;refine⟨x,a,ω,?_⟩;rcases(show x.2<r\/r<=x.2 by omega) with b | b
  ·have c:m2 x:=by simp[m2];omega
   have:=mk x a (x.2+1) (by simp[kO,c]);omega
  ·exact b
theorem Qi (i1:Good l) (i2:∀p∈l,p.2<y) (i3:∀r,hasB l r=(decide (r<y)&&(fF r&&c r))) (e:0<=y/\y<=1114112) (f:0<=Z/\Z<=1114112) (hle:y<=Z)
  (d:55296<=y\/Z<=55296) (a2:57344<=y\/Z<=57344) (b:∀r,y<=r->r<Z->c r=c y):
  Good (if (decide (y<Z)&&(decide (y<55296)||decide (57343<y))&&c y)=true then b5 l y (Z-1) else l)/\
  (∀p∈(if (decide (y<Z)&&(decide (y<55296)||decide (57343<y))&&c y)=true then b5 l y (Z-1) else l),p.2<Z)/\
  ∀r,hasB (if (decide (y<Z)&&(decide (y<55296)||decide (57343<y))&&c y)=true then b5 l y (Z-1) else l) r=(decide (r<Z)&&(fF r&&c r)):=by
 by_cases a:(decide (y<Z)&&(decide (y<55296)||decide (57343<y))&&c y)
 ·rw[Zac a];simp only[ZaW,ZbM,ZaP] at a;obtain⟨⟨h1,g⟩,h⟩:=a;obtain⟨g1,g2,g3⟩:=DV (lo:=y) (hi:=Z-1) i1 (by grind [tg]) i2;grind [gu]
 ·grind [gu]
theorem MB (f:m.Perm (cP l)) (a:m.Pairwise (· <= ·)) (n:Kk c m):
  ∀k,k+1<=m.length->Good (dw c m k)/\(∀p∈dw c m k,p.2<m.getD k 0)/\∀r,hasB (dw c m k) r=(decide (r<m.getD k 0)&&(fF r&&c r)):=by
 have mem:∀y∈[0,55296,57344,1114112],(y:Int)∈m:=λy s=>f.mem_iff.2 (by grind [cP])
 have d:∀k,k<m.length->0<=m.getD k 0/\m.getD k 0<=1114112:=λk hk=>mH _ (f.mem_iff.1 (ZaJ (getD_eq hk 0)))
 intro k
 induction k with
 | zero=>
  intro hk;have h0:m.getD 0 0=0:=by
   have b:=d 0 hk;obtain⟨i,hi,q⟩:=Za3 (mem 0 (by simp));grind [List.pairwise_iff_getElem]
  refine⟨⟨by simp[dw],by simp[dw]⟩,by simp[dw],λr=>?_⟩;grind [dw,hasB,gu]
 | succ k o=>
  intro hk;obtain⟨i1,i2,i3⟩:=o ω;have h:=d k ω;have j:=d (k+1) ω;have hle:m.getD k 0<=m.getD (k+1) 0:=by
   grind [List.pairwise_iff_getElem]
  have g:=adj a (show k+1<m.length by omega) (mem 55296 (by simp));have a2:=adj a (show k+1<m.length by omega) (mem 57344 (by simp));have e:=n k ω;exact Qi i1 i2 i3 h j hle g a2 e
theorem DW (a:m.Perm (cP l)) (e:m.Pairwise (· <= ·)) (f:Kk c m):
  Good (dw c m (m.length-1))/\∀r,hasB (dw c m (m.length-1)) r=(fF r&&c r):=by
 have hl:1<=m.length:=by have:=a.length_eq;simp[cP] at this;omega
 obtain⟨g1,_,g3⟩:=MB a e f (m.length-1) ω;have mem:(1114112:Int)∈m:=a.mem_iff.2 (by simp[cP]);have d:m.getD (m.length-1) 0=1114112:=by
  have b:=mH _ (a.mem_iff.1 (ZaJ (getD_eq (show m.length-1<m.length by omega) 0)));grind [List.getElem_of_mem,List.pairwise_iff_getElem]
 grind [gu]
def lB (l:List Rg):List Rg:=aL (ib 0 (aL l))
def Aa (l:List Rg):Qhm l (lB l):=Xx (dN l) (dN _)
theorem DX (a:Good s) (h:∀r,hasB s r=(fF r&&hasB l r)):aL l=s:=pO (dN l).1 a λr=>by rw[(dN l).2.1,h]
theorem Xz (a:Good s) (h:∀r,hasB s r=(fF r&&!hasB l r)):lB l=s:=pO (Aa l).1 a λr=>by rw[(Aa l).2.1,h]
end cls
end Go.Proofs.YtadfknojfbmjgaaGreat
