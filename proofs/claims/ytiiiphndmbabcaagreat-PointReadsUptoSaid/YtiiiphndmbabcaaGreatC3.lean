/- PointReads: a part of the proof. -/
import Derived.Test.YtiiiphndmbabcaaGreatC2
import Derived.LoopN
import Derived.Below
set_option linter.all false
namespace Go.Proofs.YtiiiphndmbabcaaGreat
namespace sx
open Go Go.RowKit
section
variable {P:Program} {D:Data} {M M':Pm D} {w w':World} {H:Hp D} {s s':St D.E} {lo:Nat} {m m':Mt D.E} {th:List (Nat×AO D.E)}
variable {a Z:AV D.E} {Y X:Mt D.E} {W g:List (AV D.E)}
theorem Yc (N:aY D) {c:Nat} {y:D.E c} {j:Nat} (h:(QdL D m a c y j).H m'):zj m m' a (.nA c y j):=by
 cases a<;>simp only[QdL] at h<;>(try exact h.elim)
 case nA V x j'=>
  obtain⟨h1,n⟩:=bA.1 h;obtain⟨x',p,q⟩:=ai.1 n;obtain⟨rfl,e⟩:=Ka p;cases e;obtain⟨rfl,f⟩:=cK.1 q;cases aq.1 f;obtain rfl:=aN.1 h1;exact .same rfl (λM v d=>d) m
 case mg b k i j'=>
  obtain⟨h1,n⟩:=bA.1 h;obtain rfl:=aN.1 h1;obtain⟨a,m1,p,q⟩:=bq.1 n;obtain⟨zs,f,K⟩:=ai.1 q;obtain⟨V,xs,e,ro⟩:=a;obtain⟨rfl,e⟩:=cQ f;cases e;obtain⟨rfl,L⟩:=cK.1 K;cases aq.1 L;obtain⟨q1,Q,q3⟩:=kK N p;refine⟨q1,λM w B _=>?_⟩;obtain⟨A,g1,g2,g,g3,g4,g5,g6⟩:=q3 M w B;refine⟨A,g1,λv d=>lS (M:=A) ?_ rfl⟩;cases d with
  | mg u F hk hi=>
   rw[g3] at u;cases u;simp only at g4;have r:i<xs.length:=ω;rw[oX r];refine .nA (b:=g.bY) (o:=g.sh+i*k) λi' v e=>?_
   have:=g6 F i r i' v e;grind
 case ptr b o=>
  obtain⟨h1,n⟩:=bA.1 h;obtain⟨p,q⟩:=l8 h1;obtain rfl:=aN.1 p;obtain rfl:=aN.1 q;rcases gY.1 n with⟨_,f⟩ | ⟨f,K⟩
  ·exact f.elim
  obtain⟨cs,e,L,W⟩:=bq.1 K;obtain⟨x,X,G⟩:=ai.1 W;obtain⟨R,hs,I⟩:=ai.1 G;obtain⟨rfl,J⟩:=cK.1 I;cases aq.1 J;have T:=B6 L;obtain⟨q1,Q⟩:=ue hs;have Z:=mA f;refine⟨⟨id,.refl _,λt c e=>?_,λ_ h=>h,λ_ _ h=>.inl h,Zd1 Q.symm⟩,λM w B _=>?_⟩
  ·show R.h.get c=m.s.h.get c
   rw[q1];grind [ja]
  ·obtain⟨g,u,F,C,S,k1,k2,k3,k4,k5⟩:=B.obj b _ T;unfold Sm;show ∃A,cU m.s.h.get M w R.h.get A w m.s.nx R.nx/\_
   rw[q1,Q];have P:Rd M w g.bY g.sh cs:=O'.rd (e:=e) (ro:=false) ⟨C,S,k1,k2,k3,k4,k5⟩;obtain⟨l,hl,hc⟩:=P.list;have O:=vT N X hl;refine⟨_,cU.lock (o1:=.cells cs e true) (cs:=D.a_ c x) B T rfl (λ_=>trivial) u F.1 rfl (λv d=>(N.one c x v d).2) (λi v d=>?_) (λM2 Y=>⟨F,C,S,k1,k2,k3,λi v d=>let ⟨U,a,b⟩:=k4 i v d;⟨U,a,b.mono Y⟩,λh=>by cases h⟩) (λ_ _ _ h=>by cases h) _,λv d=>lS ?_ rfl⟩
   ·obtain⟨U,g1,g2⟩:=O.get d;grind
   ·cases d with
    | ptr z _=>
     rw[u] at z;cases z;refine .nA (b:=g.bY) (o:=g.sh) λi v e=>?_
     grind [df]
def zj.pair {g b:Nat} (h:(pair D m g b).H m') (k:∀M v,VR M a v->∀c:Pm D,zq M c->(∀f,M.pl b=some f->c.pl g=some f)->VR c Z v):zj m m' a Z:=by
 obtain⟨p1,p2,p3⟩:=Cb h;refine⟨p1,λM w i _=>⟨M,?_,λv d=>k M v d _ (λ_ _ _ e=>e) λf j=>xd p3 j⟩⟩;unfold Sm;rw[p2];exact .refl i _
def Qw (A:aY D) (h:(m0 D th m a Z).H m'):zj m m' a Z:=by
 cases Z<;>simp only[m0] at h
 case list c F=>exact Qt A h
 case nA c y j=>exact Yc A h
 case map=>exact h.elim
 case grow c F z=>
  cases a<;>simp only at h<;>(try exact h.elim)
  ·exact Qv h
  ·obtain⟨G,h1,g⟩:=ai.1 h;obtain⟨rfl,e⟩:=cQ h1;cases e;obtain⟨rfl,q⟩:=cK.1 g;refine zj.pair q λM v p w l f=>?_
   cases p with
   | grow h d hl hz hs b s ht=>exact .grow (f _ h) d hl hz (hs.mono l) b s ht
   | jZ h d=>exact .jZ (f _ h) d
 case own z k n=>
  cases a<;>simp only at h<;>(try exact h.elim)
  ·exact Qu h
  ·obtain⟨h1,g⟩:=bA.1 h;obtain rfl:=aN.1 h1;obtain⟨rfl,q⟩:=cK.1 g;refine zj.pair q λM v p w l f=>?_
   cases p with
   | own h hk d r b s ht=>exact .own (f _ h) hk d r b s ht
   | kD h hk d r h0=>exact .kD (f _ h) hk d r h0
  ·exact Yb A h
 case pre z k n=>
  cases a<;>simp only at h<;>(try exact h.elim)
  ·obtain⟨h1,g⟩:=bA.1 h;obtain rfl:=aN.1 h1;obtain⟨rfl,q⟩:=cK.1 g;refine zj.pair q λM v p w l f=>?_
   cases p with
   | own h hk d r b s ht=>exact .pre (f _ h) hk d r b (Zah _) s ht
   | kD h hk d r h0=>exact .oV (f _ h) hk d r h0
  ·obtain⟨h1,g⟩:=bA.1 h;obtain rfl:=aN.1 h1;obtain⟨rfl,q⟩:=cK.1 g;refine zj.pair q λM v p w l f=>?_
   cases p with
   | pre h hk d r b hl s ht=>exact .pre (f _ h) hk d r b hl s ht
   | oV h hk d r h0=>exact .oV (f _ h) hk d r h0
 case part z k o n=>
  cases a<;>simp only at h<;>(try exact h.elim);obtain⟨h1,g⟩:=bA.1 h;obtain rfl:=aN.1 h1;obtain⟨rfl,q⟩:=cK.1 g;obtain⟨rfl,x⟩:=cK.1 q;refine zj.pair x λM v p w l f=>?_
  cases p with
  | part h hk d r B hl b s=>exact .part (f _ h) hk d r B hl b s
  | jz h hk r B=>exact .jz (f _ h) hk r B
 case ptr z o=>
  cases a<;>simp only at h<;>(try exact h.elim);obtain⟨h1,g⟩:=bA.1 h;obtain rfl:=aN.1 h1;refine zj.pair g λM v p w l f=>?_
  cases p with
  | ptr h d=>exact .ptr (f _ h) d
 case mg z k i j=>
  cases a<;>simp only at h<;>(try exact h.elim);obtain⟨h1,g⟩:=bA.1 h;obtain⟨q,x⟩:=l8 h1;obtain rfl:=aN.1 q;obtain rfl:=aN.1 x;obtain⟨rfl,C⟩:=cK.1 g;refine zj.pair C λM v p w l f=>?_
  cases p with
  | mg h d hk hi=>exact .mg (f _ h) d hk hi
 case sub z o n=>
  cases a<;>simp only at h<;>(try exact h.elim);obtain⟨h1,g⟩:=bA.1 h;obtain⟨q,x⟩:=l8 h1;obtain rfl:=aN.1 q;obtain rfl:=aN.1 x;refine zj.pair g λM v p w l f=>?_
  cases p with
  | sub h d s b=>exact .sub (f _ h) d s b
  | oW=>exact .oW
 all_goals
  obtain⟨u,h1,g⟩:=ai.1 h;cases aq.1 g
  first
   | exact .same rfl (λM v p=>xc h1 p) m
   | (exfalso;cases a<;>simp only[wJ] at h1<;>first | exact h1 | (obtain⟨_,_,q,x⟩:=bq.1 h1;cases q) | skip)
def Sm.le (h:Sm Y X M w M') (b:bV M Y.s.nx X.s.nx):Le M M':=cU.Le h b
def zj.Kj {b:Mt D.E} (h:zj Y X a Z) (k:Mv X b/\∀M w,ee M X.s.h.get w->bV M X.s.nx b.s.nx->∃c,Sm X b M w c/\∀l,LR M W l->LR (rl b.r c) g l):
  Mv Y b/\∀M w,ee M Y.s.h.get w->bV M Y.s.nx b.s.nx->∃c,Sm Y b M w c/\∀l,LR M (a::W) l->LR (rl b.r c) (Z::g) l:=by
 refine⟨h.1.trans k.1,λM w n f=>?_⟩;have d:=f.fst k.1.le;obtain⟨i,g1,g2⟩:=h.2 M w n d;have e:=bV.next f g1;obtain⟨j,g3,g4⟩:=k.2 i w g1.fJ e;refine⟨j,cU.trans g1 g3,λl hl=>?_⟩;obtain⟨v,r,rfl,p,o⟩:=hl.aM;exact .cons ((g2 v p).mono (Ki (Sm.le g3 e) k.1.ext)) (g4 r (o.mono (Sm.le g1 d)))
def QgX (m:Mt D.E):Mv m m/\∀M w,ee M m.s.h.get w->bV M m.s.nx m'.s.nx->∃a,Sm m m M w a/\∀l,LR M ([]:List (AV D.E)) l->LR (rl m.r a) ([]:List (AV D.E)) l:=
 ⟨.refl m,λM w b _=>⟨M,.refl b _,λl hl=>by rw[hl.jA];exact .nil⟩⟩
theorem DU (e:aY D):∀{QwY c:List (AV D.E)} {m b:Mt D.E},(mL D th QwY c m).H b->Mv m b/\∀M w,ee M m.s.h.get w->bV M m.s.nx b.s.nx->∃d,Sm m b M w d/\∀l,LR M QwY l->LR (rl b.r d) c l
 | [],[],m,b,h=>by cases aq.1 (show(C.ret m).H b from h);exact QgX m
 | [],_::_,_,_,h=>(h:False).elim
 | _::_,[],_,_,h=>(h:False).elim
 | a::QwY,t::c,m,b,h=>by
  obtain⟨m1,h1,f⟩:=ai.1 (show(az (m0 D th m a t) λm=>mL D th QwY c m).H b from h);exact(Qw e h1).Kj (DU e f)
def QgY (f:aY D) (h:(mV D th m a Z).H m'):zj m m' a Z:=by
 cases Z<;>simp only[mV] at h<;>(try exact Qw f h)
 case agg G=>
  cases a<;>simp only at h<;>(try exact h.elim);obtain⟨q1,e⟩:=DU f h;refine⟨q1,λM w c b=>?_⟩;obtain⟨i,g1,g2⟩:=e M w c b;refine⟨i,g1,λv d=>?_⟩;cases d with
  | agg hl l=>exact(VR.DB (g2 _ ⟨hl,l⟩):)
 case tuple G=>
  cases a<;>simp only at h<;>(try exact h.elim);obtain⟨q1,e⟩:=DU f h;refine⟨q1,λM w c b=>?_⟩;obtain⟨i,g1,g2⟩:=e M w c b;refine⟨i,g1,λv d=>?_⟩;cases d with
  | tuple hl l=>exact(VR.DC (g2 _ ⟨hl,l⟩):)
 case func g xs I=>
  cases a<;>simp only at h<;>(try exact h.elim);obtain⟨h1,n⟩:=bA.1 h;obtain rfl:=Kg h1;obtain⟨m1,A,B⟩:=ai.1 n;obtain⟨q1,e⟩:=DU f A;obtain⟨q,F⟩:=DU f B;refine⟨q1.trans q,λM w c b=>?_⟩;have j:=b.fst q.le;obtain⟨y,g1,g2⟩:=e M w c j;have k:=bV.next b g1;obtain⟨z,g3,g4⟩:=F y w g1.fJ k;refine⟨z,cU.trans g1 g3,λv d=>?_⟩;cases d with
  | func _ hl l p o=>
   have r:=(g2 _ ⟨hl,l⟩).mono (Ki (Sm.le g3 k) q.ext);have s:=g4 _ (LR.mono (Sm.le g1 j) ⟨p,o⟩);exact .func _ r.1 r.2 s.1 s.2
 case iface u x=>
  cases a<;>simp only at h<;>(try exact h.elim);obtain⟨h1,n⟩:=bA.1 h;obtain rfl:=aN.1 h1;obtain⟨q1,e⟩:=Qw f n;refine⟨q1,λM w c b=>?_⟩;obtain⟨i,g1,g2⟩:=e M w c b;refine⟨i,g1,λv d=>?_⟩;cases d with
  | iface _ C=>exact .iface _ (g2 _ C)
theorem GI (e:aY D):∀{QwY c:List (AV D.E)} {m b:Mt D.E},(mVs D th QwY c m).H b->Mv m b/\∀M w,ee M m.s.h.get w->bV M m.s.nx b.s.nx->∃d,Sm m b M w d/\∀l,LR M QwY l->LR (rl b.r d) c l
 | [],[],m,b,h=>by cases aq.1 (show(C.ret m).H b from h);exact QgX m
 | [],_::_,_,_,h=>(h:False).elim
 | _::_,[],_,_,h=>(h:False).elim
 | a::QwY,t::c,m,b,h=>by
  obtain⟨m1,h1,f⟩:=ai.1 (show(az (mV D th m a t) λm=>mVs D th QwY c m).H b from h);exact(QgY e h1).Kj (GI e f)
def Qd3 (a t:AO D.E):Prop:=t.wr=a.wr/\(∀b j,t.ti b j->a.ti b j)/\∀c d e,t=.arr c d e true->a=.arr c d e true
theorem O'.map {d:MI} {e:TypeId} {ro:Bool} (hl:∀l,LR M W l->LR M' g l) (h:O' M d w W e ro):O' M' d w g e ro:=by
 have b:=h.rd;obtain⟨l,a,m⟩:=b.list;have c:=hl l a;obtain⟨C,f,k1,k2,k3,k4,k5⟩:=h;refine⟨C,f,k1,k2,by rw[c.1,<-a.1];exact k3,λi v j=>?_,k5⟩;obtain⟨n,k,a2⟩:=c.get j;grind [World.cell?]
def QgZ {a b:Bool} (h:(Bool.rec (motive:=λ_=>Bool) (Bool.not a) a b:Bool)):a=b:=by cases a<;>cases b<;>first | rfl | cases h
theorem Qg0 (u:aY D) {a t:AO D.E} (h:(mO D th m a t).H m'):Mv m m'/\Qd3 a t/\∀M w,ee M m.s.h.get w->bV M m.s.nx m'.s.nx->∃o,Sm m m' M w o/\∀n,OR M a n w->OR (rl m'.r o) t n w:=by
 cases t with
 | cells F e ro=>
  cases a<;>simp only[mO] at h<;>(try exact h.elim);obtain⟨h1,d⟩:=bA.1 h;obtain⟨f,g⟩:=l8 h1;obtain rfl:=aN.1 f;obtain rfl:=QgZ g;obtain⟨q1,B⟩:=GI u d;refine⟨q1,⟨rfl,λ_ _ _=>trivial,λ_ _ _ h=>by cases h⟩,λM w j p=>?_⟩;obtain⟨o,g1,g2⟩:=B M w j p;refine⟨o,g1,λn b=>⟨⟨b.1.1,b.1.2.1,?_⟩,b.2.map g2⟩⟩;obtain⟨l,k,_⟩:=b.2.rd.list;rw[(g2 l k).1,<-k.1];exact b.1.2.2
 | arr c G e ro=>
  cases a<;>simp only[mO] at h<;>(try exact h.elim);obtain⟨h1,d⟩:=bA.1 h;obtain⟨f,g⟩:=l8 h1;obtain rfl:=aN.1 f;obtain rfl:=QgZ g;obtain⟨I,x,y⟩:=ai.1 d;obtain⟨rfl,e⟩:=cQ x;cases e;obtain⟨rfl,z⟩:=cK.1 y;cases aq.1 z;refine⟨.refl m,⟨rfl,λ_ _ _=>trivial,λ_ _ _ h=>h⟩,λM w j p=>⟨M,.refl j _,λn b=>⟨b.1,b.2.1,λA=>(b.2.2 A).map λl hl=>⟨hl.1,λi v C q e2=>lS (hl.2 i v C q e2) (ef u (ZaJ q)).2⟩⟩⟩⟩
 | tok c e=>
  cases a<;>simp only[mO] at h<;>(try exact h.elim);obtain⟨h1,d⟩:=bA.1 h;obtain⟨f,g⟩:=l8 h1;obtain rfl:=aN.1 f;obtain rfl:=aN.1 g;cases aq.1 d;exact⟨.refl m,⟨rfl,λ_ _ h=>h,λ_ _ _ h=>by cases h⟩,λM w j p=>⟨M,.refl j _,λn b=>b⟩⟩
def Dn (th:List (Nat×AO D.E)) (M:Pm D) (w:World) (m:Mt D.E) (t b:Nat):Prop:=∃a d c,cA th t=some a/\m.s.h.get b=some d/\M.pl b=some c/\OR (rl m.r M) a c w/\Qd3 d a
theorem DV (z:aY D):∀{n:Nat} {m d:Mt D.E},(PO D th n m).H d->Ext m.r d.r/\(Inj m.r->Inj d.r)/\m.s.nx<=d.s.nx/\∀M w,ee M m.s.h.get w->bV M m.s.nx d.s.nx->(∀t b,d_ m.r t=some b->(t,b)∈m.todo\/Dn th M w m t b)->
  ∃u,Sm m d M w u/\∀t b,d_ d.r t=some b->Dn th u w d t b
 | 0,_,_,h=>(h:False).elim
 | n+1,m,d,h=>by
  obtain⟨s,r,td⟩:=m;cases td with
  | nil=>
   cases aq.1 (show(C.ret ⟨s,r,[]⟩).H d from h);exact⟨.refl _,id,Zah _,λM w j o c=>⟨M,.refl j _,λt b e=>by
    rcases c t b e with h1 | h1
    ·cases h1
    ·exact h1⟩⟩
  | cons p td=>
   obtain⟨R,h1,J⟩:=ai.1 (show(az (cR (cA th p.1)) λt=>az (cR (s.h.get p.2)) λa=>az (mO D th ⟨s,r,td⟩ a t) (PO D th n)).H d from h);obtain⟨B,l,K⟩:=ai.1 J;obtain⟨m2,L,N⟩:=ai.1 K;rw[bD] at h1 l;obtain⟨q1,S,T⟩:=Qg0 z L;obtain⟨k1,k2,A,k3⟩:=DV z N;refine⟨q1.ext.trans k1,λhi=>k2 (q1.inj hi),Zav q1.le A,λM w j o c=>?_⟩;have i:bV M s.nx m2.s.nx:=o.fst A;obtain⟨v,g1,g2⟩:=T M w j i;have hle:=Sm.le g1 i;have q:=bV.next o g1;have O:∀t b,Dn th M w ⟨s,r,p::td⟩ t b->d_ r t=some b->Dn th v w m2 t b:=λt b ⟨x,y,k,f,e2,g,G,I⟩ e=>⟨x,y,k,f,(q1.Ya t b e).trans e2,hle.1 _ _ g,G.mono (Ki hle q1.ext) λ_=>rfl,I⟩
   obtain⟨F,g3,g4⟩:=k3 v w g1.fJ q (λt b e=>by
    rcases q1.new t b e with f | f
    ·rcases c t b f with e2 | e2
     ·rcases Zbf.1 e2 with g | g
      ·right;obtain⟨k,P,Q⟩:=j.obj p.2 B l;subst g;exact⟨R,B,k,h1,(q1.Ya _ _ f).trans l,hle.1 _ _ P,g2 k Q,S⟩
      ·exact .inl (q1.td _ g)
     ·grind
    ·exact .inl f)
   exact⟨F,cU.trans g1 g3,g4⟩
structure Mtd (th:List (Nat×AO D.E)) (r0 r:Ren) (s:St D.E) (QwY ts:List (AV D.E)) (s':St D.E):Prop where
 ext:Ext r0 r
 inj:Inj r
 all:∀t o,cA th t=some o->∃b,d_ r t=some b
 le:s.nx<=s'.nx
 sem:∀M w,ee M s.h.get w->bV M s.nx s'.nx->∃M',cU s.h.get M w s'.h.get M' w s.nx s'.nx/\(∀l,LR M QwY l->LR (rl r M') ts l)/\ee (rl r M') (λt=>cA th t) w/\
  ∀t b,d_ r t=some b->∃ot oa mi,cA th t=some ot/\s'.h.get b=some oa/\M'.pl b=some mi/\Qd3 oa ot
theorem Cc (N:aY D) {J r:Ren} {QwY R:List (AV D.E)} (hi:Inj J) (h:(PQ D s J th QwY R).H (s',r)):Mtd th J r s QwY R s':=by
 obtain⟨m1,h1,V⟩:=ai.1 h;obtain⟨m2,W,X⟩:=ai.1 V;obtain⟨Y,B⟩:=bA.1 X;have B:=aq.1 B;simp only[Zbx] at B;obtain⟨rfl,rfl⟩:=B;obtain⟨q1,q2⟩:=GI N h1;obtain⟨k1,k2,P,k3⟩:=DV N W;have m:∀t o,cA th t=some o->∃b,d_ m2.r t=some b:=λt o ht=>by
  have:=ec.1 Y _ (o9 ht);exact ZcI.1 this
 refine⟨q1.ext.trans k1,k2 (q1.inj hi),m,Zav q1.le P,λM w Z O=>?_⟩;obtain⟨S,g1,g2⟩:=q2 M w Z (O.fst P);have x:=bV.next O g1;obtain⟨T,g3,g4⟩:=k3 S w g1.fJ x λt b e=>by
  rcases q1.new t b e with d | d
  ·exact .inl (q1.td _ (DS d))
  ·grind
 have hle:=Sm.le g3 x;have f:=g3.fJ;refine⟨T,cU.trans g1 g3,λl hl=>(g2 l hl).mono (Ki hle k1),⟨λt o ht=>?_,λt Q o o' i k ht ht' a p q G he=>?_,λb o v e=>?_,λt o i ht hw a q j hj=>?_,λt c xs e i ht a q=>?_,⟨f.mh.1,λt o i ht hw a q=>?_⟩⟩,λt b e=>?_⟩
 ·obtain⟨b,g⟩:=m t o ht;obtain⟨C,n,i,d,e2,z,A,u⟩:=g4 t b g;grind [xd]
 ·obtain⟨b,g,a⟩:=f_ a;obtain⟨K,y,p⟩:=f_ p;obtain⟨_,n,_,_,e2,_⟩:=g4 t b g;obtain⟨_,I,_,_,F,_⟩:=g4 Q K y;have:=f.inj b K n I i k e2 F a p q G he;subst this;exact k2 (q1.inj hi) t Q b g y
 ·obtain⟨hp,v',hc,hv⟩:=f.gR b o v e;grind [lS]
 ·obtain⟨b,g,a⟩:=f_ a;obtain⟨C,n,k,d,e2,z,A,u,L,_⟩:=g4 t b g;rw[ht] at d;cases d;exact f.sep b n i e2 (u▸hw) a q j (L i j hj)
 ·obtain⟨b,g,a⟩:=f_ a;obtain⟨C,n,k,d,e2,z,A,_,_,U⟩:=g4 t b g;rw[ht] at d;cases d;have:=U c xs e rfl;subst this;exact(f.J6 b c xs e i e2 a q).mono λ_ _ _ h=>h
 ·obtain⟨b,g,a⟩:=f_ a;obtain⟨C,n,k,d,e2,z,A,u,L,_⟩:=g4 t b g;rw[ht] at d;cases d;exact f.mh.2 b n i e2 (u▸hw) a q
 ·obtain⟨C,n,i,d,e2,z,A,u⟩:=g4 t b e;grind
end
section
variable {P:Program} {D:Data} {M M':Pm D} {w w':World} {H:Hp D} {s s':St D.E} {lo:Nat} {m m':Mt D.E} {th:List (Nat×AO D.E)}
section
variable {f:Nat->Nat}
variable {v:AV D.E} {e:Value} {l:List (AV D.E)} {c:List Value}
def Cd (c:∀t m,M.pl t=some m->M'.pl (f t)=some m) (l:zq M M') (h:VR M v e) (p:XE D v):VR M' (BW D f v) e:=by
 cases h<;>simp only[BW]<;>first | (cases p;done) | skip
 case bool b=>exact .bool b
 case lit b=>exact .lit b
 case int h=>exact .int h
 case num h=>exact .num h
 case str h=>exact .str h
 case fT=>exact .fT
 case ptr h a=>exact .ptr (c _ _ h) a
 case kA g o=>exact .kA g o
 case mg h a hk hi=>exact .mg (c _ _ h) a hk hi
 case nA h=>exact .nA λi v n=>l _ _ _ (h i v n)
 case dF=>exact .dF
 case own h hk a k j d ht=>exact .own (c _ _ h) hk a k j d ht
 case kD h hk a k hl=>exact .kD (c _ _ h) hk a k hl
 case pre h hk a k j hl d ht=>exact .pre (c _ _ h) hk a k j hl d ht
 case oV h hk a k hl=>exact .oV (c _ _ h) hk a k hl
 case part h hk a k h0 hl j d=>exact .part (c _ _ h) hk a k h0 hl j d
 case jz h hk k h0=>exact .jz (c _ _ h) hk k h0
 case grow h a hl hz hs j d ht=>exact .grow (c _ _ h) a hl hz (hs.mono l) j d ht
 case jZ h a=>exact .jZ (c _ _ h) a
 case sub h a d j=>exact .sub (c _ _ h) a d j
 case oW=>exact .oW
 case list hs j d=>exact .list (hs.mono l) j d
 case ed=>exact .ed
 case qB=>exact .qB
 case map h=>exact .map (c _ _ h)
 case nilFunc=>exact .nilFunc
 case nilIface=>exact .nilIface
theorem vV (j:∀t d,M.pl t=some d->M'.pl (f t)=some d) (b:zq M M') (h:LR M l c) (k:jy (XE D) l):LR M' (s8 (BW D f) l) c:=by
 rw[pS];refine⟨by simp[h.1],λi v m e g=>?_⟩;rw[Zbk] at e;cases a:l[i]? with
 | none=>rw[a] at e;cases e
 | some u=>
  rw[a] at e;cases e;exact Cd j b (h.2 i u m a g) (ec.1 k u (ZaJ a))
def Kk (b:∀t l,M.pl t=some l->M'.pl (f t)=some l) (a:zq M M') (h:VR M v e) (d:okV D v):VR M' (MJ D f v) e:=by
 cases v<;>simp only[MJ]<;>(try exact Cd b a h rfl)
 case agg cs=>cases h with
  | agg hl c=>exact(VR.DB (vV b a ⟨hl,c⟩ d):)
 case tuple cs=>cases h with
  | tuple hl c=>exact(VR.DC (vV b a ⟨hl,c⟩ d):)
 case func g xs q=>
  obtain⟨o,p⟩:=l8 d;cases h with
  | func _ hl c i m=>
   have j:=vV b a ⟨hl,c⟩ o;have k:=vV b a ⟨i,m⟩ p;exact .func _ j.1 j.2 k.1 k.2
 case iface t x=>cases h with
  | iface _ n=>exact .iface _ (Cd b a n d)
theorem Kl (j:∀t d,M.pl t=some d->M'.pl (f t)=some d) (b:zq M M') (h:LR M l c) (k:jy (okV D) l):LR M' (s8 (MJ D f) l) c:=by
 rw[pS];refine⟨by simp[h.1],λi v m e g=>?_⟩;rw[Zbk] at e;cases a:l[i]? with
 | none=>rw[a] at e;cases e
 | some u=>
  rw[a] at e;cases e;exact Kk j b (h.2 i u m a g) (ec.1 k u (ZaJ a))
def Qx (b:∀t d,M.pl t=some d->M'.pl (f t)=some d) (a:zq M M') (h:VR M v e) (c:QgJ D v):VR M' (PR D f v) e:=by
 cases v<;>simp only[PR]<;>(try exact Kk b a h c)
 case tuple cs=>cases h with
  | tuple hl g=>exact(VR.DC (Kl b a ⟨hl,g⟩ c):)
theorem Yd (j:∀t b,M.pl t=some b->M'.pl (f t)=some b) (a:zq M M') {o:AO D.E} {b:MI} (g:aY D) (h:OR M o b w) (k:okO D o):OR M' (BX D f o) b w:=by
 cases o with
 | cells cs e ro=>exact⟨⟨h.1.1,h.1.2.1,by rw[pS,Za2];exact h.1.2.2⟩,h.2.map λl hl=>Kl j a hl k⟩
 | arr c xs e ro=>exact⟨h.1,h.2.1,λm=>(h.2.2 m).map λl hl=>⟨hl.1,λi v n d e2=>(hl.2 i v n d e2).pure (ef g (ZaJ d)).2 a⟩⟩
 | tok c e=>exact h
end
variable {Z:Nat->Nat} {o:AO D.E} {c:Nat}
theorem Ce (o:AO D.E):(BX D Z o).wr=o.wr:=by cases o<;>rfl
def MX (o:AO D.E) (a:MI) (j:Nat):(BX D Z o).ti a j↔o.ti a j:=by cases o<;>exact ZbW
def Qy {xs:List (D.E c)} {e:TypeId} {ro:Bool} (h:BX D Z o=.arr c xs e ro):o=.arr c xs e ro:=by cases o<;>first | exact h | cases h
def DW (P:Program) (D:Data) (k:bh D):Prop:=(∃fn c,P.funcs[k.f]?=some fn/\fn.body=some c)/\∀y,k.pre y->∀(M:Pm D) (A:Array Value) (w:World),LR M (k.args y) A.toList->ee M (λt=>cA (k.heap y) t) w->TF M k.jY->
 ∀R:Ending->World->Prop,(∀a b d,VR a (k.res y) b->cU (λt=>cA (k.heap y) t) M w (λt=>cA (k.dy y) t) a d k.jY k.oS->R (.returned b) d)->Calls P k.f A w R
noncomputable def MY (f:Nat->Nat) (b:Nat):List (Nat×AO D.E)->Option (AO D.E)
 | []=>none
 | p::l=>if f p.1=b then some (BX D f p.2) else MY f b l
theorem Aw:∀{l:List (Nat×AO D.E)},MY Z c l=some o->∃t a,cA l t=some a/\Z t=c/\o=BX D Z a
 | [],h=>by cases h
 | (t,a)::l,h=>by
  unfold MY at h;by_cases e:Z t=c
  ·grind [fh]
  ·rw[Zaa e] at h;obtain⟨i,g,h1,b,d⟩:=Aw h;grind [fh]
theorem Km:∀{l:List (Nat×AO D.E)} {h a:T (AO D.E)},(inP D Z l h).H a->∀b,a.get b=match MY Z b l with
  | some o=>some o
  | none=>h.get b
 | [],h,a,c,b=>by cases aq.1 (show(C.ret h).H a from c);rfl
 | p::l,h,a,c,b=>by
  obtain⟨h1,g1,g2⟩:=ai.1 (show(az (inP D Z l h) λh=>cR (h.put (Z p.1) (some (BX D Z p.2)))).H a from c);have d:=Km g1 b;grind [T.ea,bD,MY]
theorem DX {r:Ren}:∀{l:List (Nat×AO D.E)} {h a:T (AO D.E)},(QdM D r l h).H a->∀b,((∃p∈l,d_ r p.1=some b)->a.get b=none)/\((¬∃p∈l,d_ r p.1=some b)->a.get b=h.get b)
 | [],h,a,d,b=>by cases aq.1 (show(C.ret h).H a from d);exact⟨λ⟨p,e,_⟩=>by grind,λ_=>rfl⟩
 | p::l,h,a,d,b=>by
  obtain⟨c,g1,g2⟩:=ai.1 (show(az (cR (d_ r p.1)) λb=>az (cR (h.put b none)) λh=>QdM D r l h).H a from d);obtain⟨h1,g3,g4⟩:=ai.1 g2;rw[bD] at g1 g3;have f:=DX g4 b;grind [T.ea]
def DY {l:List (Nat×AO D.E)} (h:below D c l) {t:Nat} (ht:cA l t=some o):t<c:=cw.1 (ec.1 h _ (o9 ht))
theorem Qz (hD:aY D) {k:bh D} {y:k.Y} {args:List (AV D.E)} {v:AV D.E} (hk:DW P D k) (h:(PT D k y args s).H (v,s')):GB P D k.f args s v s':=by
 obtain⟨Z,h1⟩:=cK.1 h;obtain⟨h2,h3⟩:=bA.1 h1;obtain⟨h4,h5⟩:=l8 h2;obtain⟨V,X⟩:=l8 h4;obtain⟨hres,hok⟩:=l8 h5;have X:=cw.1 X;obtain⟨n,r,h6,h7⟩:=bq.1 h3;obtain⟨h2',h8,h9⟩:=ai.1 h7;obtain⟨h3',h10,F⟩:=ai.1 h9;have F:=aq.1 F;simp only[Zbx] at F;obtain⟨rfl,rfl⟩:=F;have hm:=Cc hD (λt t' b e=>by cases(show none=some b from e)) h6;have hle:=hm.le;refine⟨by grind,hk.1,λM A w hl hS G R hR=>?_⟩;have G:bV M s.nx (n.nx+(k.oS-k.jY)):=G;obtain⟨L,g1,g2,g3,g4⟩:=hm.sem M w hS (G.fst ω);have N:bV L n.nx (n.nx+(k.oS-k.jY)):=G.next g1;have hr0:∀t,k.jY<=t->d_ r t=none:=λt ht=>by
  cases hq:d_ r t with
  | none=>rfl
  | some b=>
   obtain⟨ot,oa,g,i,_⟩:=g4 t b hq;have:=DY V i;omega
 have hTF:TF (rl r L) k.jY:=λt ht=>by
  show(d_ r t).bind L.pl=none
  grind
 refine hk.2 y Z.out (rl r L) A w (g2 _ hl) g3 hTF R λQ v' w' hv a=>?_
 let f:=rn r k.jY n.nx
 have z:∀t b,d_ r t=some b->f t=b:=λt b e=>by
  show Option.rec (motive:=λ_=>Nat) (n.nx+(t-k.jY)) (λb=>b) (d_ r t)=b
  rw[e]
 have f_new:∀t,k.jY<=t->f t=n.nx+(t-k.jY):=λt e=>by
  show Option.rec (motive:=λ_=>Nat) (n.nx+(t-k.jY)) (λb=>b) (d_ r t)=_
  rw[hr0 t e]
 let S:Pm D:=⟨λb=>if n.nx<=b/\b<n.nx+(k.oS-k.jY) then Q.pl (k.jY+(b-n.nx)) else L.pl b,Q.sg⟩
 have hf:∀t g,Q.pl t=some g->S.pl (f t)=some g:=λt g e=>by
  by_cases C:k.jY<=t/\t<k.oS
  ·grind
  ·rw[a.ext t C] at e;obtain⟨b,i,e2⟩:=f_ e;rw[z t b i];show(if _ then _ else _)=_
   by_cases l:n.nx<=b/\b<n.nx+(k.oS-k.jY)
   ·rw[N b l.1 l.2] at e2;cases e2
   ·grind
 have O:zq Q S:=λ_ _ _ e=>e
 refine hR S v' w' (Qx hf O hv hres) (g1.trans ?_)
 
 classical
 let MN:Nat->Prop:=λb=>∃p∈k.heap y,d_ r p.1=some b
 let K:Hp D:=λb=>if MN b then n.h.get b else none
 let K':Hp D:=λb=>MY f b (k.dy y)
 have W:∀t b,d_ r t=some b->MN b:=λt b e=>by
  obtain⟨ot,_,_,i,_⟩:=g4 t b e;exact⟨(t,ot),o9 i,e⟩
 have hK:∀t b,d_ r t=some b->K b=n.h.get b:=λt b e=>Zac (W t b e)
 have Qnz:∀c,MM (λt=>cA (k.heap y) t) (rl r L) c->MM K L c:=λc ⟨t,o,g,i,e2,e3,x,m⟩=>by
  obtain⟨b,e6,e7⟩:=f_ e3;obtain⟨ot,oa,I,q1,q2,q3,q4,_⟩:=g4 t b e6;rw[show cA (k.heap y) t=some o from i] at q1;cases q1;exact⟨b,oa,g,by grind,q4▸e2,e7,x,m⟩
 have QnA:cU K L w K' S w' n.nx (n.nx+(k.oS-k.jY)):=by
  have d:∀b J,K' b=some J->∃t o g,cA (k.dy y) t=some o/\f t=b/\J=BX D f o/\Q.pl t=some g/\S.pl b=some g/\OR Q o g w':=λb J l=>by
   obtain⟨t,o,i,e2,e3⟩:=Aw l;obtain⟨g,x,m⟩:=a.fJ.obj t o i;grind
  refine⟨⟨λb J l=>?_,λb T o J g I l B e e' C hr' he=>?_,λb o v e=>?_,λb o g l hw e C j hj=>?_,λb c xs e g l hmi C=>?_,⟨a.fJ.mh.1,λb o g l hw e C=>?_⟩⟩,λb l=>?_,λb o v e=>a.J7 b o v e,λb o e=>?_,a.size,λc hc hn=>a.aO c hc λhx=>hn (Qnz c hx),λb o g l e C=>?_,λb l=>?_,a.os,a.tape,a.output,ω⟩
  ·obtain⟨t,o,g,i,e2,rfl,x,m,e6⟩:=d b J l;exact⟨g,m,Yd hf O hD e6 (ec.1 hok _ (o9 i))⟩
  ·obtain⟨t,p,q,i,e2,_,x,m,_⟩:=d b o l;obtain⟨t',p',q',e1',e2',_,e4',U,_⟩:=d T J B;rw[e] at m;cases m;rw[e'] at U;cases U;have:=a.fJ.inj t t' p p' g I i e1' x e4' C hr' he;grind
  ·obtain⟨hp,v',hc,hvv⟩:=a.fJ.gR b o v e;exact⟨hp,v',hc,hvv.pure hp O⟩
  ·obtain⟨t,p,q,i,e2,rfl,x,m,_⟩:=d b o l;rw[e] at m;cases m;exact a.fJ.sep t p g i (by grind [Ce]) x C j ((MX p g j).1 hj)
  ·obtain⟨t,p,q,i,e2,e3,x,m,_⟩:=d b _ l;rw[hmi] at m;cases m;have:=Qy e3.symm;subst this;exact a.fJ.J6 t c xs e g i x C
  ·obtain⟨t,p,q,i,e2,rfl,x,m,_⟩:=d b o l;rw[e] at m;cases m;exact a.fJ.mh.2 t p g i (by grind [Ce]) x C
  ·exact Zaa l
  ·rcases a.lP b o e with u | u | u
   ·exact .inl u
   ·omega
   ·grind
  ·obtain⟨t,p,q,i,e2,rfl,x,m,_⟩:=d b o l;rw[e] at m;cases m;rcases a.born t p g i x C with u | ⟨t0,p0,rI,i1,i2,i3,i4,i5⟩
   ·omega
   ·obtain⟨b0,i6,i7⟩:=f_ i2;obtain⟨ot,oa,I,q1,q2,q3,q4,_⟩:=g4 t0 b0 i6;grind [Ce]
  ·obtain⟨J,ho'⟩:=Zbs.1 l;obtain⟨t,p,q,i,e2,_,x,m,_⟩:=d b J ho';rcases a.MN t (by grind) with u | u
   ·obtain⟨o0,ho0⟩:=Zbs.1 u;obtain⟨T,B⟩:=hm.all t o0 ho0;obtain⟨ot,oa,I,q1,q2,q3,q4,_⟩:=g4 t T B;left;rw[<-e2,z t T B,hK t T B,q2];simp
   ·grind
 refine QnA.frame g1.fJ N (λb o l=>?_) λb=>?_
 ·grind
 ·grind [Km,DX]
theorem xe (d:aY D) {tab:List (bh D)} (ht:∀k∈tab,DW P D k):rY P D (X2 D tab):=by
 intro f args s v c h
 induction tab with
 | nil=>exact(h:False).elim
 | cons k tab a=>
  have a:=a λk hk=>ht k (ZaU _ hk)
  rcases gY.1 (show(bE (Nat.beq k.f f) (bE (BY (k.oM args s)) (X2 D tab f args s) (az (k.oM args s) λy=>PT D k y args s)) (X2 D tab f args s)).H (v,c) from h) with⟨h1,b⟩ | ⟨_,b⟩
  ·grind [gY,ai,aN,Qz]
  ·grind
end
section
variable {P:Program} {D:Data} {M M':Pm D} {w w':World} {H H':Hp D} {s s':St D.E} {φ φ':T (AV D.E)} {a:Act} {N:Nat} {m m':Mt D.E} {th:List (Nat×AO D.E)}
variable {H0:Hp D} {M0:Pm D} {w0:World} {base:Nat}
structure Ye (H0:Hp D) (M0:Pm D) (w0:World) (H:Hp D) (M:Pm D) (w:World):Prop where
 J7:zq M0 M
 lP:∀b o,M.sg b o≠none->M0.sg b o≠none\/w0.heap.size<=b\/MM H0 M0 b
 size:w0.heap.size<=w.heap.size
 aO:∀c,c<w0.heap.size->¬MM H0 M0 c->w.heap[c]?=w0.heap[c]?
 born:∀b o mi,H b=some o->M.pl b=some mi->mi.real=true->w0.heap.size<=mi.bY\/∃b0 o0 rI,H0 b0=some o0/\M0.pl b0=some rI/\rI.real=true/\rI.bY=mi.bY/\(o.wr=true->o0.wr=true)
 os:w.os=w0.os
 tape:w.tape=w0.tape
 output:w.output=w0.output
theorem Ye.refl (H0:Hp D) (a:Pm D) (w0:World):Ye H0 a w0 H0 a w0:=⟨λ_ _ _ h=>h,λ_ _ h=>.inl h,Zah _,λ_ _ _=>rfl,λb o f c d e=>.inr ⟨b,o,f,c,d,e,rfl,id⟩,rfl,rfl,rfl⟩
def Ye.wrt (h:Ye H0 M0 w0 H M w) {c:Nat} (j:MM H M c):w0.heap.size<=c\/MM H0 M0 c:=by
 obtain⟨b,o,p,i,m,l,n,rfl⟩:=j;rcases h.born b o p i l n with hs | ⟨g,q,f,a,d,e,k,hw⟩
 ·omega
 ·exact .inr ⟨g,q,f,a,hw m,d,e,k⟩
theorem Ye.GF {lo hi:Nat} (h:Ye H0 M0 w0 H M w) (k:cU H M w H' M' w' lo hi):Ye H0 M0 w0 H' M' w':=by
 refine⟨λb o v e=>k.J7 _ _ _ (h.J7 _ _ _ e),λb o d=>?_,Zav h.size k.size,λc j q=>?_,λb o u d n r=>?_,k.os.trans h.os,k.tape.trans h.tape,k.output.trans h.output⟩
 ·rcases k.lP b o d with a | a | a
  ·exact h.lP b o a
  ·exact .inr (.inl (Zav h.size a))
  ·exact .inr (h.wrt a)
 ·rw[k.aO c (ZbB j h.size) λhw=>?_,h.aO c j q];rcases h.wrt hw with a | a
  ·omega
  ·grind
 ·rcases k.born b o u d n r with hs | ⟨b1,y,i,lG,f,g,m,t⟩
  ·exact .inl (Zav h.size hs)
  ·rcases h.born b1 y i lG f g with hs | ⟨z,B,x,l,p,s,A,hw⟩
   ·omega
   ·grind
structure F0 (H0:Hp D) (M0:Pm D) (w0:World) (base N:Nat) (s:St D.E) (φ:T (AV D.E)) (M:Pm D) (a:Act) (w:World):Prop where
 fJ:ee M s.h.get w
 fr:FR M φ a N
 tf:TF M s.nx
 DZ:Ye H0 M0 w0 s.h.get M w
 per:∀t mi,t<base->M.pl t=some mi->M0.pl t=some mi
 le:base<=s.nx
variable {v d:AV D.E} {b:Nat} {l:List (Nat×AO D.E)}
def F0.step {b:Act} (h:F0 H0 M0 w0 base N s φ M a w) (k:cU s.h.get M w s'.h.get M' w' s.nx s'.nx) (c:FR M' φ' b N):F0 H0 M0 w0 base N s' φ' M' b w':=
 ⟨k.fJ,c,h.tf.GF k,h.DZ.GF k,λt d ht e=>h.per t d ht (by rw[<-k.ext t (by have:=h.le;omega)];exact e),Zav h.le k.le⟩
theorem QA (p:aY D) (h:(JZ D s v).H (d,s')) (l:ee M s.h.get w):∃j,cU s.h.get M w s'.h.get j w s.nx s'.nx/\∀val,VR M v val->VR j d val:=by
 have i:∀{v d:AV D.E},(C.ret (v,s)).H (d,s')->∃j,cU s.h.get M w s'.h.get j w s.nx s'.nx/\∀val,VR M v val->VR j d val:=λe=>by
  cases aq.1 e;exact⟨M,.refl l _,λ_ h=>h⟩
 cases v<;>simp only[JZ] at h<;>(try exact i h)
 case own b k n=>
  obtain⟨a,m1,h1,f⟩:=bq.1 h;cases aq.1 f;obtain⟨q1,q,m⟩:=kK p h1;grind [tn]
 case pre b k n=>
  obtain⟨a,m1,h1,f⟩:=bq.1 h;cases aq.1 f;obtain⟨q1,q,m⟩:=kK p h1;obtain⟨j,g1,g2,x,g3,g4,g5,g6⟩:=m M w l;exact⟨j,g1,λv g=>(tn g2 g3 g4 g5 g6).2.1 g⟩
 case part b k o n=>
  obtain⟨a,m1,h1,f⟩:=bq.1 h;cases aq.1 f;obtain⟨q1,q,m⟩:=kK p h1;obtain⟨j,g1,g2,x,g3,g4,g5,g6⟩:=m M w l;exact⟨j,g1,λv g=>(tn g2 g3 g4 g5 g6).2.2 o g⟩
 case grow c xs b=>
  cases aq.1 h;refine⟨M,.refl l _,λv g=>?_⟩;cases g with
  | grow h u hl hz hs t r ht=>exact .list hs t r
  | jZ h u=>exact .ed
theorem xf {k:IntKind} {x:Int}:∀{n:Nat} {v:AV D.E},(PW D k x n).H v->∀(M:Pm D) val,VR M (.int k x) val->VR M v val
 | 0,v,h,M,val,b=>by
  obtain⟨h1,a⟩:=cY.1 (show(ask (aB x zI) (.ret (.num k zI))).H v from h);cases aq.1 a;have h1:x=zI:=by grind [aB]
  subst h1;cases b;exact .num (by assumption)
 | n+1,v,h,M,val,b=>by
  rcases vO.1 (show(C.split (aB x (.ofNat (n+1))) (.ret (.num k (.ofNat (n+1)))) (PW D k x n)).H v from h) with⟨h1,a⟩ | ⟨_,a⟩
  ·cases aq.1 a;have h1:x=.ofNat (n+1):=by grind [aB]
   subst h1;cases b;exact .num (by assumption)
  ·exact xf a M val b
def D0 {val:Value} (h:VR M v val):JX D v:=by
 cases h<;>simp only[JX]<;>(try trivial)
 case str l h=>exact ZaK (show(l.length:Int)<=9223372036854775807 by omega)
 case own a e d ht=>rw[a];simp[aG,zI];omega
 case kD g a hl=>rw[a];simp[aG,zI]
 case grow c b cap xs i f g hl hz hs e d ht=>exact ZaK (show(xs.length:Int)<=9223372036854775807 by omega)
 case list c b o cap xs hs e d=>exact ZaK (show(xs.length:Int)<=9223372036854775807 by omega)
theorem xg:∀{l:List (AV D.E)} {l':List Value},LR M l l'->PV D l
 | [],_,_=>trivial
 | v::l,l',h=>by
  obtain⟨c,r,_,b,a⟩:=h.aM;exact⟨D0 b,xg a⟩
def QB {val:Value} (h:VR M v val):JY D v:=by
 cases v<;>simp only[JY]<;>(try exact D0 h)
 case agg l=>cases h with
  | agg hl a=>exact xg (l':=_) ⟨hl,a⟩
 case tuple l=>cases h with
  | tuple hl a=>exact xg (l':=_) ⟨hl,a⟩
def Qd4 (c:FR M φ a N) (g:∀val,VR M v val->VR M d val) (h:φ.get b=some v) (f:φ.put b (some d)=some φ'):FR M φ' a N:=by
 refine⟨λx u t=>?_,c.size,c.defers⟩;rw[T.ea _ _ _ _ f x] at t;by_cases e:x=b
 ·subst e;rw[Zac rfl] at t;cases t;exact g _ (c.at_ x v h)
 ·rw[Zaa e] at t;exact c.at_ x u t
def Yf (c:FR M φ a N) (f:Le M M') (i:∀val,VR M v val->VR M' d val) (h:φ.get b=some v) (g:φ.put b (some d)=some φ'):FR M' φ' a N:=by
 refine⟨λx u t=>?_,c.size,c.defers⟩;rw[T.ea _ _ _ _ g x] at t;by_cases e:x=b
 ·subst e;rw[Zac rfl] at t;cases t;exact i _ (c.at_ x v h)
 ·rw[Zaa e] at t;exact(c.at_ x u t).mono f
theorem cU.same {u o1:AO D.E} {l:MI} (d:ee M H0 w) (I:H0 b=some u) (J:M.pl b=some l) (K:OR M o1 l w) (hw:o1.wr=u.wr) (q:∀j,o1.ti l j->u.ti l j) (C:∀c xs e,o1≠.arr c xs e true) (lo:Nat):
  cU H0 M w (ja H0 b (some o1)) M w lo lo:=by
 have a:∀c o,ja H0 b (some o1) c=some o->∃g,H0 c=some g/\o.wr=g.wr/\(∀m,M.pl c=some m->∀j,o.ti m j->g.ti m j):=λc o h=>by
  grind [ja]
 refine⟨⟨λc o h=>?_,λc v o g m F h y e x r H A=>?_,d.gR,λc o m h hw e i j B=>?_,λc k xs e m h n t=>?_,⟨d.mh.1,λc o m h hw e i=>?_⟩⟩,λ_ _=>rfl,λ_ _ _ h=>h,λ_ _ h=>.inl h,Zah _,λ_ _ _=>rfl,λc o m h e i=>?_,λc h=>?_,rfl,rfl,rfl,Zah _⟩
 ·unfold ja at h;split at h
  ·grind
  ·exact d.obj c o h
 ·obtain⟨p,f,_⟩:=a c o h;obtain⟨G,s,_⟩:=a v g y;exact d.inj c v p G m F f s e x r H A
 ·obtain⟨p,f,h1,z⟩:=a c o h;exact d.sep c p m f (by grind) e i j (z m e j B)
 ·unfold ja at h;split at h
  ·grind
  ·exact d.J6 c k xs e m h n t
 ·obtain⟨p,f,h1,_⟩:=a c o h;exact d.mh.2 c p m f (by grind) e i
 ·grind
 ·grind [ja]
theorem QC {o n:Nat} (h:(Gj D b o n s).H s') (g:ee M s.h.get w):cU s.h.get M w s'.h.get M w s.nx s'.nx:=by
 obtain⟨a,h1,d⟩:=ai.1 (show(az (cR (s.h.get b)) _).H s' from h);cases a with
 | cells cs e ro=>
  obtain⟨v,t,x⟩:=ai.1 d;obtain⟨B,f,y⟩:=ai.1 x;obtain⟨q1,A⟩:=ue y;have j:=bD.1 h1;have l:=bD.1 t;rw[fc] at l;obtain⟨E,z,k,C,r,k1,k2,k3,k4,k5⟩:=g.obj b _ j;rw[q1,A];refine cU.same (o1:=.cells (cS cs o B) e ro) g j z ⟨⟨k.1,k.2.1,by grind [mv]⟩,C,r,k1,k2,by grind [mv],λi u hu=>?_,k5⟩ rfl (λ_ h=>h) (λ_ _ _ h=>by cases h) _;unfold cS at hu;rw[List.getElem?_set] at hu;split at hu
  ·rename_i q
   subst q;split at hu
   ·cases hu;obtain⟨m,p,a2⟩:=k4 _ v l;refine⟨m,p,?_⟩;cases v<;>simp only[Dx] at f<;>(try (cases aq.1 f;exact a2));exact xf f M m a2
   ·cases hu
  ·grind
 | arr c xs e ro=>exact(d:False).elim
 | tok c e=>exact(d:False).elim
theorem QE (m:aY D) {h:Hint} (f:(z_ D h s φ).H (s',φ')) (c:F0 H0 M0 w0 base N s φ M a w):∃g,F0 H0 M0 w0 base N s' φ' g a w:=by
 cases h with
 | lock t=>
  obtain⟨v,h1,d⟩:=ai.1 (show(az (cR (φ.get t)) λv=>aP (JZ D s v) λv s=>az (cR (φ.put t (some v))) λφ=>.ret (s,φ)).H (s',φ') from f);obtain⟨r,q,e,i⟩:=bq.1 d;obtain⟨l,j,k⟩:=ai.1 i;cases aq.1 k;obtain⟨g,g1,g2⟩:=QA m e c.fJ;exact⟨g,c.step g1 (Yf c.fr (g1.Le c.tf.fresh) g2 (bD.1 h1) (bD.1 j))⟩
 | QdN t n=>
  obtain⟨v,h1,d⟩:=ai.1 (show(az (cR (φ.get t)) λv=>az (Dx D v n) λv=>az (cR (φ.put t (some v))) λφ=>.ret (s,φ)).H (s',φ') from f);obtain⟨r,e,i⟩:=ai.1 d;obtain⟨l,j,k⟩:=ai.1 i;cases aq.1 k;refine⟨M,c.step (.refl c.fJ _) (Qd4 c.fr (λval p=>?_) (bD.1 h1) (bD.1 j))⟩;cases v<;>simp only[Dx] at e<;>(try (cases aq.1 e;exact p));grind [xf]
 | fact t=>
  cases aq.1 (show(C.ret (s,φ)).H (s',φ') from f);grind
 | PU b o n=>
  obtain⟨q,h1,d⟩:=ai.1 (show(az (Gj D b o n s) λs=>.ret (s,φ)).H (s',φ') from f);cases aq.1 d;exact⟨M,c.step (QC h1 c.fJ) c.fr⟩
theorem tp (j:aY D) {K:St D.E->T (AV D.E)->Prop}:∀{l:List (Nat×Hint)} {s:St D.E} {φ:T (AV D.E)} {M:Pm D},oT D l b s φ K->F0 H0 M0 w0 base N s φ M a w->∃r f u,K r f/\F0 H0 M0 w0 base N r f u a w
 | [],s,φ,M,h,e=>⟨s,φ,M,h,e⟩
 | p::l,s,φ,M,h,e=>by
  have c:cond (Nat.beq p.1 b) (QbE D p.2 φ ((z_ D p.2 s φ).wp λq=>oT D l b q.1 q.2 K)) (oT D l b s φ K):=h;cases m:Nat.beq p.1 b with
  | false=>rw[m] at c;exact tp j c e
  | true=>
   rw[m] at c;have x:(z_ D p.2 s φ).wp λq=>oT D l b q.1 q.2 K:=by
    cases g:p.2 with
    | fact t=>
     rw[g] at c;have d:Option.rec (motive:=λ_=>Prop) ((z_ D (.fact t) s φ).wp λq=>oT D l b q.1 q.2 K) (λv=>JY D v->(z_ D (.fact t) s φ).wp λq=>oT D l b q.1 q.2 K) (φ.get t):=c;cases k:φ.get t with
     | none=>rw[k] at d;exact d
     | some v=>rw[k] at d;exact d (QB (e.fr.at_ t v k))
    | lock t=>rw[g] at c;exact c
    | QdN t n=>rw[g] at c;exact c
    | PU id o n=>rw[g] at c;exact c
   obtain⟨⟨B,z⟩,d,y⟩:=gj x;obtain⟨A,i⟩:=QE j d e;exact tp j y i
theorem D1:∀{l:List (Nat×AO D.E)} {h a:T (AO D.E)},(ML D l h).H a->∀b,a.get b=match cA l b with
  | some o=>some o
  | none=>h.get b
 | [],h,a,c,b=>by cases aq.1 (show(C.ret h).H a from c);rfl
 | (t,o)::l,h,a,c,b=>by
  obtain⟨h1,g1,g2⟩:=ai.1 (show(az (ML D l h) λh=>cR (h.put t (some o))).H a from c);have d:=D1 g1 b;grind [T.ea,bD,fh]
theorem xh {a:T (AO D.E)} (c:(ML D l .nil).H a):a.get=λb=>cA l b:=by
 grind [D1,T.get_nil]
theorem MZ:(∀t o,cA l t=some o->t<base->d_ (fixed D base l) t=some t)/\∀t b,d_ (fixed D base l) t=some b->b=t:=by
 induction l with
 | nil=>exact⟨λt o h=>(by cases(show none=some o from h)),λt b h=>(by cases(show none=some b from h))⟩
 | cons p l a=>
  grind [fixed,jf,fh,DA]
theorem Kn:∀{l:List Nat} {b:List (AV D.E)},(wL D φ l).H b->FR M φ a N->LR M b (l.map λt=>a.tmps.getD t Go.undef)
 | [],b,h,_=>by cases aq.1 (show(C.ret []).H b from h);exact .nil
 | t::l,b,h,hf=>by
  obtain⟨v,h1,c⟩:=ai.1 (show(az (cR (φ.get t)) λv=>az (wL D φ l) λr=>.ret (v::r)).H b from h);obtain⟨r,d,e⟩:=ai.1 c;cases aq.1 e;exact .cons (hf.at_ t v (bD.1 h1)) (Kn d hf)
theorem xi:∀{l:List Nat} {b:List (AV D.E)} {φ a:T (AV D.E)},(X4 D b l φ).H a->b.length>=l.length/\∀t v,a.get t=some v->φ.get t=some v\/∃i:Nat,l[i]?=some t/\b[i]?=some v
 | [],b,φ,a,h=>by cases aq.1 (show(C.ret φ).H a from h);exact⟨by simp,λt v h=>.inl h⟩
 | x::l,[],φ,a,h=>(h:False).elim
 | x::l,u::b,φ,a,h=>by
  obtain⟨j,h1,d⟩:=ai.1 (show(az (cR (φ.put x (some u))) λφ=>X4 D b l φ).H a from h);obtain⟨q1,g⟩:=xi d;refine⟨by grind,λt v f=>?_⟩;rcases g t v f with c | ⟨i,c,k⟩
  ·rw[T.ea _ _ _ _ (bD.1 h1) t] at c;by_cases e:t=x
   ·rw[Zac e] at c;cases c;exact .inr ⟨0,by grind,rfl⟩
   ·grind
  ·exact .inr ⟨i+1,by assumption,by assumption⟩
theorem xj (hD:aY D) {L:iH D} {x:L.X} {y:List (AV D.E)} {kp:List (Nat×AO D.E)} {u:Unit} {sh:St D.E} {p:T (AV D.E)} (k:(uk D base L x y kp s φ).H u) (hs:(J0 D base L x y kp).H (sh,p)) (hkv:y.length=L.aO.length) (f:F0 H0 M0 w0 base N s φ M a w):
  ∃Q,F0 H0 M0 w0 base N sh p Q a w:=by
 obtain⟨QwY,h1,S⟩:=ai.1 k;obtain⟨⟨s1,r⟩,O,_⟩:=ai.1 S;rw[fC] at h1;rw[fC,fC] at O;obtain⟨φ1,U,V⟩:=ai.1 hs;obtain⟨φ2,W,Y⟩:=ai.1 V;obtain⟨h,P,Z⟩:=ai.1 Y;obtain⟨B,C⟩:=bA.1 Z;obtain⟨F,j⟩:=l8 B;cases aq.1 C;rw[fC] at P j;obtain⟨R,f2⟩:=MZ (D:=D) (base:=base) (l:=kp++L.pc x);have m:=Cc hD (λt t' b e e'=>by grind) O;obtain⟨A,g1,g2,g3,g4⟩:=m.sem M w f.fJ f.tf.fresh;have c:F0 H0 M0 w0 base N s1 φ A a w:=f.step g1 (f.fr.mono (g1.Le f.tf.fresh));have hl:=g2 _ (Kn h1 f.fr);refine⟨rl r A,by grind [xh],⟨λt v hv=>?_,f.fr.size,f.fr.defers⟩,λt ht=>?_,⟨c.DZ.J7,c.DZ.lP,c.DZ.size,c.DZ.aO,λt o z q k hr=>?_,c.DZ.os,c.DZ.tape,c.DZ.output⟩,λt z ht k=>?_,cw.1 F⟩
 ·obtain⟨p1,p2⟩:=xi U;obtain⟨p3,p4⟩:=xi W;have G:∃i:Nat,(L.aO++QdP (L.sl x))[i]?=some t/\(y++QdQ (L.sl x))[i]?=some v:=by
   rcases p4 t v hv with e | ⟨i,d,e2⟩
   ·rcases p2 t v e with e | ⟨i,d,e2⟩
    ·grind [T.get_nil]
    ·exact⟨i,by grind,by grind⟩
   ·exact⟨L.aO.length+i,by grind,by grind⟩
  obtain⟨i,d,e2⟩:=G;obtain⟨v',g,K⟩:=hl.get e2;grind
 ·cases hq:(rl r A).pl t with
  | none=>rfl
  | some z=>
   obtain⟨b,d,e2⟩:=f_ hq;obtain⟨J,I,n,g,_⟩:=g4 t b d;have:=DY j g;grind
 ·have q:h.get t=some o:=q;rw[xh P] at q;obtain⟨b,d,e2⟩:=f_ k;obtain⟨J,I,n,g,K,e5,e6,_⟩:=g4 t b d;rw[show cA (kp++L.pc x) t=some o from q] at g;cases g;rcases c.DZ.born b I z K e2 hr with e7 | ⟨b0,o0,rI,i1,i2,i3,i4,i5⟩
  ·omega
  ·grind
 ·obtain⟨b,d,e2⟩:=f_ k;obtain⟨J,I,n,g,_⟩:=g4 t b d;have:=m.ext t t (R t J g ht);rw[d] at this;cases this;exact c.per t z ht e2
end
section
variable {P:Program} {D:Data} {cd:TypeId->Option Nat} {ca:uj D.E} {fI:cH D} {M M':Pm D} {w w':World} {s s':St D.E} {φ φ':T (AV D.E)} {a:Act} {N:Nat}
variable {H0:Hp D} {M0:Pm D} {w0:World} {base:Nat}
variable {b:Code} {B:Wk D} {L:iH D} {Z:Func}
def zw (P:Program) (H0:Hp D) (d:Pm D) (w0:World) (base N:Nat) (c:Code) (j:Wk D):Prop:=∀(p:Nat) (s:St D.E) (φ:T (AV D.E)) (Q:Dw D),j p s φ Q->∀(M:Pm D) (a:Act) (w:World),F0 H0 d w0 base N s φ M a w->∀R:Exit->Act->World->Prop,
 (∀e g b i f h,Q e g b->F0 H0 d w0 base N g b i f h->R (QdV e) f h)->c.wp P R a w
theorem r9:∀{l:List Nat} {a:List (AV D.E)},(wL D φ l).H a->a.length=l.length
 | [],a,h=>by cases aq.1 (show(C.ret []).H a from h);rfl
 | t::l,a,h=>by
  obtain⟨v,h1,b⟩:=ai.1 (show(az (cR (φ.get t)) λv=>az (wL D φ l) λr=>.ret (v::r)).H a from h);obtain⟨r,c,d⟩:=ai.1 b;cases aq.1 d;simp[r9 c]
def D2 (U:aY D) (V:zw P H0 M0 w0 base N b B):zw P H0 M0 w0 base N (.loop b) (Aa D base L B):=by
 intro p s φ Q h M a w l R A;obtain⟨⟨v,kp⟩,h1,G⟩:=gj (show(az (wL D φ L.aO) λv=>az (MK D s L.kp) λkp=>.ret (v,kp)).wp _ from h);obtain⟨kv',I,J⟩:=ai.1 h1;obtain⟨kp',_,K⟩:=ai.1 J;cases aq.1 K;have o:=r9 I;obtain⟨⟨x,Y⟩,d⟩:=G;have key:∀(n:Nat) (x:L.X),L.me x<n->L.inv x->∀(s:St D.E) (φ:T (AV D.E)) (M:Pm D) (a:Act) (w:World) (u:Unit),(uk D base L x v kp s φ).H u->F0 H0 M0 w0 base N s φ M a w->Code.rounds P b R n a w:=by
  intro n
  induction n with
  | zero=>intro x q;omega
  | succ n Z=>
   intro x q hinv s φ M a w u W l;obtain⟨⟨sh,φh⟩,j,k⟩:=gj (d x ⟨hinv⟩);obtain⟨C,m⟩:=xj U W j o l;rw[rounds_succ];refine V _ _ _ _ k C a w m _ λe y f g a2 z r c=>?_
   cases e with
   | normal=>
    obtain⟨x',t⟩:=r;obtain⟨u',O,S⟩:=gj t;obtain⟨i,F⟩:=S.out;exact Z x' ω i y f g a2 z u' O c
   | exit id=>exact A (.exit id) y f g a2 z r c
   | ret=>exact A .ret y f g a2 z r c
 obtain⟨u,j,k⟩:=gj Y;exact wp_loop_rounds (L.me x+1) (key _ x (Zbr _) k.out s φ M a w u j l)
theorem M4 (Y:aY D) {f:iH D} (Z:zw P H0 M0 w0 base N b B):zw P H0 M0 w0 base N (.loop b) (Gk D base L f B):=by
 intro p s φ Q h M a w q R I;obtain⟨⟨d,kp⟩,h1,U⟩:=gj (show(az (wL D φ L.aO) λd=>az (MK D s L.kp) λkp=>bB (Nat.beq (kb L.aO) (kb f.aO)) (.ret (d,kp))).wp _ from h);obtain⟨kv',G,V⟩:=ai.1 h1;obtain⟨kp',_,l⟩:=ai.1 V;obtain⟨hl,l⟩:=bA.1 l;cases aq.1 l;have hkv:=r9 G;have J:d.length=f.aO.length:=by
  grind [Nat.eq_of_beq_eq_true,ia]
 obtain⟨⟨x,hx⟩,lG,hb2⟩:=U;have key:∀(n:Nat) (c:iH D),(c=L\/c=f)->∀(x:c.X),c.me x<n->c.inv x->∀(s:St D.E) (φ:T (AV D.E)) (M:Pm D) (a:Act) (w:World) (u:Unit),(uk D base c x d kp s φ).H u->F0 H0 M0 w0 base N s φ M a w->Code.rounds P b R n a w:=by
  intro n
  induction n with
  | zero=>intro _ _ x v;omega
  | succ n ih=>
   intro c hL x v hinv s φ M a w u hm q;have g:PX D base c d kp B p (λn s φ=>wM D base L d kp n s φ\/wM D base f d kp n s φ) Q:=by grind
   have t:d.length=c.aO.length:=by grind
   obtain⟨⟨sh,φh⟩,m,o⟩:=gj (g x ⟨hinv⟩);obtain⟨K,r⟩:=xj Y hm m t q;rw[rounds_succ];refine Z _ _ _ _ o K a w r _ λe A i F a2 C y j=>?_
   have again:∀k:iH D,(k=L\/k=f)->wM D base k d kp (c.me x) A i->Code.rounds P b R n a2 C:=λk G ⟨x',z⟩=>by
    obtain⟨u',h8,W⟩:=gj z;obtain⟨O,S⟩:=W.out;grind
   cases e with
   | normal=>exact(y:_\/_).elim (again L (.inl rfl)) (again f (.inr rfl))
   | exit id=>exact I (.exit id) A i F a2 C y j
   | ret=>exact I .ret A i F a2 C y j
 obtain⟨u,m,o⟩:=gj hx;exact wp_loop_rounds (L.me x+1) (key _ L (.inl rfl) x (Zbr _) o.out s φ M a w u m q)
theorem D3 (H:aY D) {y:Code} {o:Wk D} (I:zw P H0 M0 w0 base N b B) (J:zw P H0 M0 w0 base N y o):zw P H0 M0 w0 base N (.seq b y) (Ab D base L B o):=by
 intro p s φ Q h M a w G R f;obtain⟨⟨l,kp⟩,h1,r⟩:=gj (show(az (wL D φ L.aO) λl=>az (MK D s L.kp) λkp=>.ret (l,kp)).wp _ from h);obtain⟨T,t,v⟩:=ai.1 h1;obtain⟨S,_,A⟩:=ai.1 v;cases aq.1 A;have g:=r9 t;obtain⟨K,O⟩:=r;refine wp_seq (I _ _ _ _ K M a w G _ λe m c k a2 j i x=>?_);cases e with
 | normal=>
  obtain⟨z,hz⟩:=i;obtain⟨u,n,C⟩:=gj hz;obtain⟨⟨sh,U⟩,E,F⟩:=gj (O z C);obtain⟨q,d⟩:=xj H n E g x;exact J _ _ _ _ F q a2 j d R f
 | exit id=>exact f (.exit id) m c k a2 j i x
 | ret=>exact f .ret m c k a2 j i x
theorem M5 (o:zw P H0 M0 w0 base N b B) (n:Nat):zw P H0 M0 w0 base N (.loop b) (BZ D n B):=by
 intro p s φ Q h M a w m R k;refine wp_loop_rounds n ?_
 induction n generalizing p s φ M a w with
 | zero=>exact(h:False).elim
 | succ n q=>
  rw[rounds_succ];refine o _ _ _ _ h M a w m _ λe i d f a2 j g c=>?_
  cases e with
  | normal=>exact q _ i d g f a2 j c
  | exit id=>exact k (.exit id) i d f a2 j g c
  | ret=>exact k .ret i d f a2 j g c
theorem Qd5 (G:aY D) (U:P.follows .mixedOrders) (V:rZ P) (T:rY P D ca) (c:Code):zw P H0 M0 w0 base N c (Df P D cd ca base fI N c):=by
 induction c with
 | skip=>exact λp s φ Q h M a w i R d=>wp_skip (d .normal s φ M a w h i)
 | region id ops draw=>
  intro p s φ Q h M a w i R d;obtain⟨s1,W,M1,h1,m⟩:=tp G (show oT D fI.hs id s φ _ from h) i;cases draw with
  | true=>
   obtain⟨⟨Y,J⟩,O,S⟩:=gj (show(Dv P D cd (Dy fI.mu id) ca ops.toList N s1 W).wp _ from h1);obtain⟨_,X⟩:=DR (id:=id) G U V T O;exact X M1 a w m.fJ m.fr m.tf.fresh R λz o u H B=>d .normal Y J z o u S (m.step H B)
  | false=>
   obtain⟨⟨Y,J⟩,O,S⟩:=gj (show(qT P D cd (Dy fI.mu id) ca ops.toList N ops.toList 0 s1 W).wp _ from h1);obtain⟨_,X⟩:=pZ G V T _ _ _ _ _ _ O;exact wp_region_list (X M1 a w m.fJ m.fr m.tf.fresh R λz o u H B=>d .normal Y J z o u S (m.step H B))
 | seq x y q r=>
  intro p s φ Q h;have h:Option.rec (motive:=λ_=>Prop) (Option.rec (motive:=λ_=>Prop) (Df P D cd ca base fI N x (2*p) s φ (X3 D Q λs φ=>Df P D cd ca base fI N y (2*p+1) s φ Q)) (λL=>Ab D base L (Df P D cd ca base fI N x) (Df P D cd ca base fI N y) p s φ Q) (cA fI.jn p))
   (λF=>∃k:F.K,Ab D base (F.L k) (Df P D cd ca base fI N x) (Df P D cd ca base fI N y) p s φ Q) (cA fI.kf p):=h
  cases B:cA fI.kf p with
  | some F=>
   rw[B] at h;obtain⟨k,hk⟩:=h;exact D3 G q r p s φ Q hk
  | none=>
  rw[B] at h;have h:Option.rec (motive:=λ_=>Prop) (Df P D cd ca base fI N x (2*p) s φ (X3 D Q λs φ=>Df P D cd ca base fI N y (2*p+1) s φ Q)) (λL=>Ab D base L (Df P D cd ca base fI N x) (Df P D cd ca base fI N y) p s φ Q) (cA fI.jn p):=h;cases hj:cA fI.jn p with
  | some L=>rw[hj] at h;exact D3 G q r p s φ Q h
  | none=>
   rw[hj] at h;intro M a w i R d;refine wp_seq (q _ _ _ _ h M a w i _ λe C g z o u n j=>?_);cases e with
   | normal=>exact r _ _ _ _ n z o u j R d
   | exit id=>exact d (.exit id) C g z o u n j
   | ret=>exact d .ret C g z o u n j
 | cond c x y q r=>
  intro p s φ Q h M a w i R d;obtain⟨t,h1,O⟩:=gj (show(az (ev P D φ c) λv=>wG D v).wp _ from h);obtain⟨v,S,h4⟩:=ai.1 h1;have hv:=vU h4 (dN S i.fr);cases t with
  | true=>exact wp_cond_true hv (q _ _ _ _ O M a w i R d)
  | false=>exact wp_cond_false hv (r _ _ _ _ O M a w i R d)
 | block id b I=>
  intro p s φ Q h M a w i R d;refine wp_block (I _ _ _ _ h M a w i _ λe C g z o u n j=>?_);cases e with
  | normal=>exact d .normal C g z o u n j
  | ret=>exact d .ret C g z o u n j
  | exit A=>
   have n:cond (Nat.beq A id) (Q .normal C g) (Q (.exit A) C g):=n;show Exit.inBlock id R (.exit A) o u
   by_cases e:A=id
   ·rw[aN.2 e] at n;simp only[Exit.inBlock,Zac e];exact d .normal C g z o u n j
   ·rw[rM.2 e] at n;simp only[Exit.inBlock,Zaa e];exact d (.exit A) C g z o u n j
 | loop b I=>
  intro p s φ Q h;have h:Option.rec (motive:=λ_=>Prop) (Option.rec (motive:=λ_=>Prop) (BZ D fI.un (Df P D cd ca base fI N b) p s φ Q) (λL=>Aa D base L (Df P D cd ca base fI N b) p s φ Q) (cA fI.lp p))
   (λF=>∃k:F.K,Option.rec (motive:=λ_=>Prop) (Aa D base (F.L k) (Df P D cd ca base fI N b) p s φ Q) (λZ=>Gk D base (F.L k) Z (Df P D cd ca base fI N b) p s φ Q) F.E) (cA fI.kf p):=h
  cases B:cA fI.kf p with
  | some F=>
   rw[B] at h;obtain⟨k,hk⟩:=h;obtain⟨K,L,E⟩:=F;cases E with
   | none=>exact D2 G I p s φ Q hk
   | some Z=>exact M4 G I p s φ Q hk
  | none=>
  rw[B] at h;have h:Option.rec (motive:=λ_=>Prop) (BZ D fI.un (Df P D cd ca base fI N b) p s φ Q) (λL=>Aa D base L (Df P D cd ca base fI N b) p s φ Q) (cA fI.lp p):=h;cases n:cA fI.lp p with
  | none=>rw[n] at h;exact M5 I fI.un p s φ Q h
  | some L=>rw[n] at h;exact D2 G I p s φ Q h
 | rangeFunc f ps x y q r=>exact λp s φ Q h=>(h:False).elim
 | exit id=>exact λp s φ Q h M a w i R d=>wp_exit (d (.exit id) s φ M a w h i)
 | scope b I=>exact λp s φ Q h=>(h:False).elim
 | label l=>exact λp s φ Q h M a w i R d=>wp_label (d .normal s φ M a w h i)
 | goto l=>exact λp s φ Q h=>(h:False).elim
 | ret=>exact λp s φ Q h M a w i R d=>wp_ret (d .ret s φ M a w h i)
 | refuse y=>exact λp s φ Q h=>(h:False).elim
theorem xk:∀{b:List (AV D.E)} {i:Nat} {φ a:T (AV D.E)},(tc D b i φ).H a->∀t,a.get t=if i<=t/\t<i+b.length then b[t-i]? else φ.get t
 | [],i,φ,a,h,t=>by cases aq.1 (show(C.ret φ).H a from h);simp;omega
 | v::b,i,φ,a,h,t=>by
  obtain⟨d,h1,c⟩:=ai.1 (show(az (cR (φ.put i (some v))) (λφ=>tc D b (i+1) φ)).H a from h);rw[xk c t,T.ea _ _ _ _ (bD.1 h1) t];grind
theorem Ax {a:List (AV D.E)} {A:Array Value} (h:(tc D a 0 .nil).H φ) (hl:LR M a A.toList) (g:a.length<=N):
  FR M φ { tmps:=A++Array.replicate (N-A.size) Go.undef,defers:=[] } N:=by
 have hlen:a.length=A.size:=by rw[hl.1,Zba]
 refine⟨λt v b=>?_,?_,rfl⟩
 ·rw[xk h t] at b;simp only[Zaj,Zal,Za6,Zdp] at b;by_cases ht:t<a.length
  ·rw[Zac ht] at b;obtain⟨d,c,e⟩:=hl.get b;have f:(A++Array.replicate (N-A.size) Go.undef).getD t Go.undef=d:=by
    rw[ZaL] at c;rw[ZaT,ZbT ω,c];rfl
   grind
  ·grind [T.get_nil]
 ·grind
theorem xl (i:aY D) {C:Nat}:∀{rs:List ResultVar} {c:List (AV D.E)},(PZ P D s φ rs).H c->FR M φ a C->ee M s.h.get w->∃f,LR M c f/\(rs.mapM λr=>(match r with
   | .tmp t=>Pure.pure (a.tmps.getD t Go.undef)
   | .cell b t=>do loadVar t (<-Go.asAddr (a.tmps.getD b Go.undef)):Sem Value)).run P w=.ok f w
 | [],c,h,_,_=>by cases aq.1 (show(sx.C.ret []).H c from h);exact⟨[],.nil,by simp⟩
 | r::rs,c,h,hf,hS=>by
  obtain⟨v,j,h1⟩:=ai.1 (show(az (PY P D s φ r) (λv=>az (PZ P D s φ rs) λc=>.ret (v::c))).H c from h);obtain⟨us,g,l⟩:=ai.1 h1;cases aq.1 l;obtain⟨d,hl,y⟩:=xl i g hf hS;cases r with
  | tmp t=>
   refine⟨a.tmps.getD t Go.undef::d,.cons (hf.at_ t v (bD.1 j)) hl,?_⟩;simp_all
  | cell b t=>
   obtain⟨u,hu,m⟩:=ai.1 (show(az (cR (φ.get b)) λv=>Dp P D s t v).H v from j);obtain⟨k,o,e,p,q,n⟩:=Ae (P:=P) i m (hf.at_ b u (bD.1 hu)) hS;have x:(do loadVar t (<-Go.asAddr (a.tmps.getD b Go.undef)):Sem Value).run P w=.ok k w:=by
    grind [Go.asAddr]
   refine⟨k::d,.cons n hl,?_⟩;rw[ZdP,Zzd];simp_all
theorem ux {c:List Value} (n:(Z.results.toList.mapM λr=>(match r with
   | .tmp t=>Pure.pure (a.tmps.getD t Go.undef)
   | .cell b t=>do loadVar t (<-Go.asAddr (a.tmps.getD b Go.undef)):Sem Value)).run P w=.ok c w) {res:AV D.E} (d:Dz D res) (hl:LR M (wN D res) c):∃g,(results Z a.tmps).run P w=.ok g w/\VR M res g:=by
 have l:(Z.results.mapM λr=>(match r with
   | .tmp t=>Pure.pure (a.tmps.getD t Go.undef)
   | .cell b t=>do loadVar t (<-Go.asAddr (a.tmps.getD b Go.undef)):Sem Value)).run P w=.ok c.toArray w:=by
  rw[Array.mapM_eq_mapM_toList];simp_all
 refine⟨if h:c.toArray.size=1 then c.toArray[0] else .tuple c.toArray,?_,?_⟩
 ·unfold results;simp only[Zzd];exact(ZaR (λr:Result (Array Value)=>r.andThen λi m=>Sem.run P (Pure.pure (if h:i.size=1 then i[0] else .tuple i)) m) l).trans rfl
 ·have one:∀{v:AV D.E},LR M [v] c->VR M v (if h:c.toArray.size=1 then c.toArray[0] else .tuple c.toArray):=λh=>by
   obtain⟨g,r,rfl,h1,k⟩:=h.aM;obtain rfl:=k.jA;exact h1
  cases res<;>simp only[wN] at hl<;>(try exact one hl)
  rename_i j
  have f:j.length≠1:=by
   have:Bool.not (Nat.beq (kb j) 1):=d;rw[ia] at this;intro e;simp_all
  rw[dif_neg (by rw[Zb5,<-hl.1];exact f)];exact .DC hl
theorem QH {ha hb:List (Nat×AO D.E)}:(∀t o,cA ha t=some o->(cA hb t).isSome->d_ (stay D ha hb) t=some t)/\∀t b,d_ (stay D ha hb) t=some b->b=t:=by
 induction ha with
 | nil=>exact⟨λt o h=>(by cases(show none=some o from h)),λt b h=>(by cases(show none=some b from h))⟩
 | cons p l a=>
  grind [stay,jf,fh]
theorem ke (T:aY D) (F:P.follows .mixedOrders) (Pd:rZ P) {k:bh D} {y:k.Y} (W:P.funcs[k.f]?=some Z) (U:Z.body=some b) (V:rY P D ca) (hN:(k.args y).length<=Z.ntmps)
  (hb:J3 P D cd ca fI Z.ntmps k b Z.results.toList y) (M:Pm D) (A:Array Value) (w:World) (hl:LR M (k.args y) A.toList) (hS:ee M (λt=>cA (k.heap y) t) w) (hT:TF M k.jY) (R:Ending->World->Prop)
  (hR:∀M' u w',VR M' (k.res y) u->cU (λt=>cA (k.heap y) t) M w (λt=>cA (k.dy y) t) M' w' k.jY k.oS->R (.returned u) w'):Calls P k.f A w R:=by
 obtain⟨⟨φ,h⟩,h1,h2⟩:=gj (show(az (tc D (k.args y) 0 .nil) λφ=>az (ML D (k.heap y) .nil) λh=>.ret (φ,h)).wp _ from hb);obtain⟨x,h3,h4⟩:=ai.1 h1;obtain⟨h',h5,h6⟩:=ai.1 h4;cases aq.1 h6;have E:=xh h5;refine calls_of_wp W U ?_;have hA:F0 (λt=>cA (k.heap y) t) M w k.jY Z.ntmps ⟨h,k.jY⟩ φ M { tmps:=A++Array.replicate (Z.ntmps-A.size) Go.undef,defers:=[] } w:=
  ⟨by grind,Ax h3 hl hN,hT,by show Ye _ M w h.get M w;rw[E];exact .refl _ _ _,λt a _ e=>e,Zah _⟩
 refine Qd5 T F Pd V b _ _ _ _ h2 M _ w hA _ λe s' x M2 a2 B I g=>?_
 have fin:(bB (Bool.and (Dz D (k.res y)) (Bool.and (named D (k.heap y) (k.dy y) k.jY k.oS) (Nat.ble k.jY k.oS))) (az (PZ P D s' x Z.results.toList) λvs=>PQ D s' (stay D (k.dy y) (k.heap y)) (k.dy y) vs (wN D (k.res y)))).wp (λ_=>True)->
   a2.defers=[]/\∃v,(results Z a2.tmps).run P B=.ok v B/\R (.returned v) B:=λI=>by
  obtain⟨⟨s3,r⟩,g1,_⟩:=gj I;obtain⟨g2,g3⟩:=bA.1 g1;obtain⟨K,g4⟩:=l8 g2;obtain⟨hnm,s⟩:=l8 g4;have s:=cw.1 s;obtain⟨vs,g5,g6⟩:=ai.1 g3;obtain⟨st1,st2⟩:=QH (D:=D) (ha:=k.dy y) (hb:=k.heap y);have G:=Cc T (λt t' c e e'=>by grind) g6;obtain⟨z,i1,i2,i3,i4⟩:=G.sem M2 B g.fJ g.tf.fresh;have d:F0 (λt=>cA (k.heap y) t) M w k.jY Z.ntmps s3 x z a2 B:=g.step i1 (g.fr.mono (i1.Le g.tf.fresh));obtain⟨vs',X,L⟩:=xl T g5 g.fr g.fJ
  let O:Pm D:=⟨λt=>if k.jY<=t/\t<k.oS then(rl r z).pl t else M.pl t,z.sg⟩
  have m:∀t o,cA (k.dy y) t=some o->(∃S,cA (k.heap y) t=some S)\/(k.jY<=t/\t<k.oS):=λt o ht=>by
   rcases or2 (ec.1 hnm _ (o9 ht)) with q | q
   ·exact .inl (ZcI.1 q)
   ·grind [cw]
  have H:∀t a,(rl r z).pl t=some a->O.pl t=some a:=λt a e=>by
   show(if _ then _ else _)=_
   by_cases J:k.jY<=t/\t<k.oS
   ·grind
   ·rw[Zaa J];obtain⟨c,p,e2⟩:=f_ e;obtain⟨ot,oa,n,C,_⟩:=i4 t c p;rcases m t ot C with⟨S,Q⟩ | q
    ·have:=G.ext t t (st1 t ot C (by rw[Q];rfl));rw[p] at this;cases this;obtain⟨j,e5,_⟩:=hS.obj t S Q;exact d.per t a (hT.lt e5) e2
    ·omega
  have hle:Le (rl r z) O:=⟨H,λ_ _ _ e=>e⟩;obtain⟨u,j1,j2⟩:=ux L K ((i2 _ X).mono hle);refine⟨g.fr.defers,u,j1,hR O u B j2 ?_⟩;have i:∀t o a,cA (k.dy y) t=some o->O.pl t=some a->(rl r z).pl t=some a:=λt o a ht l=>by
   obtain⟨j,p,_⟩:=i3.obj t o ht;grind
  refine⟨⟨λt o ht=>?_,λt t' o o' a n ht N l fn=>i3.inj t t' o o' a n ht N (i t o a ht l) (i t' o' n N fn),λc o v e=>?_,λt o a ht hw l=>i3.sep t o a ht hw (i t o a ht l),λt b xs e a ht l J=>(i3.J6 t b xs e a ht (i t _ a ht l) J).mono λ_ _ _ h=>h,⟨i3.mh.1,λt o a ht hw l=>i3.mh.2 t o a ht hw (i t o a ht l)⟩⟩,
   λt ht=>Zaa ht,d.DZ.J7,d.DZ.lP,d.DZ.size,d.DZ.aO,λt o a ht l J=>?_,λt ht=>?_,d.DZ.os,d.DZ.tape,d.DZ.output,s⟩
  ·obtain⟨j,p,e2⟩:=i3.obj t o ht;exact⟨j,H t j p,e2.mono hle λ_=>rfl⟩
  ·obtain⟨hp,u,U,hv⟩:=i3.gR c o v e;exact⟨hp,u,U,hv.mono hle⟩
  ·obtain⟨c,p,e2⟩:=f_ (i t o a ht l);obtain⟨ot,oa,n,C,Q,e5,e6,_⟩:=i4 t c p;rw[show cA (k.dy y) t=some o from ht] at C;cases C;rcases d.DZ.born c oa a Q e2 J with e7 | ⟨b0,S,j,q1,q2,q3,q4,q5⟩
   ·omega
   ·grind
  ·obtain⟨o,ho⟩:=Zbs.1 ht;grind
 cases e with
 | normal=>exact fin I
 | ret=>exact fin I
 | exit id=>exact(I:False).elim
def Qg1 (i:aY D) (c:P.follows .mixedOrders) (e:rZ P) {k:bh D} (a:P.funcs[k.f]?=some Z) (h:Z.body=some b) (d:rY P D ca) (g:k.Y->cH D) (j:∀y,(k.args y).length<=Z.ntmps)
  (o:∀y,k.pre y->J3 P D cd ca (g y) Z.ntmps k b Z.results.toList y):DW P D k:=
 ⟨⟨Z,b,a,h⟩,λy p M A w hl m n R l=>ke i c e a h d (j y) (o y p) M A w hl m n R l⟩
def bh.under (k:bh D) (me:k.Y->Nat) (n:Nat):bh D:={ k with pre:=λy=>k.pre y/\me y<n }
end
end sx
namespace cls
open Go Go.RowKit
theorem getD_eq {α:Type} {l:List α} {i:Nat} (h:i<l.length) (d:α):l[i]?=some (l.getD i d):=by
 grind
theorem fA {α β:Type} (f:α->List β) (n:Nat) (h:∀x,(f x).length<=n) (l:List α):(l.flatMap f).length<=l.length*n:=by
 induction l with
 | nil=>simp
 | cons x t a=>simp only[Zbt,Zab,Zae];have:=h x;rw[ZaV];omega
abbrev Rg:=Int×Int
variable {l s b:List Rg} {m:List Int} {p:Rg} {y Z:Int} {k:Nat} {c:Int->Bool}
def bk (l:List Rg) (r:Int):Bool:=l.any λx=>decide (x.1<=r)&&decide (r<=x.2)
theorem QI (h:l[k]?=some p) (r:Int):bk (l.drop k) r=((decide (p.1<=r)&&decide (r<=p.2))||bk (l.drop (k+1)) r):=by
 have a:k<l.length:=by
  grind
 rw[Zaq a];rw[Zaf a] at h;cases h;rfl
def fD (r:Int):Bool:=decide (0<=r)&&decide (r<=1114111)&&(decide (r<55296)||decide (57343<r))
def clip (r p:Rg):List Rg:=if max r.1 p.1<=min r.2 p.2 then[(max r.1 p.1,min r.2 p.2)] else[]
def parts:List Rg:=[(0,55295),(57344,1114111)]
def eg (r:Rg):List Rg:=parts.flatMap (clip (max r.1 0,min r.2 1114111))
theorem D4 (r p:Rg):(clip r p).length<=1:=by grind [clip]
def tq (r:Rg):(eg r).length<=2:=fA _ 1 (D4 _) parts
def cg (out:List Rg) (r:Rg):List Rg:=
 match out.getLast? with
 | some p=>if r.1<=p.2+1 then out.dropLast++[(p.1,max p.2 r.2)] else out++[r]
 | none=>[r]
def iL (l:List Rg):List Rg:=l.foldl cg []
def F3 (r:Rg):Prop:=0<=r.1/\r.1<=r.2/\r.2<=1114111
theorem QJ (x:Rg):∀r∈eg x,F3 r:=by
 intro r a;simp only[eg,ZbG] at a;grind [clip,F3]
theorem Cf (h:∀r∈l,F3 r) (d:F3 p):∀r∈cg l p,F3 r:=by
 intro r a;unfold cg at a;split at a
 ·rename_i q b
  have c:q∈l:=List.mem_of_getLast? b;grind [List.dropLast_sublist,F3]
 ·grind
theorem zx (out:List Rg) (r:Rg):(cg out r).length<=out.length+1:=by
 grind [cg]
theorem D5 (h:l[k]?=some p):iL (l.take (k+1))=cg (iL (l.take k)) p:=by
 grind [iL,List.take_add_one]
theorem M6 (h:∀p∈l,F3 p):∀p∈iL l,F3 p:=by
 have gen:∀(l out:List Rg),(∀p∈l,F3 p)->(∀p∈out,F3 p)->∀p∈l.foldl cg out,F3 p:=by
  intro l
  induction l with
  | nil=>intro out _ h;exact h
  | cons x t b=>intro out hs a;exact b _ (λp c=>hs p (by grind)) (Cf a (hs x (by simp)))
 exact gen l [] h (by simp)
theorem xm (s:List Rg):(iL s).length<=s.length:=by
 have gen:∀(s out:List Rg),(s.foldl cg out).length<=out.length+s.length:=by
  intro s
  induction s with
  | nil=>intro out;simp
  | cons x t a=>intro out;have:=a (cg out x);have:=zx out x;simp only[Zb2,Zae];omega
 grind [iL]
def uy (p:Rg):Prop:=0<=p.1/\p.1<=p.2/\p.2<=1114111/\(p.2<55296\/57343<p.1)
def Good (l:List Rg):Prop:=(∀p∈l,uy p)/\l.Pairwise (λp q=>p.2+1<q.1)
theorem r_ (l:List Rg) (r:Int):bk l r↔∃p∈l,p.1<=r/\r<=p.2:=by
 grind [bk]
theorem jD (p:Rg) (l:List Rg) (r:Int):bk (p::l) r=((decide (p.1<=r)&&decide (r<=p.2))||bk l r):=rfl
theorem xn (l m:List Rg) (r:Int):bk (l++m) r=(bk l r||bk m r):=by simp[bk]
theorem QK (h:l.Perm s) (r:Int):bk l r=bk s r:=by
 grind [r_]
theorem gI (r:Int):fD r↔0<=r/\r<=1114111/\(r<55296\/57343<r):=by
 simp[fD];omega
theorem tr (h:Good (p::l)):Good l:=⟨λq a=>h.1 q (by grind),(ZcJ.1 h.2).2⟩
def o_ (h:Good (p::l)) (b:bk l y):p.2+1<y:=by
 have⟨q,a,h1,c⟩:=(r_ _ _).1 b;have:=(ZcJ.1 h.2).1 q a;omega
theorem xp (h:Good (p::l)) (a:bk (p::l) y):p.1<=y:=by
 rw[jD,ZbM] at a;rcases a with a | a
 ·grind
 ·have:=o_ h a;have:=h.1 p (by simp);grind [uy]
theorem qb:∀{l m:List Rg},Good l->Good m->(∀r,bk l r=bk m r)->l=m
 | [],[],_,_,_=>rfl
 | [],q::u,_,hm,h=>by
  have:=h q.1;have k:=hm.1 q (by simp);grind [uy,bk]
 | p::t,[],hl,_,h=>by
  have:=h p.1;have k:=hl.1 p (by simp);grind [uy,bk]
 | p::t,q::u,hl,hm,h=>by
  have ip:=hl.1 p (by simp);have n:=hm.1 q (by simp);unfold uy at ip n;have oM:∀r,p.1<=r->r<=p.2->bk (p::t) r:=λr a b=>by grind [jD]
  have c:∀r,q.1<=r->r<=q.2->bk (q::u) r:=λr a b=>by grind [jD]
  have e:p.1=q.1:=by
   have a:=xp hm ((h p.1).symm.trans (oM p.1 ω ω));have b:=xp hl ((h q.1).trans (c q.1 ω ω));omega
  have e2:p.2=q.2:=by
   rcases Int.lt_trichotomy p.2 q.2 with d | j | d
   ·have a:=(h (p.2+1)).trans (c (p.2+1) ω ω);rw[jD,ZbM] at a;rcases a with a | a
    ·grind
    ·have:=o_ hl a;omega
   ·exact j
   ·have a:=(h (q.2+1)).symm.trans (oM (q.2+1) ω ω);rw[jD,ZbM] at a;rcases a with a | a
    ·grind
    ·have:=o_ hm a;omega
  have f:p=q:=ZdT e e2;congr 1;refine qb (tr hl) (tr hm) λr=>?_
  by_cases o:p.1<=r/\r<=p.2
  ·have g:bk t r=false:=by
    rcases ht:bk t r with _ | _
    ·rfl
    ·have:=o_ hl ht;omega
   have i:bk u r=false:=by
    rcases ht:bk u r with _ | _
    ·rfl
    ·have:=o_ hm ht;omega
   rw[g,i]
  ·have:=h r;grind [jD]
theorem xq (h:Good l) (f:uy p) (b:∀r∈l,r.1<=p.1):Good (cg l p)/\(∀r∈cg l p,r.1<=p.1)/\∀x,bk (cg l p) x=(bk l x||(decide (p.1<=x)&&decide (x<=p.2))):=by
 rcases Zcu l with rfl | ⟨d,r,rfl⟩
 ·refine⟨⟨?_,by simp[cg]⟩,?_,λx=>?_⟩
  ·grind [cg]
  ·grind [cg]
  ·simp[cg,bk]
 ·rw[Zcv] at*
  have c:cg (d++[r]) p=if p.1<=r.2+1 then d++[(r.1,max r.2 p.2)] else d++[r]++[p]:=by simp[cg]
  have ip:=h.1 r (by simp);have g:=ZbC.1 h.2;rw[c];by_cases e:p.1<=r.2+1
  ·rw[Zac e];refine⟨⟨λq a=>?_,?_⟩,λq a=>?_,λx=>?_⟩
   ·rcases Zax.1 a with a | a
    ·exact h.1 q (by simp[a])
    ·grind [uy]
   ·grind
   ·grind
   ·grind [bk]
  ·rw[Zaa e];refine⟨⟨λq a=>?_,?_⟩,λq a=>?_,λx=>?_⟩
   ·rcases Zax.1 a with a | a
    ·exact h.1 q a
    ·simp at a;subst a;exact f
   ·grind
   ·grind
   ·grind [bk]
theorem D6 (hs:∀p∈l,uy p) (c:l.Pairwise (λa b=>a.1<=b.1)):Good (iL l)/\∀x,bk (iL l) x=bk l x:=by
 have gen:∀(l out:List Rg),(∀p∈l,uy p)->l.Pairwise (λa b=>a.1<=b.1)->Good out->(∀p∈out,∀x∈l,p.1<=x.1)->Good (l.foldl cg out)/\∀x,bk (l.foldl cg out) x=(bk out x||bk l x):=by
  intro l
  induction l with
  | nil=>intro out _ _ h _;exact⟨h,λx=>by simp[bk]⟩
  | cons r t i=>
   intro out hs c f hl;have⟨g1,g2,g3⟩:=xq f (hs r (by simp)) (λp d=>hl p d r (by simp));have e:=ZcJ.1 c;have⟨k1,k2⟩:=i _ (λp d=>hs p (by simp[d])) e.2 g1 (λp d x g=>Int.le_trans (g2 p d) (e.1 x g));grind [jD]
 have:=gen l [] hs c ⟨by simp,by simp⟩ (by simp);assumption
theorem M7 (x:Rg):∀r∈eg x,uy r:=by
 intro r a;simp only[eg,ZbG] at a;grind [clip,parts,uy]
theorem QM (x p:Rg) (r:Int):bk (clip x p) r=(decide (x.1<=r)&&decide (r<=x.2)&&(decide (p.1<=r)&&decide (r<=p.2))):=by
 grind [clip,bk]
theorem M8 (x:Rg) (r:Int):bk (eg x) r=(fD r&&(decide (x.1<=r)&&decide (r<=x.2))):=by
 simp only[eg,parts,Zbt,List.flatMap_nil,Zaw,xn,QM];grind [fD]
theorem QN (l:List Rg) (r:Int):bk (l.flatMap eg) r=(fD r&&bk l r):=by
 induction l with
 | nil=>simp[bk]
 | cons x t a=>
  grind [xn,M8,jD]
def xr (l m:List Rg):Prop:=Good m/\(∀r,bk m r=(fD r&&bk l r))/\m.length<=2*l.length
theorem D7 (e:s.Perm (l.flatMap eg)) (d:s.Pairwise (λa b=>a.1<=b.1)):xr l (iL s):=by
 have c:∀p∈s,uy p:=λp h=>by
  grind [M7]
 have⟨g,f⟩:=D6 c d;refine⟨g,λr=>?_,?_⟩
 ·rw[f,QK e,QN]
 ·have h1:=xm s;have i:=e.length_eq;have j:=fA eg 2 tq l;omega
def GJ (h:xr l s) (a:xr l b):s=b:=qb h.1 a.1 λr=>by rw[h.2.1,a.2.1]
def Qg2 (a b:Rg):Bool:=decide (a.1<=b.1)
def aU (l:List Rg):List Rg:=iL ((l.flatMap eg).mergeSort Qg2)
theorem dW (l:List Rg):xr l (aU l):=by
 refine D7 (List.mergeSort_perm _ _) ?_;grind [List.pairwise_mergeSort,Qg2]
def QO (h:xr l s):s=aU l:=GJ h (dW l)
def iv (nx:Int):List Rg->List Rg
 | []=>[(nx,1114111)]
 | p::t=>(nx,p.1-1)::iv (p.2+1) t
theorem Ay (nx:Int) (m:List Rg):(iv nx m).length=m.length+1:=by induction m generalizing nx<;>simp_all [iv]
theorem Az:∀(m:List Rg) (nx:Int),Good m->(∀p∈m,nx<=p.1)->∀r,r<=1114111->bk (iv nx m) r=(decide (nx<=r)&&!bk m r)
 | [],nx,_,_,r,a=>by simp[iv,bk,a]
 | p::t,nx,hg,hn,r,a=>by
  have ip:=hg.1 p (by simp);unfold uy at ip;have d:=ZcJ.1 hg.2;have c:=Az t (p.2+1) (tr hg) (λq b=>by grind) r a;grind [iv,bk]
theorem QP (h:fD y):y<=1114111/\0<=y:=by
 grind [gI]
def Qg3 (l n:List Rg):Prop:=Good n/\(∀r,bk n r=(fD r&&!bk l r))/\n.length<=4*l.length+2
theorem Yg (a:xr l s) (n:xr (iv 0 s) b):Qg3 l b:=by
 refine⟨n.1,λr=>?_,?_⟩
 ·rw[n.2.1];rcases c:fD r with _ | _
  ·rfl
  ·have:=QP c;rw[Az s 0 a.1 (λp d=>(a.1.1 p d).1) r this.1,a.2.1,c];simp[this.2]
 ·have h1:=n.2.2;have e:=a.2.2;grind [Ay]
def cr (l:List Rg) (lo hi:Int):List Rg:=
 match l.getLast? with
 | some r=>if r.2+1=lo then l.dropLast++[(r.1,hi)] else l++[(lo,hi)]
 | none=>[(lo,hi)]
def swap (m:List Int) (j:Nat):List Int:=(m.set j (m.getD (j+1) 0)).set (j+1) (m.getD j 0)
theorem D8 (m:List Int) (j:Nat):(swap m j).length=m.length:=by simp[swap]
theorem D9 (m:List Int) (j i:Nat) (h:j+1<m.length):(swap m j).getD i 0=if i=j+1 then m.getD j 0 else if i=j then m.getD (j+1) 0 else m.getD i 0:=by
 grind [swap]
theorem swap_perm (m:List Int) (j:Nat) (h:j+1<m.length):(swap m j).Perm m:=by
 grind [swap]
def pb (m:List Int) (k i:Nat):Prop:=∀a b,a<b->b<=i->b≠k->m.getD a 0<=m.getD b 0
def D' (m:List Int) (i:Nat):Prop:=∀a b,a<b->b<i->m.getD a 0<=m.getD b 0
theorem Cg (h:D' m k):pb m k k:=λa b h1 c d=>h a b h1 ω
theorem D_ {i:Nat} (h:pb m (k+1) i) (hi:i<m.length) (l:k+1<=i) (j:m.getD (k+1) 0<m.getD k 0):pb (swap m k) k i:=by
 intro a b h1 f g;rw[D9 m k a ω,D9 m k b ω];by_cases d:b=k+1
 ·subst d;rw[Zac rfl,Zaa ω];by_cases e:a=k
  ·omega
  ·rw[Zaa e];exact h a k ω ω ω
 ·rw[Zaa d,Zaa g];by_cases e:a=k+1
  ·rw[Zac e];exact h k b ω f d
  ·rw[Zaa e];by_cases c:a=k
   ·rw[Zac c];exact h (k+1) b ω f d
   ·rw[Zaa c];exact h a b h1 f d
theorem GK {i:Nat} (h:pb m k i) (hk:k=0\/m.getD (k-1) 0<=m.getD k 0):D' m (i+1):=by
 intro a b h1 d;by_cases c:b=k
 ·subst c;rcases hk with rfl | hk
  ·omega
  ·by_cases e:a=b-1
   ·grind
   ·have:=h a (b-1) ω ω ω;omega
 ·exact h a b h1 ω c
theorem QQ (h:D' m m.length):m.Pairwise (· <= ·):=by
 rw[ZbD];intro i j hi b a;have:=h i j a b;grind
def m1 (x:Rg):Bool:=decide (x.1<=x.2)&&decide (0<=x.1)&&decide (x.1<=1114111)
def m2 (x:Rg):Bool:=decide (x.1<=x.2)&&decide (0<=x.2)&&decide (x.2<1114111)
def lT (x:Rg):List Int:=(if m1 x then[x.1] else[])++(if m2 x then[x.2+1] else[])
def c_ (l:List Rg):List Int:=[0,55296,57344,1114112]++l.flatMap lT
theorem tt (x:Rg):(lT x).length<=2:=by grind [lT]
def QR (c:Int->Bool) (m:List Int) (k:Nat):Bool:=decide (m.getD k 0<m.getD (k+1) 0)&&(decide (m.getD k 0<55296)||decide (57343<m.getD k 0))&&c (m.getD k 0)
def Ch (c:Int->Bool) (m:List Int) (out:List Rg) (k:Nat):List Rg:=if QR c m k then cr out (m.getD k 0) (m.getD (k+1) 0-1) else out
def dJ (c:Int->Bool) (m:List Int):Nat->List Rg
 | 0=>[]
 | k+1=>Ch c m (dJ c m k) k
theorem GL (l:List Rg) (lo hi:Int):(cr l lo hi).length<=l.length+1:=by
 grind [cr]
theorem QT (c:Int->Bool) (m:List Int) (k:Nat):(dJ c m k).length<=k:=by
 induction k with
 | zero=>simp[dJ]
 | succ k a=>
  grind [GL,dJ,Ch]
theorem M9 (h:∀r∈l,-10<=r.2/\r.2<=1114111) (a: -10<=Z/\Z<=1114111):∀r∈cr l y Z,-10<=r.2/\r.2<=1114111:=by
 grind [cr,List.dropLast_sublist]
theorem Yh (a:∀x∈m,0<=x/\x<=1114112):∀k,k+1<=m.length->∀r∈dJ c m k,-10<=r.2/\r.2<=1114111:=by
 intro k
 induction k with
 | zero=>intro _ r b;simp[dJ] at b
 | succ k e=>
  intro hk;simp only[dJ,Ch];split
  ·have d:m.getD (k+1) 0∈m:=ZaJ (getD_eq (show k+1<m.length by omega) 0);have:=a _ d;exact M9 (e ω) ω
  ·grind
theorem mB:∀x∈c_ l,0<=x/\x<=1114112:=by
 intro x a;simp only[c_,Zax,ZbG] at a;rcases a with a | ⟨y,_,a⟩
 ·grind
 ·rcases Zax.1 a with a | a
  ·split at a
   ·rename_i h;simp[m1] at h;simp at a;omega
   ·simp at a
  ·split at a
   ·rename_i h;simp[m2] at h;simp at a;omega
   ·simp at a
theorem adj (h:m.Pairwise (· <= ·)) (hk:k+1<m.length) (a:y∈m):y<=m.getD k 0\/m.getD (k+1) 0<=y:=by
 grind [List.getElem_of_mem,List.pairwise_iff_getElem]
theorem Ea {lo hi:Int} (h:Good l) (c:uy (lo,hi)) (f:∀p∈l,p.2<lo):
  Good (cr l lo hi)/\(∀p∈cr l lo hi,p.2<=hi)/\∀r,bk (cr l lo hi) r=(bk l r||(decide (lo<=r)&&decide (r<=hi))):=by
 unfold uy at c;rcases Zcu l with rfl | ⟨e,p,rfl⟩
 ·refine⟨⟨λq b=>?_,by simp[cr]⟩,λq b=>?_,λr=>?_⟩
  ·simp[cr] at b;subst b;exact c
  ·grind [cr]
  ·simp[cr,bk]
 ·rw[Zcv] at*
  have d:cr (e++[p]) lo hi=if p.2+1=lo then e++[(p.1,hi)] else e++[p]++[(lo,hi)]:=by simp[cr]
  have ip:=h.1 p (by simp);have g:=ZbC.1 h.2;unfold uy at ip;rw[d];by_cases b:p.2+1=lo
  ·rw[Zac b];refine⟨⟨λq a=>?_,?_⟩,λq a=>?_,λr=>?_⟩
   ·rcases Zax.1 a with a | a
    ·exact h.1 q (by simp[a])
    ·grind [uy]
   ·grind
   ·grind
   ·grind [bk]
  ·rw[Zaa b];refine⟨⟨λq a=>?_,?_⟩,λq a=>?_,λr=>?_⟩
   ·rcases Zax.1 a with a | a
    ·exact h.1 q a
    ·simp at a;subst a;exact c
   ·grind
   ·grind
   ·grind [bk]
def Ko (c:Int->Bool) (m:List Int):Prop:=∀k,k+1<m.length->∀r,m.getD k 0<=r->r<m.getD (k+1) 0->c r=c (m.getD k 0)
theorem AA (d:m.Perm (c_ l)) (e:m.Pairwise (· <= ·)):Ko (λr=>bk l r) m:=by
 intro k hk r h1 h;have g:=mB _ (d.mem_iff.1 (ZaJ (getD_eq (show k<m.length by omega) 0)));have b1:=mB _ (d.mem_iff.1 (ZaJ (getD_eq hk 0)));have mk:∀x∈l,∀y∈lT x,y<=m.getD k 0\/m.getD (k+1) 0<=y:=λx a y i=>
  adj e hk (d.mem_iff.2 (by grind [c_]))
 generalize m.getD k 0=A at*
 rw[ZaG,r_,r_];constructor
 ·rintro⟨x,a,f,e2⟩;refine⟨x,a,?_,ω⟩;rcases(show A<x.1\/x.1<=A by omega) with b | b
  ·have c:m1 x:=by simp[m1];omega
   have:=mk x a x.1 (by simp[lT,c]);omega
  ·exact b
 ·rintro⟨x,a,f,e2⟩;refine⟨x,a,ω,?_⟩;rcases(show x.2<r\/r<=x.2 by omega) with b | b
  ·have c:m2 x:=by simp[m2];omega
   have:=mk x a (x.2+1) (by simp[lT,c]);omega
  ·exact b
theorem QU (i1:Good l) (i2:∀p∈l,p.2<y) (i3:∀r,bk l r=(decide (r<y)&&(fD r&&c r))) (e:0<=y/\y<=1114112) (f:0<=Z/\Z<=1114112) (hle:y<=Z)
  (d:55296<=y\/Z<=55296) (a2:57344<=y\/Z<=57344) (b:∀r,y<=r->r<Z->c r=c y):
  Good (if (decide (y<Z)&&(decide (y<55296)||decide (57343<y))&&c y)=true then cr l y (Z-1) else l)/\
  (∀p∈(if (decide (y<Z)&&(decide (y<55296)||decide (57343<y))&&c y)=true then cr l y (Z-1) else l),p.2<Z)/\
  ∀r,bk (if (decide (y<Z)&&(decide (y<55296)||decide (57343<y))&&c y)=true then cr l y (Z-1) else l) r=(decide (r<Z)&&(fD r&&c r)):=by
 by_cases a:(decide (y<Z)&&(decide (y<55296)||decide (57343<y))&&c y)
 ·rw[Zac a];have⟨g1,g2,g3⟩:=Ea (lo:=y) (hi:=Z-1) i1 (by grind [uy]) i2;grind [gI]
 ·grind [gI]
theorem M_ (e:m.Perm (c_ l)) (a:m.Pairwise (· <= ·)) (j:Ko c m):
  ∀k,k+1<=m.length->Good (dJ c m k)/\(∀p∈dJ c m k,p.2<m.getD k 0)/\∀r,bk (dJ c m k) r=(decide (r<m.getD k 0)&&(fD r&&c r)):=by
 have mem:∀y∈[0,55296,57344,1114112],(y:Int)∈m:=λy q=>e.mem_iff.2 (by grind [c_])
 have d:∀k,k<m.length->0<=m.getD k 0/\m.getD k 0<=1114112:=λk hk=>mB _ (e.mem_iff.1 (ZaJ (getD_eq hk 0)))
 intro k
 induction k with
 | zero=>
  intro hk;have h0:m.getD 0 0=0:=by
   have⟨i,hi,o⟩:=Za3 (mem 0 (by simp));grind [List.pairwise_iff_getElem]
  refine⟨⟨by simp[dJ],by simp[dJ]⟩,by simp[dJ],λr=>?_⟩;grind [dJ,bk,gI]
 | succ k n=>
  intro hk;have⟨i1,i2,i3⟩:=n ω;have g:=d k ω;have h:=d (k+1) ω;have hle:m.getD k 0<=m.getD (k+1) 0:=by
   grind [List.pairwise_iff_getElem]
  have f:=adj a (show k+1<m.length by omega) (mem 55296 (by simp));have a2:=adj a (show k+1<m.length by omega) (mem 57344 (by simp));have b:=j k ω;exact QU i1 i2 i3 g h hle f a2 b
theorem Eb (a:m.Perm (c_ l)) (e:m.Pairwise (· <= ·)) (f:Ko c m):
  Good (dJ c m (m.length-1))/\∀r,bk (dJ c m (m.length-1)) r=(fD r&&c r):=by
 have hl:1<=m.length:=by have:=a.length_eq;simp[c_] at this;omega
 have⟨g1,_,g3⟩:=M_ a e f (m.length-1) ω;have mem:(1114112:Int)∈m:=a.mem_iff.2 (by simp[c_]);have d:m.getD (m.length-1) 0=1114112:=by
  have b:=mB _ (a.mem_iff.1 (ZaJ (getD_eq (show m.length-1<m.length by omega) 0)));grind [List.getElem_of_mem,List.pairwise_iff_getElem]
 grind [gI]
def lH (l:List Rg):List Rg:=aU (iv 0 (aU l))
def AB (l:List Rg):Qg3 l (lH l):=Yg (dW l) (dW _)
theorem Ec (a:Good s) (h:∀r,bk s r=(fD r&&bk l r)):aU l=s:=qb (dW l).1 a λr=>by rw[(dW l).2.1,h]
theorem Yi (a:Good s) (h:∀r,bk s r=(fD r&&!bk l r)):lH l=s:=qb (AB l).1 a λr=>by rw[(AB l).2.1,h]
end cls
end Go.Proofs.YtiiiphndmbabcaaGreat
