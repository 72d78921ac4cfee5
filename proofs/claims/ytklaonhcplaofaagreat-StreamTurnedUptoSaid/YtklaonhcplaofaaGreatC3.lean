/- StreamTurned: a part of the proof. -/
import Derived.Test.YtklaonhcplaofaaGreatC2
import Derived.LoopN
import Derived.Below
set_option linter.all false
namespace Go.Proofs.YtklaonhcplaofaaGreat
namespace sx
open Go Go.RowKit
section
variable {P:Program} {D:Data} {M M':Pm D} {w w':World} {H:Hp D} {s s':St D.E} {lo:Nat} {m m':Mt D.E} {th:List (Nat×AO D.E)}
variable {a Z:AV D.E} {Y X:Mt D.E} {W g:List (AV D.E)}
theorem WI (N:aY D) {c:Nat} {y:D.E c} {j:Nat} (h:(Qb1 D m a c y j).H m'):yb m m' a (.mP c y j):=by
 cases a<;>simp only[Qb1] at h<;>(try exact h.elim)
 case mP V x j'=>
  obtain⟨h1,n⟩:=bw.1 h;obtain⟨x',p,q⟩:=ai.1 n;obtain⟨rfl,e⟩:=Jb p;cases e;obtain⟨rfl,f⟩:=cD.1 q;cases au.1 f;obtain rfl:=aM.1 h1;exact .same rfl (λM v d=>d) m
 case lL b k i j'=>
  obtain⟨h1,n⟩:=bw.1 h;obtain rfl:=aM.1 h1;obtain⟨a,m1,p,q⟩:=bk.1 n;obtain⟨zs,f,K⟩:=ai.1 q;obtain⟨V,xs,e,ro⟩:=a;obtain⟨rfl,e⟩:=cL f;cases e;obtain⟨rfl,L⟩:=cD.1 K;cases au.1 L;obtain⟨q1,Q,q3⟩:=kh N p;refine⟨q1,λM w B _=>?_⟩;obtain⟨A,g1,g2,g,g3,g4,g5,g6⟩:=q3 M w B;refine⟨A,g1,λv d=>kZ (M:=A) ?_ rfl⟩;cases d with
  | lL u F hk hi=>
   rw[g3] at u;cases u;simp only at g4;have r:i<xs.length:=ω;rw[A6 r];refine .mP (b:=g.bV) (o:=g.sh+i*k) λi' v e=>?_
   have:=g6 F i r i' v e;grind
 case ptr b o=>
  obtain⟨h1,n⟩:=bw.1 h;obtain⟨p,q⟩:=lD h1;obtain rfl:=aM.1 p;obtain rfl:=aM.1 q;rcases gA.1 n with⟨_,f⟩ | ⟨f,K⟩
  ·exact f.elim
  obtain⟨cs,e,L,W⟩:=bk.1 K;obtain⟨x,X,G⟩:=ai.1 W;obtain⟨R,hs,I⟩:=ai.1 G;obtain⟨rfl,J⟩:=cD.1 I;cases au.1 J;have T:=A5 L;obtain⟨q1,Q⟩:=ka hs;have Z:=lY f;refine⟨⟨id,.refl _,λt c e=>?_,λ_ h=>h,λ_ _ h=>.inl h,Zd1 Q.symm⟩,λM w B _=>?_⟩
  ·show R.h.get c=m.s.h.get c
   rw[q1];grind [iI]
  ·obtain⟨g,u,F,C,S,k1,k2,k3,k4,k5⟩:=B.obj b _ T;unfold Sm;show ∃A,cP m.s.h.get M w R.h.get A w m.s.nx R.nx/\_
   rw[q1,Q];have P:Rd M w g.bV g.sh cs:=N7.rd (e:=e) (ro:=false) ⟨C,S,k1,k2,k3,k4,k5⟩;obtain⟨l,hl,hc⟩:=P.list;have O:=uP N X hl;refine⟨_,cP.lock (o1:=.cells cs e true) (cs:=D.bd c x) B T rfl (λ_=>trivial) u F.1 rfl (λv d=>(N.one c x v d).2) (λi v d=>?_) (λM2 Y=>⟨F,C,S,k1,k2,k3,λi v d=>let ⟨U,a,b⟩:=k4 i v d;⟨U,a,b.mono Y⟩,λh=>by cases h⟩) (λ_ _ _ h=>by cases h) _,λv d=>kZ ?_ rfl⟩
   ·obtain⟨U,g1,g2⟩:=O.get d;grind
   ·cases d with
    | ptr z _=>
     rw[u] at z;cases z;refine .mP (b:=g.bV) (o:=g.sh) λi v e=>?_
     grind [cY]
def yb.pair {g b:Nat} (h:(pair D m g b).H m') (k:∀M v,VR M a v->∀c:Pm D,Fu M c->(∀f,M.pl b=some f->c.pl g=some f)->VR c Z v):yb m m' a Z:=by
 obtain⟨p1,p2,p3⟩:=Bb h;refine⟨p1,λM w i _=>⟨M,?_,λv d=>k M v d _ (λ_ _ _ e=>e) λf j=>wb p3 j⟩⟩;unfold Sm;rw[p2];exact .refl i _
def Pv (A:aY D) (h:(m0 D th m a Z).H m'):yb m m' a Z:=by
 cases Z<;>simp only[m0] at h
 case list c F=>exact Pr A h
 case mP c y j=>exact WI A h
 case map=>exact h.elim
 case grow c F z=>
  cases a<;>simp only at h<;>(try exact h.elim)
  ·exact Pu h
  ·obtain⟨G,h1,g⟩:=ai.1 h;obtain⟨rfl,e⟩:=cL h1;cases e;obtain⟨rfl,q⟩:=cD.1 g;refine yb.pair q λM v p w l f=>?_
   cases p with
   | grow h d hl hz hs b s ht=>exact .grow (f _ h) d hl hz (hs.mono l) b s ht
   | jF h d=>exact .jF (f _ h) d
 case own z k n=>
  cases a<;>simp only at h<;>(try exact h.elim)
  ·exact Pt h
  ·obtain⟨h1,g⟩:=bw.1 h;obtain rfl:=aM.1 h1;obtain⟨rfl,q⟩:=cD.1 g;refine yb.pair q λM v p w l f=>?_
   cases p with
   | own h hk d r b s ht=>exact .own (f _ h) hk d r b s ht
   | lE h hk d r h0=>exact .lE (f _ h) hk d r h0
  ·exact WH A h
 case pre z k n=>
  cases a<;>simp only at h<;>(try exact h.elim)
  ·obtain⟨h1,g⟩:=bw.1 h;obtain rfl:=aM.1 h1;obtain⟨rfl,q⟩:=cD.1 g;refine yb.pair q λM v p w l f=>?_
   cases p with
   | own h hk d r b s ht=>exact .pre (f _ h) hk d r b (Zah _) s ht
   | lE h hk d r h0=>exact .og (f _ h) hk d r h0
  ·obtain⟨h1,g⟩:=bw.1 h;obtain rfl:=aM.1 h1;obtain⟨rfl,q⟩:=cD.1 g;refine yb.pair q λM v p w l f=>?_
   cases p with
   | pre h hk d r b hl s ht=>exact .pre (f _ h) hk d r b hl s ht
   | og h hk d r h0=>exact .og (f _ h) hk d r h0
 case part z k o n=>
  cases a<;>simp only at h<;>(try exact h.elim);obtain⟨h1,g⟩:=bw.1 h;obtain rfl:=aM.1 h1;obtain⟨rfl,q⟩:=cD.1 g;obtain⟨rfl,x⟩:=cD.1 q;refine yb.pair x λM v p w l f=>?_
  cases p with
  | part h hk d r B hl b s=>exact .part (f _ h) hk d r B hl b s
  | jf h hk r B=>exact .jf (f _ h) hk r B
 case ptr z o=>
  cases a<;>simp only at h<;>(try exact h.elim);obtain⟨h1,g⟩:=bw.1 h;obtain rfl:=aM.1 h1;refine yb.pair g λM v p w l f=>?_
  cases p with
  | ptr h d=>exact .ptr (f _ h) d
 case lL z k i j=>
  cases a<;>simp only at h<;>(try exact h.elim);obtain⟨h1,g⟩:=bw.1 h;obtain⟨q,x⟩:=lD h1;obtain rfl:=aM.1 q;obtain rfl:=aM.1 x;obtain⟨rfl,C⟩:=cD.1 g;refine yb.pair C λM v p w l f=>?_
  cases p with
  | lL h d hk hi=>exact .lL (f _ h) d hk hi
 case sub z o n=>
  cases a<;>simp only at h<;>(try exact h.elim);obtain⟨h1,g⟩:=bw.1 h;obtain⟨q,x⟩:=lD h1;obtain rfl:=aM.1 q;obtain rfl:=aM.1 x;refine yb.pair g λM v p w l f=>?_
  cases p with
  | sub h d s b=>exact .sub (f _ h) d s b
  | oh=>exact .oh
 all_goals
  obtain⟨u,h1,g⟩:=ai.1 h;cases au.1 g
  first
   | exact .same rfl (λM v p=>wa h1 p) m
   | (exfalso;cases a<;>simp only[vG] at h1<;>first | exact h1 | (obtain⟨_,_,q,x⟩:=bk.1 h1;cases q) | skip)
def Sm.le (h:Sm Y X M w M') (b:bT M Y.s.nx X.s.nx):Le M M':=cP.Le h b
def yb.Jk {b:Mt D.E} (h:yb Y X a Z) (k:Mv X b/\∀M w,dQ M X.s.h.get w->bT M X.s.nx b.s.nx->∃c,Sm X b M w c/\∀l,LR M W l->LR (rl b.r c) g l):
  Mv Y b/\∀M w,dQ M Y.s.h.get w->bT M Y.s.nx b.s.nx->∃c,Sm Y b M w c/\∀l,LR M (a::W) l->LR (rl b.r c) (Z::g) l:=by
 refine⟨h.1.trans k.1,λM w n f=>?_⟩;have d:=f.fst k.1.le;obtain⟨i,g1,g2⟩:=h.2 M w n d;have e:=bT.next f g1;obtain⟨j,g3,g4⟩:=k.2 i w g1.fq e;refine⟨j,cP.trans g1 g3,λl hl=>?_⟩;obtain⟨v,r,rfl,p,o⟩:=hl.bD;exact .cons ((g2 v p).mono (Jj (Sm.le g3 e) k.1.ext)) (g4 r (o.mono (Sm.le g1 d)))
def Qe1 (m:Mt D.E):Mv m m/\∀M w,dQ M m.s.h.get w->bT M m.s.nx m'.s.nx->∃a,Sm m m M w a/\∀l,LR M ([]:List (AV D.E)) l->LR (rl m.r a) ([]:List (AV D.E)) l:=
 ⟨.refl m,λM w b _=>⟨M,.refl b _,λl hl=>by rw[hl.kW];exact .nil⟩⟩
theorem CW (e:aY D):∀{Qug c:List (AV D.E)} {m b:Mt D.E},(mL D th Qug c m).H b->Mv m b/\∀M w,dQ M m.s.h.get w->bT M m.s.nx b.s.nx->∃d,Sm m b M w d/\∀l,LR M Qug l->LR (rl b.r d) c l
 | [],[],m,b,h=>by cases au.1 (show(C.ret m).H b from h);exact Qe1 m
 | [],_::_,_,_,h=>(h:False).elim
 | _::_,[],_,_,h=>(h:False).elim
 | a::Qug,t::c,m,b,h=>by
  obtain⟨m1,h1,f⟩:=ai.1 (show(az (m0 D th m a t) λm=>mL D th Qug c m).H b from h);exact(Pv e h1).Jk (CW e f)
def Qe2 (f:aY D) (h:(mV D th m a Z).H m'):yb m m' a Z:=by
 cases Z<;>simp only[mV] at h<;>(try exact Pv f h)
 case agg G=>
  cases a<;>simp only at h<;>(try exact h.elim);obtain⟨q1,e⟩:=CW f h;refine⟨q1,λM w c b=>?_⟩;obtain⟨i,g1,g2⟩:=e M w c b;refine⟨i,g1,λv d=>?_⟩;cases d with
  | agg hl l=>exact(VR.CC (g2 _ ⟨hl,l⟩):)
 case tuple G=>
  cases a<;>simp only at h<;>(try exact h.elim);obtain⟨q1,e⟩:=CW f h;refine⟨q1,λM w c b=>?_⟩;obtain⟨i,g1,g2⟩:=e M w c b;refine⟨i,g1,λv d=>?_⟩;cases d with
  | tuple hl l=>exact(VR.CD (g2 _ ⟨hl,l⟩):)
 case func g xs I=>
  cases a<;>simp only at h<;>(try exact h.elim);obtain⟨h1,n⟩:=bw.1 h;obtain rfl:=Jh h1;obtain⟨m1,A,B⟩:=ai.1 n;obtain⟨q1,e⟩:=CW f A;obtain⟨q,F⟩:=CW f B;refine⟨q1.trans q,λM w c b=>?_⟩;have j:=b.fst q.le;obtain⟨y,g1,g2⟩:=e M w c j;have k:=bT.next b g1;obtain⟨z,g3,g4⟩:=F y w g1.fq k;refine⟨z,cP.trans g1 g3,λv d=>?_⟩;cases d with
  | func _ hl l p o=>
   have r:=(g2 _ ⟨hl,l⟩).mono (Jj (Sm.le g3 k) q.ext);have s:=g4 _ (LR.mono (Sm.le g1 j) ⟨p,o⟩);exact .func _ r.1 r.2 s.1 s.2
 case iface u x=>
  cases a<;>simp only at h<;>(try exact h.elim);obtain⟨h1,n⟩:=bw.1 h;obtain rfl:=aM.1 h1;obtain⟨q1,e⟩:=Pv f n;refine⟨q1,λM w c b=>?_⟩;obtain⟨i,g1,g2⟩:=e M w c b;refine⟨i,g1,λv d=>?_⟩;cases d with
  | iface _ C=>exact .iface _ (g2 _ C)
theorem FO (e:aY D):∀{Qug c:List (AV D.E)} {m b:Mt D.E},(mVs D th Qug c m).H b->Mv m b/\∀M w,dQ M m.s.h.get w->bT M m.s.nx b.s.nx->∃d,Sm m b M w d/\∀l,LR M Qug l->LR (rl b.r d) c l
 | [],[],m,b,h=>by cases au.1 (show(C.ret m).H b from h);exact Qe1 m
 | [],_::_,_,_,h=>(h:False).elim
 | _::_,[],_,_,h=>(h:False).elim
 | a::Qug,t::c,m,b,h=>by
  obtain⟨m1,h1,f⟩:=ai.1 (show(az (mV D th m a t) λm=>mVs D th Qug c m).H b from h);exact(Qe2 e h1).Jk (FO e f)
def Qcj (a t:AO D.E):Prop:=t.wr=a.wr/\(∀b j,t.sD b j->a.sD b j)/\∀c d e,t=.arr c d e true->a=.arr c d e true
theorem N7.map {d:MI} {e:TypeId} {ro:Bool} (hl:∀l,LR M W l->LR M' g l) (h:N7 M d w W e ro):N7 M' d w g e ro:=by
 have b:=h.rd;obtain⟨l,a,m⟩:=b.list;have c:=hl l a;obtain⟨C,f,k1,k2,k3,k4,k5⟩:=h;refine⟨C,f,k1,k2,by rw[c.1,<-a.1];exact k3,λi v j=>?_,k5⟩;obtain⟨n,k,a2⟩:=c.get j;grind [World.cell?]
def Qe3 {a b:Bool} (h:(Bool.rec (motive:=λ_=>Bool) (Bool.not a) a b:Bool)):a=b:=by cases a<;>cases b<;>first | rfl | cases h
theorem Qe4 (u:aY D) {a t:AO D.E} (h:(mO D th m a t).H m'):Mv m m'/\Qcj a t/\∀M w,dQ M m.s.h.get w->bT M m.s.nx m'.s.nx->∃o,Sm m m' M w o/\∀n,OR M a n w->OR (rl m'.r o) t n w:=by
 cases t with
 | cells F e ro=>
  cases a<;>simp only[mO] at h<;>(try exact h.elim);obtain⟨h1,d⟩:=bw.1 h;obtain⟨f,g⟩:=lD h1;obtain rfl:=aM.1 f;obtain rfl:=Qe3 g;obtain⟨q1,B⟩:=FO u d;refine⟨q1,⟨rfl,λ_ _ _=>trivial,λ_ _ _ h=>by cases h⟩,λM w j p=>?_⟩;obtain⟨o,g1,g2⟩:=B M w j p;refine⟨o,g1,λn b=>⟨⟨b.1.1,b.1.2.1,?_⟩,b.2.map g2⟩⟩;obtain⟨l,k,_⟩:=b.2.rd.list;rw[(g2 l k).1,<-k.1];exact b.1.2.2
 | arr c G e ro=>
  cases a<;>simp only[mO] at h<;>(try exact h.elim);obtain⟨h1,d⟩:=bw.1 h;obtain⟨f,g⟩:=lD h1;obtain rfl:=aM.1 f;obtain rfl:=Qe3 g;obtain⟨I,x,y⟩:=ai.1 d;obtain⟨rfl,e⟩:=cL x;cases e;obtain⟨rfl,z⟩:=cD.1 y;cases au.1 z;refine⟨.refl m,⟨rfl,λ_ _ _=>trivial,λ_ _ _ h=>h⟩,λM w j p=>⟨M,.refl j _,λn b=>⟨b.1,b.2.1,λA=>(b.2.2 A).map λl hl=>⟨hl.1,λi v C q e2=>kZ (hl.2 i v C q e2) (dR u (ZaJ q)).2⟩⟩⟩⟩
 | tok c e=>
  cases a<;>simp only[mO] at h<;>(try exact h.elim);obtain⟨h1,d⟩:=bw.1 h;obtain⟨f,g⟩:=lD h1;obtain rfl:=aM.1 f;obtain rfl:=aM.1 g;cases au.1 d;exact⟨.refl m,⟨rfl,λ_ _ h=>h,λ_ _ _ h=>by cases h⟩,λM w j p=>⟨M,.refl j _,λn b=>b⟩⟩
def Dn (th:List (Nat×AO D.E)) (M:Pm D) (w:World) (m:Mt D.E) (t b:Nat):Prop:=∃a d c,cq th t=some a/\m.s.h.get b=some d/\M.pl b=some c/\OR (rl m.r M) a c w/\Qcj d a
theorem CX (z:aY D):∀{n:Nat} {m d:Mt D.E},(OO D th n m).H d->Ext m.r d.r/\(Inj m.r->Inj d.r)/\m.s.nx<=d.s.nx/\∀M w,dQ M m.s.h.get w->bT M m.s.nx d.s.nx->(∀t b,dN m.r t=some b->(t,b)∈m.todo\/Dn th M w m t b)->
  ∃u,Sm m d M w u/\∀t b,dN d.r t=some b->Dn th u w d t b
 | 0,_,_,h=>(h:False).elim
 | n+1,m,d,h=>by
  obtain⟨s,r,td⟩:=m;cases td with
  | nil=>
   cases au.1 (show(C.ret ⟨s,r,[]⟩).H d from h);exact⟨.refl _,id,Zah _,λM w j o c=>⟨M,.refl j _,λt b e=>by
    rcases c t b e with h1 | h1
    ·cases h1
    ·exact h1⟩⟩
  | cons p td=>
   obtain⟨R,h1,J⟩:=ai.1 (show(az (cN (cq th p.1)) λt=>az (cN (s.h.get p.2)) λa=>az (mO D th ⟨s,r,td⟩ a t) (OO D th n)).H d from h);obtain⟨B,l,K⟩:=ai.1 J;obtain⟨m2,L,N⟩:=ai.1 K;rw[bz] at h1 l;obtain⟨q1,S,T⟩:=Qe4 z L;obtain⟨k1,k2,A,k3⟩:=CX z N;refine⟨q1.ext.trans k1,λhi=>k2 (q1.inj hi),Zav q1.le A,λM w j o c=>?_⟩;have i:bT M s.nx m2.s.nx:=o.fst A;obtain⟨v,g1,g2⟩:=T M w j i;have hle:=Sm.le g1 i;have q:=bT.next o g1;have O:∀t b,Dn th M w ⟨s,r,p::td⟩ t b->dN r t=some b->Dn th v w m2 t b:=λt b ⟨x,y,k,f,e2,g,G,I⟩ e=>⟨x,y,k,f,(q1.WG t b e).trans e2,hle.1 _ _ g,G.mono (Jj hle q1.ext) λ_=>rfl,I⟩
   obtain⟨F,g3,g4⟩:=k3 v w g1.fq q (λt b e=>by
    rcases q1.new t b e with f | f
    ·rcases c t b f with e2 | e2
     ·rcases Zbf.1 e2 with g | g
      ·right;obtain⟨k,P,Q⟩:=j.obj p.2 B l;subst g;exact⟨R,B,k,h1,(q1.WG _ _ f).trans l,hle.1 _ _ P,g2 k Q,S⟩
      ·exact .inl (q1.td _ g)
     ·grind
    ·exact .inl f)
   exact⟨F,cP.trans g1 g3,g4⟩
structure Mtd (th:List (Nat×AO D.E)) (r0 r:Ren) (s:St D.E) (Qug ts:List (AV D.E)) (s':St D.E):Prop where
 ext:Ext r0 r
 inj:Inj r
 all:∀t o,cq th t=some o->∃b,dN r t=some b
 le:s.nx<=s'.nx
 sem:∀M w,dQ M s.h.get w->bT M s.nx s'.nx->∃M',cP s.h.get M w s'.h.get M' w s.nx s'.nx/\(∀l,LR M Qug l->LR (rl r M') ts l)/\dQ (rl r M') (λt=>cq th t) w/\
  ∀t b,dN r t=some b->∃ot oa mi,cq th t=some ot/\s'.h.get b=some oa/\M'.pl b=some mi/\Qcj oa ot
theorem Bc (N:aY D) {J r:Ren} {Qug R:List (AV D.E)} (hi:Inj J) (h:(OP D s J th Qug R).H (s',r)):Mtd th J r s Qug R s':=by
 obtain⟨m1,h1,V⟩:=ai.1 h;obtain⟨m2,W,X⟩:=ai.1 V;obtain⟨Y,B⟩:=bw.1 X;have B:=au.1 B;simp only[Zbx] at B;obtain⟨rfl,rfl⟩:=B;obtain⟨q1,q2⟩:=FO N h1;obtain⟨k1,k2,P,k3⟩:=CX N W;have m:∀t o,cq th t=some o->∃b,dN m2.r t=some b:=λt o ht=>by
  have:=dP.1 Y _ (oz ht);exact ZcI.1 this
 refine⟨q1.ext.trans k1,k2 (q1.inj hi),m,Zav q1.le P,λM w Z O=>?_⟩;obtain⟨S,g1,g2⟩:=q2 M w Z (O.fst P);have x:=bT.next O g1;obtain⟨T,g3,g4⟩:=k3 S w g1.fq x λt b e=>by
  rcases q1.new t b e with d | d
  ·exact .inl (q1.td _ (CT d))
  ·grind
 have hle:=Sm.le g3 x;have f:=g3.fq;refine⟨T,cP.trans g1 g3,λl hl=>(g2 l hl).mono (Jj hle k1),⟨λt o ht=>?_,λt Q o o' i k ht ht' a p q G he=>?_,λb o v e=>?_,λt o i ht hw a q j hj=>?_,λt c xs e i ht a q=>?_,⟨f.lM.1,λt o i ht hw a q=>?_⟩⟩,λt b e=>?_⟩
 ·obtain⟨b,g⟩:=m t o ht;obtain⟨C,n,i,d,e2,z,A,u⟩:=g4 t b g;grind [wb]
 ·obtain⟨b,g,a⟩:=fF a;obtain⟨K,y,p⟩:=fF p;obtain⟨_,n,_,_,e2,_⟩:=g4 t b g;obtain⟨_,I,_,_,F,_⟩:=g4 Q K y;have:=f.inj b K n I i k e2 F a p q G he;subst this;exact k2 (q1.inj hi) t Q b g y
 ·obtain⟨hp,v',hc,hv⟩:=f.gj b o v e;grind [kZ]
 ·obtain⟨b,g,a⟩:=fF a;obtain⟨C,n,k,d,e2,z,A,u,L,_⟩:=g4 t b g;rw[ht] at d;cases d;exact f.sep b n i e2 (u▸hw) a q j (L i j hj)
 ·obtain⟨b,g,a⟩:=fF a;obtain⟨C,n,k,d,e2,z,A,_,_,U⟩:=g4 t b g;rw[ht] at d;cases d;have:=U c xs e rfl;subst this;exact(f.IZ b c xs e i e2 a q).mono λ_ _ _ h=>h
 ·obtain⟨b,g,a⟩:=fF a;obtain⟨C,n,k,d,e2,z,A,u,L,_⟩:=g4 t b g;rw[ht] at d;cases d;exact f.lM.2 b n i e2 (u▸hw) a q
 ·obtain⟨C,n,i,d,e2,z,A,u⟩:=g4 t b e;grind
end
section
variable {P:Program} {D:Data} {M M':Pm D} {w w':World} {H:Hp D} {s s':St D.E} {lo:Nat} {m m':Mt D.E} {th:List (Nat×AO D.E)}
section
variable {f:Nat->Nat}
variable {v:AV D.E} {e:Value} {l:List (AV D.E)} {c:List Value}
def Bd (c:∀t m,M.pl t=some m->M'.pl (f t)=some m) (l:Fu M M') (h:VR M v e) (p:V8 D v):VR M' (AX D f v) e:=by
 cases h<;>simp only[AX]<;>first | (cases p;done) | skip
 case bool b=>exact .bool b
 case lit b=>exact .lit b
 case int h=>exact .int h
 case num h=>exact .num h
 case str h=>exact .str h
 case gy=>exact .gy
 case ptr h a=>exact .ptr (c _ _ h) a
 case j7 g o=>exact .j7 g o
 case lL h a hk hi=>exact .lL (c _ _ h) a hk hi
 case mP h=>exact .mP λi v n=>l _ _ _ (h i v n)
 case dd=>exact .dd
 case own h hk a k j d ht=>exact .own (c _ _ h) hk a k j d ht
 case lE h hk a k hl=>exact .lE (c _ _ h) hk a k hl
 case pre h hk a k j hl d ht=>exact .pre (c _ _ h) hk a k j hl d ht
 case og h hk a k hl=>exact .og (c _ _ h) hk a k hl
 case part h hk a k h0 hl j d=>exact .part (c _ _ h) hk a k h0 hl j d
 case jf h hk k h0=>exact .jf (c _ _ h) hk k h0
 case grow h a hl hz hs j d ht=>exact .grow (c _ _ h) a hl hz (hs.mono l) j d ht
 case jF h a=>exact .jF (c _ _ h) a
 case sub h a d j=>exact .sub (c _ _ h) a d j
 case oh=>exact .oh
 case list hs j d=>exact .list (hs.mono l) j d
 case eD=>exact .eD
 case pP=>exact .pP
 case map h=>exact .map (c _ _ h)
 case nilFunc=>exact .nilFunc
 case nilIface=>exact .nilIface
theorem uR (j:∀t d,M.pl t=some d->M'.pl (f t)=some d) (b:Fu M M') (h:LR M l c) (k:je (V8 D) l):LR M' (ss (AX D f) l) c:=by
 rw[pb];refine⟨by simp[h.1],λi v m e g=>?_⟩;rw[Zbk] at e;cases a:l[i]? with
 | none=>rw[a] at e;cases e
 | some u=>
  rw[a] at e;cases e;exact Bd j b (h.2 i u m a g) (dP.1 k u (ZaJ a))
def Jl (b:∀t l,M.pl t=some l->M'.pl (f t)=some l) (a:Fu M M') (h:VR M v e) (d:okV D v):VR M' (Ls D f v) e:=by
 cases v<;>simp only[Ls]<;>(try exact Bd b a h rfl)
 case agg cs=>cases h with
  | agg hl c=>exact(VR.CC (uR b a ⟨hl,c⟩ d):)
 case tuple cs=>cases h with
  | tuple hl c=>exact(VR.CD (uR b a ⟨hl,c⟩ d):)
 case func g xs q=>
  obtain⟨o,p⟩:=lD d;cases h with
  | func _ hl c i m=>
   have j:=uR b a ⟨hl,c⟩ o;have k:=uR b a ⟨i,m⟩ p;exact .func _ j.1 j.2 k.1 k.2
 case iface t x=>cases h with
  | iface _ n=>exact .iface _ (Bd b a n d)
theorem Jm (j:∀t d,M.pl t=some d->M'.pl (f t)=some d) (b:Fu M M') (h:LR M l c) (k:je (okV D) l):LR M' (ss (Ls D f) l) c:=by
 rw[pb];refine⟨by simp[h.1],λi v m e g=>?_⟩;rw[Zbk] at e;cases a:l[i]? with
 | none=>rw[a] at e;cases e
 | some u=>
  rw[a] at e;cases e;exact Jl j b (h.2 i u m a g) (dP.1 k u (ZaJ a))
def Pw (b:∀t d,M.pl t=some d->M'.pl (f t)=some d) (a:Fu M M') (h:VR M v e) (c:QeN D v):VR M' (OQ D f v) e:=by
 cases v<;>simp only[OQ]<;>(try exact Jl b a h c)
 case tuple cs=>cases h with
  | tuple hl g=>exact(VR.CD (Jm b a ⟨hl,g⟩ c):)
theorem WJ (j:∀t b,M.pl t=some b->M'.pl (f t)=some b) (a:Fu M M') {o:AO D.E} {b:MI} (g:aY D) (h:OR M o b w) (k:okO D o):OR M' (AY D f o) b w:=by
 cases o with
 | cells cs e ro=>exact⟨⟨h.1.1,h.1.2.1,by rw[pb,Za2];exact h.1.2.2⟩,h.2.map λl hl=>Jm j a hl k⟩
 | arr c xs e ro=>exact⟨h.1,h.2.1,λm=>(h.2.2 m).map λl hl=>⟨hl.1,λi v n d e2=>(hl.2 i v n d e2).pure (dR g (ZaJ d)).2 a⟩⟩
 | tok c e=>exact h
end
variable {Z:Nat->Nat} {o:AO D.E} {c:Nat}
theorem Be (o:AO D.E):(AY D Z o).wr=o.wr:=by cases o<;>rfl
def LI (o:AO D.E) (a:MI) (j:Nat):(AY D Z o).sD a j↔o.sD a j:=by cases o<;>exact ZbW
def Px {xs:List (D.E c)} {e:TypeId} {ro:Bool} (h:AY D Z o=.arr c xs e ro):o=.arr c xs e ro:=by cases o<;>first | exact h | cases h
def Jn (P:Program) (D:Data) (k:br D):Prop:=(∃fn c,P.funcs[k.f]?=some fn/\fn.body=some c)/\∀y,k.pre y->∀(M:Pm D) (A:Array Value) (w:World),LR M (k.args y) A.toList->dQ M (λt=>cq (k.heap y) t) w->TF M k.nY->
 ∀R:Ending->World->Prop,(∀a b d,VR a (k.res y) b->cP (λt=>cq (k.heap y) t) M w (λt=>cq (k.hZ y) t) a d k.nY k.Ci->R (.returned b) d)->Calls P k.f A w R
noncomputable def LJ (f:Nat->Nat) (b:Nat):List (Nat×AO D.E)->Option (AO D.E)
 | []=>none
 | p::l=>if f p.1=b then some (AY D f p.2) else LJ f b l
theorem zj:∀{l:List (Nat×AO D.E)},LJ Z c l=some o->∃t a,cq l t=some a/\Z t=c/\o=AY D Z a
 | [],h=>by cases h
 | (t,a)::l,h=>by
  unfold LJ at h;by_cases e:Z t=c
  ·grind [eP]
  ·rw[Zaa e] at h;obtain⟨i,g,h1,b,d⟩:=zj h;grind [eP]
theorem Jo:∀{l:List (Nat×AO D.E)} {h a:T (AO D.E)},(inP D Z l h).H a->∀b,a.get b=match LJ Z b l with
  | some o=>some o
  | none=>h.get b
 | [],h,a,c,b=>by cases au.1 (show(C.ret h).H a from c);rfl
 | p::l,h,a,c,b=>by
  obtain⟨h1,g1,g2⟩:=ai.1 (show(az (inP D Z l h) λh=>cN (h.put (Z p.1) (some (AY D Z p.2)))).H a from c);have d:=Jo g1 b;grind [T.dO,bz,LJ]
theorem CY {r:Ren}:∀{l:List (Nat×AO D.E)} {h a:T (AO D.E)},(Qb2 D r l h).H a->∀b,((∃p∈l,dN r p.1=some b)->a.get b=none)/\((¬∃p∈l,dN r p.1=some b)->a.get b=h.get b)
 | [],h,a,d,b=>by cases au.1 (show(C.ret h).H a from d);exact⟨λ⟨p,e,_⟩=>by grind,λ_=>rfl⟩
 | p::l,h,a,d,b=>by
  obtain⟨c,g1,g2⟩:=ai.1 (show(az (cN (dN r p.1)) λb=>az (cN (h.put b none)) λh=>Qb2 D r l h).H a from d);obtain⟨h1,g3,g4⟩:=ai.1 g2;rw[bz] at g1 g3;have f:=CY g4 b;grind [T.dO]
def CZ {l:List (Nat×AO D.E)} (h:below D c l) {t:Nat} (ht:cq l t=some o):t<c:=cm.1 (dP.1 h _ (oz ht))
theorem Py (hD:aY D) {k:br D} {y:k.Y} {args:List (AV D.E)} {v:AV D.E} (hk:Jn P D k) (h:(OS D k y args s).H (v,s')):FI P D k.f args s v s':=by
 obtain⟨Z,h1⟩:=cD.1 h;obtain⟨h2,h3⟩:=bw.1 h1;obtain⟨h4,h5⟩:=lD h2;obtain⟨V,X⟩:=lD h4;obtain⟨hres,hok⟩:=lD h5;have X:=cm.1 X;obtain⟨n,r,h6,h7⟩:=bk.1 h3;obtain⟨h2',h8,h9⟩:=ai.1 h7;obtain⟨h3',h10,F⟩:=ai.1 h9;have F:=au.1 F;simp only[Zbx] at F;obtain⟨rfl,rfl⟩:=F;have hm:=Bc hD (λt t' b e=>by cases(show none=some b from e)) h6;have hle:=hm.le;refine⟨by grind,hk.1,λM A w hl hS G R hR=>?_⟩;have G:bT M s.nx (n.nx+(k.Ci-k.nY)):=G;obtain⟨L,g1,g2,g3,g4⟩:=hm.sem M w hS (G.fst ω);have N:bT L n.nx (n.nx+(k.Ci-k.nY)):=G.next g1;have hr0:∀t,k.nY<=t->dN r t=none:=λt ht=>by
  cases hq:dN r t with
  | none=>rfl
  | some b=>
   obtain⟨ot,oa,g,i,_⟩:=g4 t b hq;have:=CZ V i;omega
 have hTF:TF (rl r L) k.nY:=λt ht=>by
  show(dN r t).bind L.pl=none
  grind
 refine hk.2 y Z.out (rl r L) A w (g2 _ hl) g3 hTF R λQ v' w' hv a=>?_
 let f:=rn r k.nY n.nx
 have z:∀t b,dN r t=some b->f t=b:=λt b e=>by
  show Option.rec (motive:=λ_=>Nat) (n.nx+(t-k.nY)) (λb=>b) (dN r t)=b
  rw[e]
 have f_new:∀t,k.nY<=t->f t=n.nx+(t-k.nY):=λt e=>by
  show Option.rec (motive:=λ_=>Nat) (n.nx+(t-k.nY)) (λb=>b) (dN r t)=_
  rw[hr0 t e]
 let S:Pm D:=⟨λb=>if n.nx<=b/\b<n.nx+(k.Ci-k.nY) then Q.pl (k.nY+(b-n.nx)) else L.pl b,Q.sg⟩
 have hf:∀t g,Q.pl t=some g->S.pl (f t)=some g:=λt g e=>by
  by_cases C:k.nY<=t/\t<k.Ci
  ·grind
  ·rw[a.ext t C] at e;obtain⟨b,i,e2⟩:=fF e;rw[z t b i];show(if _ then _ else _)=_
   by_cases l:n.nx<=b/\b<n.nx+(k.Ci-k.nY)
   ·rw[N b l.1 l.2] at e2;cases e2
   ·grind
 have O:Fu Q S:=λ_ _ _ e=>e
 refine hR S v' w' (Pw hf O hv hres) (g1.trans ?_)
 
 classical
 let Lw:Nat->Prop:=λb=>∃p∈k.heap y,dN r p.1=some b
 let K:Hp D:=λb=>if Lw b then n.h.get b else none
 let K':Hp D:=λb=>LJ f b (k.hZ y)
 have W:∀t b,dN r t=some b->Lw b:=λt b e=>by
  obtain⟨ot,_,_,i,_⟩:=g4 t b e;exact⟨(t,ot),oz i,e⟩
 have hK:∀t b,dN r t=some b->K b=n.h.get b:=λt b e=>Zac (W t b e)
 have Qk7:∀c,Lv (λt=>cq (k.heap y) t) (rl r L) c->Lv K L c:=λc ⟨t,o,g,i,e2,e3,x,m⟩=>by
  obtain⟨b,e6,e7⟩:=fF e3;obtain⟨ot,oa,I,q1,q2,q3,q4,_⟩:=g4 t b e6;rw[show cq (k.heap y) t=some o from i] at q1;cases q1;exact⟨b,oa,g,by grind,q4▸e2,e7,x,m⟩
 have Qk8:cP K L w K' S w' n.nx (n.nx+(k.Ci-k.nY)):=by
  have d:∀b J,K' b=some J->∃t o g,cq (k.hZ y) t=some o/\f t=b/\J=AY D f o/\Q.pl t=some g/\S.pl b=some g/\OR Q o g w':=λb J l=>by
   obtain⟨t,o,i,e2,e3⟩:=zj l;obtain⟨g,x,m⟩:=a.fq.obj t o i;grind
  refine⟨⟨λb J l=>?_,λb T o J g I l B e e' C hr' he=>?_,λb o v e=>?_,λb o g l hw e C j hj=>?_,λb c xs e g l hmi C=>?_,⟨a.fq.lM.1,λb o g l hw e C=>?_⟩⟩,λb l=>?_,λb o v e=>a.I0 b o v e,λb o e=>?_,a.size,λc hc hn=>a.aN c hc λhx=>hn (Qk7 c hx),λb o g l e C=>?_,λb l=>?_,a.os,a.tape,a.output,ω⟩
  ·obtain⟨t,o,g,i,e2,rfl,x,m,e6⟩:=d b J l;exact⟨g,m,WJ hf O hD e6 (dP.1 hok _ (oz i))⟩
  ·obtain⟨t,p,q,i,e2,_,x,m,_⟩:=d b o l;obtain⟨t',p',q',e1',e2',_,e4',U,_⟩:=d T J B;rw[e] at m;cases m;rw[e'] at U;cases U;have:=a.fq.inj t t' p p' g I i e1' x e4' C hr' he;grind
  ·obtain⟨hp,v',hc,hvv⟩:=a.fq.gj b o v e;exact⟨hp,v',hc,hvv.pure hp O⟩
  ·obtain⟨t,p,q,i,e2,rfl,x,m,_⟩:=d b o l;rw[e] at m;cases m;exact a.fq.sep t p g i (by grind [Be]) x C j ((LI p g j).1 hj)
  ·obtain⟨t,p,q,i,e2,e3,x,m,_⟩:=d b _ l;rw[hmi] at m;cases m;have:=Px e3.symm;subst this;exact a.fq.IZ t c xs e g i x C
  ·obtain⟨t,p,q,i,e2,rfl,x,m,_⟩:=d b o l;rw[e] at m;cases m;exact a.fq.lM.2 t p g i (by grind [Be]) x C
  ·exact Zaa l
  ·rcases a.kX b o e with u | u | u
   ·exact .inl u
   ·omega
   ·grind
  ·obtain⟨t,p,q,i,e2,rfl,x,m,_⟩:=d b o l;rw[e] at m;cases m;rcases a.born t p g i x C with u | ⟨t0,p0,qT,i1,i2,i3,i4,i5⟩
   ·omega
   ·obtain⟨b0,i6,i7⟩:=fF i2;obtain⟨ot,oa,I,q1,q2,q3,q4,_⟩:=g4 t0 b0 i6;grind [Be]
  ·obtain⟨J,ho'⟩:=Zbs.1 l;obtain⟨t,p,q,i,e2,_,x,m,_⟩:=d b J ho';rcases a.Lw t (by grind) with u | u
   ·obtain⟨o0,ho0⟩:=Zbs.1 u;obtain⟨T,B⟩:=hm.all t o0 ho0;obtain⟨ot,oa,I,q1,q2,q3,q4,_⟩:=g4 t T B;left;rw[<-e2,z t T B,hK t T B,q2];simp
   ·grind
 refine Qk8.frame g1.fq N (λb o l=>?_) λb=>?_
 ·grind
 ·grind [Jo,CY]
theorem Bf (d:aY D) {tab:List (br D)} (ht:∀k∈tab,Jn P D k):sG P D (Wv D tab):=by
 intro f args s v c h
 induction tab with
 | nil=>exact(h:False).elim
 | cons k tab a=>
  have a:=a λk hk=>ht k (ZaU _ hk)
  rcases gA.1 (show(bE (Nat.beq k.f f) (bE (AZ (k.ya args s)) (Wv D tab f args s) (az (k.ya args s) λy=>OS D k y args s)) (Wv D tab f args s)).H (v,c) from h) with⟨h1,b⟩ | ⟨_,b⟩
  ·grind [gA,ai,aM,Py]
  ·grind
end
section
variable {P:Program} {D:Data} {M M':Pm D} {w w':World} {H H':Hp D} {s s':St D.E} {φ φ':T (AV D.E)} {a:Act} {N:Nat} {m m':Mt D.E} {th:List (Nat×AO D.E)}
variable {H0:Hp D} {M0:Pm D} {w0:World} {base:Nat}
structure WK (H0:Hp D) (M0:Pm D) (w0:World) (H:Hp D) (M:Pm D) (w:World):Prop where
 I0:Fu M0 M
 kX:∀b o,M.sg b o≠none->M0.sg b o≠none\/w0.heap.size<=b\/Lv H0 M0 b
 size:w0.heap.size<=w.heap.size
 aN:∀c,c<w0.heap.size->¬Lv H0 M0 c->w.heap[c]?=w0.heap[c]?
 born:∀b o mi,H b=some o->M.pl b=some mi->mi.real=true->w0.heap.size<=mi.bV\/∃b0 o0 qT,H0 b0=some o0/\M0.pl b0=some qT/\qT.real=true/\qT.bV=mi.bV/\(o.wr=true->o0.wr=true)
 os:w.os=w0.os
 tape:w.tape=w0.tape
 output:w.output=w0.output
theorem WK.refl (H0:Hp D) (a:Pm D) (w0:World):WK H0 a w0 H0 a w0:=⟨λ_ _ _ h=>h,λ_ _ h=>.inl h,Zah _,λ_ _ _=>rfl,λb o f c d e=>.inr ⟨b,o,f,c,d,e,rfl,id⟩,rfl,rfl,rfl⟩
def WK.wrt (h:WK H0 M0 w0 H M w) {c:Nat} (j:Lv H M c):w0.heap.size<=c\/Lv H0 M0 c:=by
 obtain⟨b,o,p,i,m,l,n,rfl⟩:=j;rcases h.born b o p i l n with hs | ⟨g,q,f,a,d,e,k,hw⟩
 ·omega
 ·exact .inr ⟨g,q,f,a,hw m,d,e,k⟩
theorem WK.FL {lo hi:Nat} (h:WK H0 M0 w0 H M w) (k:cP H M w H' M' w' lo hi):WK H0 M0 w0 H' M' w':=by
 refine⟨λb o v e=>k.I0 _ _ _ (h.I0 _ _ _ e),λb o d=>?_,Zav h.size k.size,λc j q=>?_,λb o u d n r=>?_,k.os.trans h.os,k.tape.trans h.tape,k.output.trans h.output⟩
 ·rcases k.kX b o d with a | a | a
  ·exact h.kX b o a
  ·exact .inr (.inl (Zav h.size a))
  ·exact .inr (h.wrt a)
 ·rw[k.aN c (ZbB j h.size) λhw=>?_,h.aN c j q];rcases h.wrt hw with a | a
  ·omega
  ·grind
 ·rcases k.born b o u d n r with hs | ⟨b1,y,i,kP,f,g,m,t⟩
  ·exact .inl (Zav h.size hs)
  ·rcases h.born b1 y i kP f g with hs | ⟨z,B,x,l,p,s,A,hw⟩
   ·omega
   ·grind
structure E3 (H0:Hp D) (M0:Pm D) (w0:World) (base N:Nat) (s:St D.E) (φ:T (AV D.E)) (M:Pm D) (a:Act) (w:World):Prop where
 fq:dQ M s.h.get w
 fr:FR M φ a N
 tf:TF M s.nx
 C0:WK H0 M0 w0 s.h.get M w
 per:∀t mi,t<base->M.pl t=some mi->M0.pl t=some mi
 le:base<=s.nx
variable {v d:AV D.E} {b:Nat} {l:List (Nat×AO D.E)}
def E3.step {b:Act} (h:E3 H0 M0 w0 base N s φ M a w) (k:cP s.h.get M w s'.h.get M' w' s.nx s'.nx) (c:FR M' φ' b N):E3 H0 M0 w0 base N s' φ' M' b w':=
 ⟨k.fq,c,h.tf.FL k,h.C0.FL k,λt d ht e=>h.per t d ht (by rw[<-k.ext t (by have:=h.le;omega)];exact e),Zav h.le k.le⟩
theorem Pz (p:aY D) (h:(IX D s v).H (d,s')) (l:dQ M s.h.get w):∃j,cP s.h.get M w s'.h.get j w s.nx s'.nx/\∀val,VR M v val->VR j d val:=by
 have i:∀{v d:AV D.E},(C.ret (v,s)).H (d,s')->∃j,cP s.h.get M w s'.h.get j w s.nx s'.nx/\∀val,VR M v val->VR j d val:=λe=>by
  cases au.1 e;exact⟨M,.refl l _,λ_ h=>h⟩
 cases v<;>simp only[IX] at h<;>(try exact i h)
 case own b k n=>
  obtain⟨a,m1,h1,f⟩:=bk.1 h;cases au.1 f;obtain⟨q1,q,m⟩:=kh p h1;grind [sK]
 case pre b k n=>
  obtain⟨a,m1,h1,f⟩:=bk.1 h;cases au.1 f;obtain⟨q1,q,m⟩:=kh p h1;obtain⟨j,g1,g2,x,g3,g4,g5,g6⟩:=m M w l;exact⟨j,g1,λv g=>(sK g2 g3 g4 g5 g6).2.1 g⟩
 case part b k o n=>
  obtain⟨a,m1,h1,f⟩:=bk.1 h;cases au.1 f;obtain⟨q1,q,m⟩:=kh p h1;obtain⟨j,g1,g2,x,g3,g4,g5,g6⟩:=m M w l;exact⟨j,g1,λv g=>(sK g2 g3 g4 g5 g6).2.2 o g⟩
 case grow c xs b=>
  cases au.1 h;refine⟨M,.refl l _,λv g=>?_⟩;cases g with
  | grow h u hl hz hs t r ht=>exact .list hs t r
  | jF h u=>exact .eD
theorem wc {k:IntKind} {x:Int}:∀{n:Nat} {v:AV D.E},(OU D k x n).H v->∀(M:Pm D) val,VR M (.int k x) val->VR M v val
 | 0,v,h,M,val,b=>by
  obtain⟨h1,a⟩:=cT.1 (show(ask (aC x zI) (.ret (.num k zI))).H v from h);cases au.1 a;have h1:x=zI:=by grind [aC]
  subst h1;cases b;exact .num (by assumption)
 | n+1,v,h,M,val,b=>by
  rcases uK.1 (show(C.split (aC x (.ofNat (n+1))) (.ret (.num k (.ofNat (n+1)))) (OU D k x n)).H v from h) with⟨h1,a⟩ | ⟨_,a⟩
  ·cases au.1 a;have h1:x=.ofNat (n+1):=by grind [aC]
   subst h1;cases b;exact .num (by assumption)
  ·exact wc a M val b
def C3 {val:Value} (h:VR M v val):IV D v:=by
 cases h<;>simp only[IV]<;>(try trivial)
 case str l h=>exact ZaK (show(l.length:Int)<=9223372036854775807 by omega)
 case own a e d ht=>rw[a];simp[aH,zI];omega
 case lE g a hl=>rw[a];simp[aH,zI]
 case grow c b cap xs i f g hl hz hs e d ht=>exact ZaK (show(xs.length:Int)<=9223372036854775807 by omega)
 case list c b o cap xs hs e d=>exact ZaK (show(xs.length:Int)<=9223372036854775807 by omega)
theorem we:∀{l:List (AV D.E)} {l':List Value},LR M l l'->OT D l
 | [],_,_=>trivial
 | v::l,l',h=>by
  obtain⟨c,r,_,b,a⟩:=h.bD;exact⟨C3 b,we a⟩
def PA {val:Value} (h:VR M v val):IW D v:=by
 cases v<;>simp only[IW]<;>(try exact C3 h)
 case agg l=>cases h with
  | agg hl a=>exact we (l':=_) ⟨hl,a⟩
 case tuple l=>cases h with
  | tuple hl a=>exact we (l':=_) ⟨hl,a⟩
def Qck (c:FR M φ a N) (g:∀val,VR M v val->VR M d val) (h:φ.get b=some v) (f:φ.put b (some d)=some φ'):FR M φ' a N:=by
 refine⟨λx u t=>?_,c.size,c.defers⟩;rw[T.dO _ _ _ _ f x] at t;by_cases e:x=b
 ·subst e;rw[Zac rfl] at t;cases t;exact g _ (c.at_ x v h)
 ·rw[Zaa e] at t;exact c.at_ x u t
def WL (c:FR M φ a N) (f:Le M M') (i:∀val,VR M v val->VR M' d val) (h:φ.get b=some v) (g:φ.put b (some d)=some φ'):FR M' φ' a N:=by
 refine⟨λx u t=>?_,c.size,c.defers⟩;rw[T.dO _ _ _ _ g x] at t;by_cases e:x=b
 ·subst e;rw[Zac rfl] at t;cases t;exact i _ (c.at_ x v h)
 ·rw[Zaa e] at t;exact(c.at_ x u t).mono f
theorem cP.same {u o1:AO D.E} {l:MI} (d:dQ M H0 w) (I:H0 b=some u) (J:M.pl b=some l) (K:OR M o1 l w) (hw:o1.wr=u.wr) (q:∀j,o1.sD l j->u.sD l j) (C:∀c xs e,o1≠.arr c xs e true) (lo:Nat):
  cP H0 M w (iI H0 b (some o1)) M w lo lo:=by
 have a:∀c o,iI H0 b (some o1) c=some o->∃g,H0 c=some g/\o.wr=g.wr/\(∀m,M.pl c=some m->∀j,o.sD m j->g.sD m j):=λc o h=>by
  grind [iI]
 refine⟨⟨λc o h=>?_,λc v o g m F h y e x r H A=>?_,d.gj,λc o m h hw e i j B=>?_,λc k xs e m h n t=>?_,⟨d.lM.1,λc o m h hw e i=>?_⟩⟩,λ_ _=>rfl,λ_ _ _ h=>h,λ_ _ h=>.inl h,Zah _,λ_ _ _=>rfl,λc o m h e i=>?_,λc h=>?_,rfl,rfl,rfl,Zah _⟩
 ·unfold iI at h;split at h
  ·grind
  ·exact d.obj c o h
 ·obtain⟨p,f,_⟩:=a c o h;obtain⟨G,s,_⟩:=a v g y;exact d.inj c v p G m F f s e x r H A
 ·obtain⟨p,f,h1,z⟩:=a c o h;exact d.sep c p m f (by grind) e i j (z m e j B)
 ·unfold iI at h;split at h
  ·grind
  ·exact d.IZ c k xs e m h n t
 ·obtain⟨p,f,h1,_⟩:=a c o h;exact d.lM.2 c p m f (by grind) e i
 ·grind
 ·grind [iI]
theorem PB {o n:Nat} (h:(Fq D b o n s).H s') (g:dQ M s.h.get w):cP s.h.get M w s'.h.get M w s.nx s'.nx:=by
 obtain⟨a,h1,d⟩:=ai.1 (show(az (cN (s.h.get b)) _).H s' from h);cases a with
 | cells cs e ro=>
  obtain⟨v,t,x⟩:=ai.1 d;obtain⟨B,f,y⟩:=ai.1 x;obtain⟨q1,A⟩:=ka y;have j:=bz.1 h1;have l:=bz.1 t;rw[eI] at l;obtain⟨E,z,k,C,r,k1,k2,k3,k4,k5⟩:=g.obj b _ j;rw[q1,A];refine cP.same (o1:=.cells (cC cs o B) e ro) g j z ⟨⟨k.1,k.2.1,by grind [lU]⟩,C,r,k1,k2,by grind [lU],λi u hu=>?_,k5⟩ rfl (λ_ h=>h) (λ_ _ _ h=>by cases h) _;unfold cC at hu;rw[List.getElem?_set] at hu;split at hu
  ·rename_i q
   subst q;split at hu
   ·cases hu;obtain⟨m,p,a2⟩:=k4 _ v l;refine⟨m,p,?_⟩;cases v<;>simp only[Cy] at f<;>(try (cases au.1 f;exact a2));exact wc f M m a2
   ·cases hu
  ·grind
 | arr c xs e ro=>exact(d:False).elim
 | tok c e=>exact(d:False).elim
theorem PC (m:aY D) {h:Hint} (f:(yV D h s φ).H (s',φ')) (c:E3 H0 M0 w0 base N s φ M a w):∃g,E3 H0 M0 w0 base N s' φ' g a w:=by
 cases h with
 | lock t=>
  obtain⟨v,h1,d⟩:=ai.1 (show(az (cN (φ.get t)) λv=>aL (IX D s v) λv s=>az (cN (φ.put t (some v))) λφ=>.ret (s,φ)).H (s',φ') from f);obtain⟨r,q,e,i⟩:=bk.1 d;obtain⟨l,j,k⟩:=ai.1 i;cases au.1 k;obtain⟨g,g1,g2⟩:=Pz m e c.fq;exact⟨g,c.step g1 (WL c.fr (g1.Le c.tf.fresh) g2 (bz.1 h1) (bz.1 j))⟩
 | Qb3 t n=>
  obtain⟨v,h1,d⟩:=ai.1 (show(az (cN (φ.get t)) λv=>az (Cy D v n) λv=>az (cN (φ.put t (some v))) λφ=>.ret (s,φ)).H (s',φ') from f);obtain⟨r,e,i⟩:=ai.1 d;obtain⟨l,j,k⟩:=ai.1 i;cases au.1 k;refine⟨M,c.step (.refl c.fq _) (Qck c.fr (λval p=>?_) (bz.1 h1) (bz.1 j))⟩;cases v<;>simp only[Cy] at e<;>(try (cases au.1 e;exact p));grind [wc]
 | fact t=>
  cases au.1 (show(C.ret (s,φ)).H (s',φ') from f);grind
 | IU b o n=>
  obtain⟨q,h1,d⟩:=ai.1 (show(az (Fq D b o n s) λs=>.ret (s,φ)).H (s',φ') from f);cases au.1 d;exact⟨M,c.step (PB h1 c.fq) c.fr⟩
theorem sL (j:aY D) {K:St D.E->T (AV D.E)->Prop}:∀{l:List (Nat×Hint)} {s:St D.E} {φ:T (AV D.E)} {M:Pm D},od D l b s φ K->E3 H0 M0 w0 base N s φ M a w->∃r f u,K r f/\E3 H0 M0 w0 base N r f u a w
 | [],s,φ,M,h,e=>⟨s,φ,M,h,e⟩
 | p::l,s,φ,M,h,e=>by
  have c:cond (Nat.beq p.1 b) (Ϸ D p.2 φ ((yV D p.2 s φ).wp λq=>od D l b q.1 q.2 K)) (od D l b s φ K):=h;cases m:Nat.beq p.1 b with
  | false=>rw[m] at c;exact sL j c e
  | true=>
   rw[m] at c;have x:(yV D p.2 s φ).wp λq=>od D l b q.1 q.2 K:=by
    cases g:p.2 with
    | fact t=>
     rw[g] at c;have d:Option.rec (motive:=λ_=>Prop) ((yV D (.fact t) s φ).wp λq=>od D l b q.1 q.2 K) (λv=>IW D v->(yV D (.fact t) s φ).wp λq=>od D l b q.1 q.2 K) (φ.get t):=c;cases k:φ.get t with
     | none=>rw[k] at d;exact d
     | some v=>rw[k] at d;exact d (PA (e.fr.at_ t v k))
    | lock t=>rw[g] at c;exact c
    | Qb3 t n=>rw[g] at c;exact c
    | IU id o n=>rw[g] at c;exact c
   obtain⟨⟨B,z⟩,d,y⟩:=fM x;obtain⟨A,i⟩:=PC j d e;exact sL j y i
theorem C4:∀{l:List (Nat×AO D.E)} {h a:T (AO D.E)},(Lu D l h).H a->∀b,a.get b=match cq l b with
  | some o=>some o
  | none=>h.get b
 | [],h,a,c,b=>by cases au.1 (show(C.ret h).H a from c);rfl
 | (t,o)::l,h,a,c,b=>by
  obtain⟨h1,g1,g2⟩:=ai.1 (show(az (Lu D l h) λh=>cN (h.put t (some o))).H a from c);have d:=C4 g1 b;grind [T.dO,bz,eP]
theorem wg {a:T (AO D.E)} (c:(Lu D l .nil).H a):a.get=λb=>cq l b:=by
 grind [C4,T.get_nil]
theorem LK:(∀t o,cq l t=some o->t<base->dN (fixed D base l) t=some t)/\∀t b,dN (fixed D base l) t=some b->b=t:=by
 induction l with
 | nil=>exact⟨λt o h=>(by cases(show none=some o from h)),λt b h=>(by cases(show none=some b from h))⟩
 | cons p l a=>
  grind [fixed,iO,eP,CB]
theorem Jp:∀{l:List Nat} {b:List (AV D.E)},(vI D φ l).H b->FR M φ a N->LR M b (l.map λt=>a.tmps.getD t Go.undef)
 | [],b,h,_=>by cases au.1 (show(C.ret []).H b from h);exact .nil
 | t::l,b,h,hf=>by
  obtain⟨v,h1,c⟩:=ai.1 (show(az (cN (φ.get t)) λv=>az (vI D φ l) λr=>.ret (v::r)).H b from h);obtain⟨r,d,e⟩:=ai.1 c;cases au.1 e;exact .cons (hf.at_ t v (bz.1 h1)) (Jp d hf)
theorem wi:∀{l:List Nat} {b:List (AV D.E)} {φ a:T (AV D.E)},(Wx D b l φ).H a->b.length>=l.length/\∀t v,a.get t=some v->φ.get t=some v\/∃i:Nat,l[i]?=some t/\b[i]?=some v
 | [],b,φ,a,h=>by cases au.1 (show(C.ret φ).H a from h);exact⟨by simp,λt v h=>.inl h⟩
 | x::l,[],φ,a,h=>(h:False).elim
 | x::l,u::b,φ,a,h=>by
  obtain⟨j,h1,d⟩:=ai.1 (show(az (cN (φ.put x (some u))) λφ=>Wx D b l φ).H a from h);obtain⟨q1,g⟩:=wi d;refine⟨by grind,λt v f=>?_⟩;rcases g t v f with c | ⟨i,c,k⟩
  ·rw[T.dO _ _ _ _ (bz.1 h1) t] at c;by_cases e:t=x
   ·rw[Zac e] at c;cases c;exact .inr ⟨0,by grind,rfl⟩
   ·grind
  ·exact .inr ⟨i+1,by assumption,by assumption⟩
theorem wj (hD:aY D) {L:iG D} {x:L.X} {y:List (AV D.E)} {kp:List (Nat×AO D.E)} {u:Unit} {sh:St D.E} {p:T (AV D.E)} (k:(tt D base L x y kp s φ).H u) (hs:(IY D base L x y kp).H (sh,p)) (hkv:y.length=L.aN.length) (f:E3 H0 M0 w0 base N s φ M a w):
  ∃Q,E3 H0 M0 w0 base N sh p Q a w:=by
 obtain⟨Qug,h1,S⟩:=ai.1 k;obtain⟨⟨s1,r⟩,O,_⟩:=ai.1 S;rw[fi] at h1;rw[fi,fi] at O;obtain⟨φ1,U,V⟩:=ai.1 hs;obtain⟨φ2,W,Y⟩:=ai.1 V;obtain⟨h,P,Z⟩:=ai.1 Y;obtain⟨B,C⟩:=bw.1 Z;obtain⟨F,j⟩:=lD B;cases au.1 C;rw[fi] at P j;obtain⟨R,f2⟩:=LK (D:=D) (base:=base) (l:=kp++L.pc x);have m:=Bc hD (λt t' b e e'=>by grind) O;obtain⟨A,g1,g2,g3,g4⟩:=m.sem M w f.fq f.tf.fresh;have c:E3 H0 M0 w0 base N s1 φ A a w:=f.step g1 (f.fr.mono (g1.Le f.tf.fresh));have hl:=g2 _ (Jp h1 f.fr);refine⟨rl r A,by grind [wg],⟨λt v hv=>?_,f.fr.size,f.fr.defers⟩,λt ht=>?_,⟨c.C0.I0,c.C0.kX,c.C0.size,c.C0.aN,λt o z q k hr=>?_,c.C0.os,c.C0.tape,c.C0.output⟩,λt z ht k=>?_,cm.1 F⟩
 ·obtain⟨p1,p2⟩:=wi U;obtain⟨p3,p4⟩:=wi W;have G:∃i:Nat,(L.aN++Qb5 (L.sl x))[i]?=some t/\(y++Qb6 (L.sl x))[i]?=some v:=by
   rcases p4 t v hv with e | ⟨i,d,e2⟩
   ·rcases p2 t v e with e | ⟨i,d,e2⟩
    ·grind [T.get_nil]
    ·exact⟨i,by grind,by grind⟩
   ·exact⟨L.aN.length+i,by grind,by grind⟩
  obtain⟨i,d,e2⟩:=G;obtain⟨v',g,K⟩:=hl.get e2;grind
 ·cases hq:(rl r A).pl t with
  | none=>rfl
  | some z=>
   obtain⟨b,d,e2⟩:=fF hq;obtain⟨J,I,n,g,_⟩:=g4 t b d;have:=CZ j g;grind
 ·have q:h.get t=some o:=q;rw[wg P] at q;obtain⟨b,d,e2⟩:=fF k;obtain⟨J,I,n,g,K,e5,e6,_⟩:=g4 t b d;rw[show cq (kp++L.pc x) t=some o from q] at g;cases g;rcases c.C0.born b I z K e2 hr with e7 | ⟨b0,o0,qT,i1,i2,i3,i4,i5⟩
  ·omega
  ·grind
 ·obtain⟨b,d,e2⟩:=fF k;obtain⟨J,I,n,g,_⟩:=g4 t b d;have:=m.ext t t (R t J g ht);rw[d] at this;cases this;exact c.per t z ht e2
end
section
variable {P:Program} {D:Data} {cd:TypeId->Option Nat} {ca:tr D.E} {iH:cO D} {M M':Pm D} {w w':World} {s s':St D.E} {φ φ':T (AV D.E)} {a:Act} {N:Nat}
variable {H0:Hp D} {M0:Pm D} {w0:World} {base:Nat}
variable {b:Code} {B:Wk D} {L:iG D}
def yo (P:Program) (H0:Hp D) (d:Pm D) (w0:World) (base N:Nat) (c:Code) (j:Wk D):Prop:=∀(p:Nat) (s:St D.E) (φ:T (AV D.E)) (Q:Cx D),j p s φ Q->∀(M:Pm D) (a:Act) (w:World),E3 H0 d w0 base N s φ M a w->∀R:Exit->Act->World->Prop,
 (∀e g b i f h,Q e g b->E3 H0 d w0 base N g b i f h->R (Qcb e) f h)->c.wp P R a w
theorem rD:∀{l:List Nat} {a:List (AV D.E)},(vI D φ l).H a->a.length=l.length
 | [],a,h=>by cases au.1 (show(C.ret []).H a from h);rfl
 | t::l,a,h=>by
  obtain⟨v,h1,b⟩:=ai.1 (show(az (cN (φ.get t)) λv=>az (vI D φ l) λr=>.ret (v::r)).H a from h);obtain⟨r,c,d⟩:=ai.1 b;cases au.1 d;simp[rD c]
def C5 (U:aY D) (V:yo P H0 M0 w0 base N b B):yo P H0 M0 w0 base N (.loop b) (yW D base L B):=by
 intro p s φ Q h M a w l R A;obtain⟨⟨v,kp⟩,h1,G⟩:=fM (show(az (vI D φ L.aN) λv=>az (Lt D s L.kp) λkp=>.ret (v,kp)).wp _ from h);obtain⟨kv',I,J⟩:=ai.1 h1;obtain⟨kp',_,K⟩:=ai.1 J;cases au.1 K;have o:=rD I;obtain⟨⟨x,Y⟩,d⟩:=G;have key:∀(n:Nat) (x:L.X),L.me x<n->L.inv x->∀(s:St D.E) (φ:T (AV D.E)) (M:Pm D) (a:Act) (w:World) (u:Unit),(tt D base L x v kp s φ).H u->E3 H0 M0 w0 base N s φ M a w->Code.rounds P b R n a w:=by
  intro n
  induction n with
  | zero=>intro x q;omega
  | succ n Z=>
   intro x q hinv s φ M a w u W l;obtain⟨⟨sh,φh⟩,j,k⟩:=fM (d x ⟨hinv⟩);obtain⟨C,m⟩:=wj U W j o l;rw[rounds_succ];refine V _ _ _ _ k C a w m _ λe y f g a2 z r c=>?_
   cases e with
   | normal=>
    obtain⟨x',t⟩:=r;obtain⟨u',O,S⟩:=fM t;obtain⟨i,F⟩:=S.out;exact Z x' ω i y f g a2 z u' O c
   | exit id=>exact A (.exit id) y f g a2 z r c
   | ret=>exact A .ret y f g a2 z r c
 obtain⟨u,j,k⟩:=fM Y;exact wp_loop_rounds (L.me x+1) (key _ x (Zbr _) k.out s φ M a w u j l)
theorem LL (Y:aY D) {f:iG D} (Z:yo P H0 M0 w0 base N b B):yo P H0 M0 w0 base N (.loop b) (Ft D base L f B):=by
 intro p s φ Q h M a w q R I;obtain⟨⟨d,kp⟩,h1,U⟩:=fM (show(az (vI D φ L.aN) λd=>az (Lt D s L.kp) λkp=>bB (Nat.beq (jM L.aN) (jM f.aN)) (.ret (d,kp))).wp _ from h);obtain⟨kv',G,V⟩:=ai.1 h1;obtain⟨kp',_,l⟩:=ai.1 V;obtain⟨hl,l⟩:=bw.1 l;cases au.1 l;have hkv:=rD G;have J:d.length=f.aN.length:=by
  grind [Nat.eq_of_beq_eq_true,gL]
 obtain⟨⟨x,hx⟩,kP,hb2⟩:=U;have key:∀(n:Nat) (c:iG D),(c=L\/c=f)->∀(x:c.X),c.me x<n->c.inv x->∀(s:St D.E) (φ:T (AV D.E)) (M:Pm D) (a:Act) (w:World) (u:Unit),(tt D base c x d kp s φ).H u->E3 H0 M0 w0 base N s φ M a w->Code.rounds P b R n a w:=by
  intro n
  induction n with
  | zero=>intro _ _ x v;omega
  | succ n ih=>
   intro c hL x v hinv s φ M a w u hm q;have g:OV D base c d kp B p (λn s φ=>vJ D base L d kp n s φ\/vJ D base f d kp n s φ) Q:=by grind
   have t:d.length=c.aN.length:=by grind
   obtain⟨⟨sh,φh⟩,m,o⟩:=fM (g x ⟨hinv⟩);obtain⟨K,r⟩:=wj Y hm m t q;rw[rounds_succ];refine Z _ _ _ _ o K a w r _ λe A i F a2 C y j=>?_
   have again:∀k:iG D,(k=L\/k=f)->vJ D base k d kp (c.me x) A i->Code.rounds P b R n a2 C:=λk G ⟨x',z⟩=>by
    obtain⟨u',h8,W⟩:=fM z;obtain⟨O,S⟩:=W.out;grind
   cases e with
   | normal=>exact(y:_\/_).elim (again L (.inl rfl)) (again f (.inr rfl))
   | exit id=>exact I (.exit id) A i F a2 C y j
   | ret=>exact I .ret A i F a2 C y j
 obtain⟨u,m,o⟩:=fM hx;exact wp_loop_rounds (L.me x+1) (key _ L (.inl rfl) x (Zbr _) o.out s φ M a w u m q)
theorem C6 (H:aY D) {y:Code} {o:Wk D} (I:yo P H0 M0 w0 base N b B) (J:yo P H0 M0 w0 base N y o):yo P H0 M0 w0 base N (.seq b y) (yX D base L B o):=by
 intro p s φ Q h M a w G R f;obtain⟨⟨l,kp⟩,h1,r⟩:=fM (show(az (vI D φ L.aN) λl=>az (Lt D s L.kp) λkp=>.ret (l,kp)).wp _ from h);obtain⟨T,t,v⟩:=ai.1 h1;obtain⟨S,_,A⟩:=ai.1 v;cases au.1 A;have g:=rD t;obtain⟨K,O⟩:=r;refine wp_seq (I _ _ _ _ K M a w G _ λe m c k a2 j i x=>?_);cases e with
 | normal=>
  obtain⟨z,hz⟩:=i;obtain⟨u,n,C⟩:=fM hz;obtain⟨⟨sh,U⟩,E,F⟩:=fM (O z C);obtain⟨q,d⟩:=wj H n E g x;exact J _ _ _ _ F q a2 j d R f
 | exit id=>exact f (.exit id) m c k a2 j i x
 | ret=>exact f .ret m c k a2 j i x
theorem LM (o:yo P H0 M0 w0 base N b B) (n:Nat):yo P H0 M0 w0 base N (.loop b) (A0 D n B):=by
 intro p s φ Q h M a w m R k;refine wp_loop_rounds n ?_
 induction n generalizing p s φ M a w with
 | zero=>exact(h:False).elim
 | succ n q=>
  rw[rounds_succ];refine o _ _ _ _ h M a w m _ λe i d f a2 j g c=>?_
  cases e with
  | normal=>exact q _ i d g f a2 j c
  | exit id=>exact k (.exit id) i d f a2 j g c
  | ret=>exact k .ret i d f a2 j g c
theorem Qcl (G:aY D) (U:P.follows .mixedOrders) (V:sH P) (T:sG P D ca) (c:Code):yo P H0 M0 w0 base N c (Cj P D cd ca base iH N c):=by
 induction c with
 | skip=>exact λp s φ Q h M a w i R d=>wp_skip (d .normal s φ M a w h i)
 | region id ops draw=>
  intro p s φ Q h M a w i R d;obtain⟨s1,W,M1,h1,m⟩:=sL G (show od D iH.hs id s φ _ from h) i;cases draw with
  | true=>
   obtain⟨⟨Y,J⟩,O,S⟩:=fM (show(Cw P D cd (Cz iH.mu id) ca ops.toList N s1 W).wp _ from h1);obtain⟨_,X⟩:=CS (id:=id) G U V T O;exact X M1 a w m.fq m.fr m.tf.fresh R λz o u H B=>d .normal Y J z o u S (m.step H B)
  | false=>
   obtain⟨⟨Y,J⟩,O,S⟩:=fM (show(qj P D cd (Cz iH.mu id) ca ops.toList N ops.toList 0 s1 W).wp _ from h1);obtain⟨_,X⟩:=po G V T _ _ _ _ _ _ O;exact wp_region_list (X M1 a w m.fq m.fr m.tf.fresh R λz o u H B=>d .normal Y J z o u S (m.step H B))
 | seq x y q r=>
  intro p s φ Q h;have h:Option.rec (motive:=λ_=>Prop) (Option.rec (motive:=λ_=>Prop) (Cj P D cd ca base iH N x (2*p) s φ (Ww D Q λs φ=>Cj P D cd ca base iH N y (2*p+1) s φ Q)) (λL=>yX D base L (Cj P D cd ca base iH N x) (Cj P D cd ca base iH N y) p s φ Q) (cq iH.jn p))
   (λF=>∃k:F.K,yX D base (F.L k) (Cj P D cd ca base iH N x) (Cj P D cd ca base iH N y) p s φ Q) (cq iH.kf p):=h
  cases B:cq iH.kf p with
  | some F=>
   rw[B] at h;obtain⟨k,hk⟩:=h;exact C6 G q r p s φ Q hk
  | none=>
  rw[B] at h;have h:Option.rec (motive:=λ_=>Prop) (Cj P D cd ca base iH N x (2*p) s φ (Ww D Q λs φ=>Cj P D cd ca base iH N y (2*p+1) s φ Q)) (λL=>yX D base L (Cj P D cd ca base iH N x) (Cj P D cd ca base iH N y) p s φ Q) (cq iH.jn p):=h;cases hj:cq iH.jn p with
  | some L=>rw[hj] at h;exact C6 G q r p s φ Q h
  | none=>
   rw[hj] at h;intro M a w i R d;refine wp_seq (q _ _ _ _ h M a w i _ λe C g z o u n j=>?_);cases e with
   | normal=>exact r _ _ _ _ n z o u j R d
   | exit id=>exact d (.exit id) C g z o u n j
   | ret=>exact d .ret C g z o u n j
 | cond c x y q r=>
  intro p s φ Q h M a w i R d;obtain⟨t,h1,O⟩:=fM (show(az (ev P D φ c) λv=>vD D v).wp _ from h);obtain⟨v,S,h4⟩:=ai.1 h1;have hv:=uQ h4 (dx S i.fr);cases t with
  | true=>exact wp_cond_true hv (q _ _ _ _ O M a w i R d)
  | false=>exact wp_cond_false hv (r _ _ _ _ O M a w i R d)
 | block id b I=>
  intro p s φ Q h M a w i R d;refine wp_block (I _ _ _ _ h M a w i _ λe C g z o u n j=>?_);cases e with
  | normal=>exact d .normal C g z o u n j
  | ret=>exact d .ret C g z o u n j
  | exit A=>
   have n:cond (Nat.beq A id) (Q .normal C g) (Q (.exit A) C g):=n;show Exit.inBlock id R (.exit A) o u
   by_cases e:A=id
   ·rw[aM.2 e] at n;simp only[Exit.inBlock,Zac e];exact d .normal C g z o u n j
   ·rw[qZ.2 e] at n;simp only[Exit.inBlock,Zaa e];exact d (.exit A) C g z o u n j
 | loop b I=>
  intro p s φ Q h;have h:Option.rec (motive:=λ_=>Prop) (Option.rec (motive:=λ_=>Prop) (A0 D iH.un (Cj P D cd ca base iH N b) p s φ Q) (λL=>yW D base L (Cj P D cd ca base iH N b) p s φ Q) (cq iH.lp p))
   (λF=>∃k:F.K,Option.rec (motive:=λ_=>Prop) (yW D base (F.L k) (Cj P D cd ca base iH N b) p s φ Q) (λZ=>Ft D base (F.L k) Z (Cj P D cd ca base iH N b) p s φ Q) F.E) (cq iH.kf p):=h
  cases B:cq iH.kf p with
  | some F=>
   rw[B] at h;obtain⟨k,hk⟩:=h;obtain⟨K,L,E⟩:=F;cases E with
   | none=>exact C5 G I p s φ Q hk
   | some Z=>exact LL G I p s φ Q hk
  | none=>
  rw[B] at h;have h:Option.rec (motive:=λ_=>Prop) (A0 D iH.un (Cj P D cd ca base iH N b) p s φ Q) (λL=>yW D base L (Cj P D cd ca base iH N b) p s φ Q) (cq iH.lp p):=h;cases n:cq iH.lp p with
  | none=>rw[n] at h;exact LM I iH.un p s φ Q h
  | some L=>rw[n] at h;exact C5 G I p s φ Q h
 | rangeFunc f ps x y q r=>exact λp s φ Q h=>(h:False).elim
 | exit id=>exact λp s φ Q h M a w i R d=>wp_exit (d (.exit id) s φ M a w h i)
 | scope b I=>exact λp s φ Q h=>(h:False).elim
 | label l=>exact λp s φ Q h M a w i R d=>wp_label (d .normal s φ M a w h i)
 | goto l=>exact λp s φ Q h=>(h:False).elim
 | ret=>exact λp s φ Q h M a w i R d=>wp_ret (d .ret s φ M a w h i)
 | refuse y=>exact λp s φ Q h=>(h:False).elim
theorem wk:∀{b:List (AV D.E)} {i:Nat} {φ a:T (AV D.E)},(sA D b i φ).H a->∀t,a.get t=if i<=t/\t<i+b.length then b[t-i]? else φ.get t
 | [],i,φ,a,h,t=>by cases au.1 (show(C.ret φ).H a from h);simp;omega
 | v::b,i,φ,a,h,t=>by
  obtain⟨d,h1,c⟩:=ai.1 (show(az (cN (φ.put i (some v))) (λφ=>sA D b (i+1) φ)).H a from h);rw[wk c t,T.dO _ _ _ _ (bz.1 h1) t];grind
theorem zk {a:List (AV D.E)} {A:Array Value} (h:(sA D a 0 .nil).H φ) (hl:LR M a A.toList) (g:a.length<=N):
  FR M φ { tmps:=A++Array.replicate (N-A.size) Go.undef,defers:=[] } N:=by
 have hlen:a.length=A.size:=by rw[hl.1,Zba]
 refine⟨λt v b=>?_,?_,rfl⟩
 ·rw[wk h t] at b;simp only[Zaj,Zal,Za6,Zdp] at b;by_cases ht:t<a.length
  ·rw[Zac ht] at b;obtain⟨d,c,e⟩:=hl.get b;have f:(A++Array.replicate (N-A.size) Go.undef).getD t Go.undef=d:=by
    rw[ZaL] at c;rw[ZaT,ZbT ω,c];rfl
   grind
  ·grind [T.get_nil]
 ·grind
theorem wm (i:aY D) {C:Nat}:∀{rs:List ResultVar} {c:List (AV D.E)},(OX P D s φ rs).H c->FR M φ a C->dQ M s.h.get w->∃f,LR M c f/\(rs.mapM λr=>(match r with
   | .tmp t=>Pure.pure (a.tmps.getD t Go.undef)
   | .cell b t=>do loadVar t (<-Go.asAddr (a.tmps.getD b Go.undef)):Sem Value)).run P w=.ok f w
 | [],c,h,_,_=>by cases au.1 (show(sx.C.ret []).H c from h);exact⟨[],.nil,by simp⟩
 | r::rs,c,h,hf,hS=>by
  obtain⟨v,j,h1⟩:=ai.1 (show(az (OW P D s φ r) (λv=>az (OX P D s φ rs) λc=>.ret (v::c))).H c from h);obtain⟨us,g,l⟩:=ai.1 h1;cases au.1 l;obtain⟨d,hl,y⟩:=wm i g hf hS;cases r with
  | tmp t=>
   refine⟨a.tmps.getD t Go.undef::d,.cons (hf.at_ t v (bz.1 j)) hl,?_⟩;simp_all
  | cell b t=>
   obtain⟨u,hu,m⟩:=ai.1 (show(az (cN (φ.get b)) λv=>Cr P D s t v).H v from j);obtain⟨k,o,e,p,q,n⟩:=y0 (P:=P) i m (hf.at_ b u (bz.1 hu)) hS;have x:(do loadVar t (<-Go.asAddr (a.tmps.getD b Go.undef)):Sem Value).run P w=.ok k w:=by
    grind [Go.asAddr]
   refine⟨k::d,.cons n hl,?_⟩;rw[ZdP,Zzd];simp_all
theorem tE {fn:Func} {c:List Value} (n:(fn.results.toList.mapM λr=>(match r with
   | .tmp t=>Pure.pure (a.tmps.getD t Go.undef)
   | .cell b t=>do loadVar t (<-Go.asAddr (a.tmps.getD b Go.undef)):Sem Value)).run P w=.ok c w) {res:AV D.E} (d:CA D res) (hl:LR M (vK D res) c):∃g,(results fn a.tmps).run P w=.ok g w/\VR M res g:=by
 have l:(fn.results.mapM λr=>(match r with
   | .tmp t=>Pure.pure (a.tmps.getD t Go.undef)
   | .cell b t=>do loadVar t (<-Go.asAddr (a.tmps.getD b Go.undef)):Sem Value)).run P w=.ok c.toArray w:=by
  rw[Array.mapM_eq_mapM_toList];simp_all
 refine⟨if h:c.toArray.size=1 then c.toArray[0] else .tuple c.toArray,?_,?_⟩
 ·unfold results;simp only[Zzd];exact(ZaR (λr:Result (Array Value)=>r.andThen λi m=>Sem.run P (Pure.pure (if h:i.size=1 then i[0] else .tuple i)) m) l).trans rfl
 ·have one:∀{v:AV D.E},LR M [v] c->VR M v (if h:c.toArray.size=1 then c.toArray[0] else .tuple c.toArray):=λh=>by
   obtain⟨g,r,rfl,h1,k⟩:=h.bD;obtain rfl:=k.kW;exact h1
  cases res<;>simp only[vK] at hl<;>(try exact one hl)
  rename_i j
  have f:j.length≠1:=by
   have:Bool.not (Nat.beq (jM j) 1):=d;rw[gL] at this;intro e;simp_all
  rw[dif_neg (by rw[Zb5,<-hl.1];exact f)];exact .CD hl
theorem PD {ha hb:List (Nat×AO D.E)}:(∀t o,cq ha t=some o->(cq hb t).isSome->dN (stay D ha hb) t=some t)/\∀t b,dN (stay D ha hb) t=some b->b=t:=by
 induction ha with
 | nil=>exact⟨λt o h=>(by cases(show none=some o from h)),λt b h=>(by cases(show none=some b from h))⟩
 | cons p l a=>
  grind [stay,iO,eP]
theorem m_ (T:aY D) (F:P.follows .mixedOrders) (N_:sH P) {k:br D} {y:k.Y} {fn:Func} (W:P.funcs[k.f]?=some fn) (U:fn.body=some b) (V:sG P D ca) (hN:(k.args y).length<=fn.ntmps)
  (hb:OY P D cd ca iH fn.ntmps k b fn.results.toList y) (M:Pm D) (A:Array Value) (w:World) (hl:LR M (k.args y) A.toList) (hS:dQ M (λt=>cq (k.heap y) t) w) (hT:TF M k.nY) (R:Ending->World->Prop)
  (hR:∀M' u w',VR M' (k.res y) u->cP (λt=>cq (k.heap y) t) M w (λt=>cq (k.hZ y) t) M' w' k.nY k.Ci->R (.returned u) w'):Calls P k.f A w R:=by
 obtain⟨⟨φ,h⟩,h1,h2⟩:=fM (show(az (sA D (k.args y) 0 .nil) λφ=>az (Lu D (k.heap y) .nil) λh=>.ret (φ,h)).wp _ from hb);obtain⟨x,h3,h4⟩:=ai.1 h1;obtain⟨h',h5,h6⟩:=ai.1 h4;cases au.1 h6;have E:=wg h5;refine calls_of_wp W U ?_;have hA:E3 (λt=>cq (k.heap y) t) M w k.nY fn.ntmps ⟨h,k.nY⟩ φ M { tmps:=A++Array.replicate (fn.ntmps-A.size) Go.undef,defers:=[] } w:=
  ⟨by grind,zk h3 hl hN,hT,by show WK _ M w h.get M w;rw[E];exact .refl _ _ _,λt a _ e=>e,Zah _⟩
 refine Qcl T F N_ V b _ _ _ _ h2 M _ w hA _ λe s' x M2 a2 B I g=>?_
 have fin:(bB (Bool.and (CA D (k.res y)) (Bool.and (named D (k.heap y) (k.hZ y) k.nY k.Ci) (Nat.ble k.nY k.Ci))) (az (OX P D s' x fn.results.toList) λvs=>OP D s' (stay D (k.hZ y) (k.heap y)) (k.hZ y) vs (vK D (k.res y)))).wp (λ_=>True)->
   a2.defers=[]/\∃v,(results fn a2.tmps).run P B=.ok v B/\R (.returned v) B:=λI=>by
  obtain⟨⟨s3,r⟩,g1,_⟩:=fM I;obtain⟨g2,g3⟩:=bw.1 g1;obtain⟨K,g4⟩:=lD g2;obtain⟨hnm,s⟩:=lD g4;have s:=cm.1 s;obtain⟨vs,g5,g6⟩:=ai.1 g3;obtain⟨st1,st2⟩:=PD (D:=D) (ha:=k.hZ y) (hb:=k.heap y);have G:=Bc T (λt t' c e e'=>by grind) g6;obtain⟨z,i1,i2,i3,i4⟩:=G.sem M2 B g.fq g.tf.fresh;have d:E3 (λt=>cq (k.heap y) t) M w k.nY fn.ntmps s3 x z a2 B:=g.step i1 (g.fr.mono (i1.Le g.tf.fresh));obtain⟨vs',X,L⟩:=wm T g5 g.fr g.fq
  let O:Pm D:=⟨λt=>if k.nY<=t/\t<k.Ci then(rl r z).pl t else M.pl t,z.sg⟩
  have m:∀t o,cq (k.hZ y) t=some o->(∃S,cq (k.heap y) t=some S)\/(k.nY<=t/\t<k.Ci):=λt o ht=>by
   rcases or2 (dP.1 hnm _ (oz ht)) with q | q
   ·exact .inl (ZcI.1 q)
   ·grind [cm]
  have H:∀t a,(rl r z).pl t=some a->O.pl t=some a:=λt a e=>by
   show(if _ then _ else _)=_
   by_cases J:k.nY<=t/\t<k.Ci
   ·grind
   ·rw[Zaa J];obtain⟨c,p,e2⟩:=fF e;obtain⟨ot,oa,n,C,_⟩:=i4 t c p;rcases m t ot C with⟨S,Q⟩ | q
    ·have:=G.ext t t (st1 t ot C (by rw[Q];rfl));rw[p] at this;cases this;obtain⟨j,e5,_⟩:=hS.obj t S Q;exact d.per t a (hT.lt e5) e2
    ·omega
  have hle:Le (rl r z) O:=⟨H,λ_ _ _ e=>e⟩;obtain⟨u,j1,j2⟩:=tE L K ((i2 _ X).mono hle);refine⟨g.fr.defers,u,j1,hR O u B j2 ?_⟩;have i:∀t o a,cq (k.hZ y) t=some o->O.pl t=some a->(rl r z).pl t=some a:=λt o a ht l=>by
   obtain⟨j,p,_⟩:=i3.obj t o ht;grind
  refine⟨⟨λt o ht=>?_,λt t' o o' a n ht N l Z=>i3.inj t t' o o' a n ht N (i t o a ht l) (i t' o' n N Z),λc o v e=>?_,λt o a ht hw l=>i3.sep t o a ht hw (i t o a ht l),λt b xs e a ht l J=>(i3.IZ t b xs e a ht (i t _ a ht l) J).mono λ_ _ _ h=>h,⟨i3.lM.1,λt o a ht hw l=>i3.lM.2 t o a ht hw (i t o a ht l)⟩⟩,
   λt ht=>Zaa ht,d.C0.I0,d.C0.kX,d.C0.size,d.C0.aN,λt o a ht l J=>?_,λt ht=>?_,d.C0.os,d.C0.tape,d.C0.output,s⟩
  ·obtain⟨j,p,e2⟩:=i3.obj t o ht;exact⟨j,H t j p,e2.mono hle λ_=>rfl⟩
  ·obtain⟨hp,u,U,hv⟩:=i3.gj c o v e;exact⟨hp,u,U,hv.mono hle⟩
  ·obtain⟨c,p,e2⟩:=fF (i t o a ht l);obtain⟨ot,oa,n,C,Q,e5,e6,_⟩:=i4 t c p;rw[show cq (k.hZ y) t=some o from ht] at C;cases C;rcases d.C0.born c oa a Q e2 J with e7 | ⟨b0,S,j,q1,q2,q3,q4,q5⟩
   ·omega
   ·grind
  ·obtain⟨o,ho⟩:=Zbs.1 ht;grind
 cases e with
 | normal=>exact fin I
 | ret=>exact fin I
 | exit id=>exact(I:False).elim
def br.under (k:br D) (me:k.Y->Nat) (n:Nat):br D:={ k with pre:=λy=>k.pre y/\me y<n }
end
end sx
namespace cls
open Go Go.RowKit
theorem getD_eq {α:Type} {l:List α} {i:Nat} (h:i<l.length) (d:α):l[i]?=some (l.getD i d):=by
 grind
theorem fg {α β:Type} (f:α->List β) (n:Nat) (h:∀x,(f x).length<=n) (l:List α):(l.flatMap f).length<=l.length*n:=by
 induction l with
 | nil=>simp
 | cons x t a=>simp only[Zbt,Zab,Zae];have:=h x;rw[ZaV];omega
abbrev Rg:=Int×Int
variable {l s b:List Rg} {m:List Int} {p:Rg} {y Z:Int} {k:Nat} {c:Int->Bool}
def bf (l:List Rg) (r:Int):Bool:=l.any λx=>decide (x.1<=r)&&decide (r<=x.2)
theorem PE (h:l[k]?=some p) (r:Int):bf (l.drop k) r=((decide (p.1<=r)&&decide (r<=p.2))||bf (l.drop (k+1)) r):=by
 have a:k<l.length:=by
  grind
 rw[Zaq a];rw[Zaf a] at h;cases h;rfl
def fj (r:Int):Bool:=decide (0<=r)&&decide (r<=1114111)&&(decide (r<55296)||decide (57343<r))
def clip (r p:Rg):List Rg:=if max r.1 p.1<=min r.2 p.2 then[(max r.1 p.1,min r.2 p.2)] else[]
def parts:List Rg:=[(0,55295),(57344,1114111)]
def dS (r:Rg):List Rg:=parts.flatMap (clip (max r.1 0,min r.2 1114111))
theorem C7 (r p:Rg):(clip r p).length<=1:=by grind [clip]
def sM (r:Rg):(dS r).length<=2:=fg _ 1 (C7 _) parts
def b7 (out:List Rg) (r:Rg):List Rg:=
 match out.getLast? with
 | some p=>if r.1<=p.2+1 then out.dropLast++[(p.1,max p.2 r.2)] else out++[r]
 | none=>[r]
def ic (l:List Rg):List Rg:=l.foldl b7 []
def E4 (r:Rg):Prop:=0<=r.1/\r.1<=r.2/\r.2<=1114111
theorem PF (x:Rg):∀r∈dS x,E4 r:=by
 intro r a;simp only[dS,ZbG] at a;grind [clip,E4]
theorem Bg (h:∀r∈l,E4 r) (d:E4 p):∀r∈b7 l p,E4 r:=by
 intro r a;unfold b7 at a;split at a
 ·rename_i q b
  have c:q∈l:=List.mem_of_getLast? b;grind [List.dropLast_sublist,E4]
 ·grind
theorem yp (out:List Rg) (r:Rg):(b7 out r).length<=out.length+1:=by
 grind [b7]
theorem C8 (h:l[k]?=some p):ic (l.take (k+1))=b7 (ic (l.take k)) p:=by
 grind [ic,List.take_add_one]
theorem LN (h:∀p∈l,E4 p):∀p∈ic l,E4 p:=by
 have gen:∀(l out:List Rg),(∀p∈l,E4 p)->(∀p∈out,E4 p)->∀p∈l.foldl b7 out,E4 p:=by
  intro l
  induction l with
  | nil=>intro out _ h;exact h
  | cons x t b=>intro out hs a;exact b _ (λp c=>hs p (by grind)) (Bg a (hs x (by simp)))
 exact gen l [] h (by simp)
theorem wo (s:List Rg):(ic s).length<=s.length:=by
 have gen:∀(s out:List Rg),(s.foldl b7 out).length<=out.length+s.length:=by
  intro s
  induction s with
  | nil=>intro out;simp
  | cons x t a=>intro out;have:=a (b7 out x);have:=yp out x;simp only[Zb2,Zae];omega
 grind [ic]
def tF (p:Rg):Prop:=0<=p.1/\p.1<=p.2/\p.2<=1114111/\(p.2<55296\/57343<p.1)
def Good (l:List Rg):Prop:=(∀p∈l,tF p)/\l.Pairwise (λp q=>p.2+1<q.1)
theorem rE (l:List Rg) (r:Int):bf l r↔∃p∈l,p.1<=r/\r<=p.2:=by
 grind [bf]
theorem ji (p:Rg) (l:List Rg) (r:Int):bf (p::l) r=((decide (p.1<=r)&&decide (r<=p.2))||bf l r):=rfl
theorem wq (l m:List Rg) (r:Int):bf (l++m) r=(bf l r||bf m r):=by simp[bf]
theorem PG (h:l.Perm s) (r:Int):bf l r=bf s r:=by
 grind [rE]
theorem f_ (r:Int):fj r↔0<=r/\r<=1114111/\(r<55296\/57343<r):=by
 simp[fj];omega
theorem sN (h:Good (p::l)):Good l:=⟨λq a=>h.1 q (by grind),(ZcJ.1 h.2).2⟩
def oA (h:Good (p::l)) (b:bf l y):p.2+1<y:=by
 have⟨q,a,h1,c⟩:=(rE _ _).1 b;have:=(ZcJ.1 h.2).1 q a;omega
theorem wu (h:Good (p::l)) (a:bf (p::l) y):p.1<=y:=by
 rw[ji,ZbM] at a;rcases a with a | a
 ·grind
 ·have:=oA h a;have:=h.1 p (by simp);grind [tF]
theorem pr:∀{l m:List Rg},Good l->Good m->(∀r,bf l r=bf m r)->l=m
 | [],[],_,_,_=>rfl
 | [],q::u,_,hm,h=>by
  have:=h q.1;have k:=hm.1 q (by simp);grind [tF,bf]
 | p::t,[],hl,_,h=>by
  have:=h p.1;have k:=hl.1 p (by simp);grind [tF,bf]
 | p::t,q::u,hl,hm,h=>by
  have ip:=hl.1 p (by simp);have n:=hm.1 q (by simp);unfold tF at ip n;have ya:∀r,p.1<=r->r<=p.2->bf (p::t) r:=λr a b=>by grind [ji]
  have c:∀r,q.1<=r->r<=q.2->bf (q::u) r:=λr a b=>by grind [ji]
  have e:p.1=q.1:=by
   have a:=wu hm ((h p.1).symm.trans (ya p.1 ω ω));have b:=wu hl ((h q.1).trans (c q.1 ω ω));omega
  have e2:p.2=q.2:=by
   rcases Int.lt_trichotomy p.2 q.2 with d | j | d
   ·have a:=(h (p.2+1)).trans (c (p.2+1) ω ω);rw[ji,ZbM] at a;rcases a with a | a
    ·grind
    ·have:=oA hl a;omega
   ·exact j
   ·have a:=(h (q.2+1)).symm.trans (ya (q.2+1) ω ω);rw[ji,ZbM] at a;rcases a with a | a
    ·grind
    ·have:=oA hm a;omega
  have f:p=q:=ZdT e e2;congr 1;refine pr (sN hl) (sN hm) λr=>?_
  by_cases o:p.1<=r/\r<=p.2
  ·have g:bf t r=false:=by
    rcases ht:bf t r with _ | _
    ·rfl
    ·have:=oA hl ht;omega
   have i:bf u r=false:=by
    rcases ht:bf u r with _ | _
    ·rfl
    ·have:=oA hm ht;omega
   rw[g,i]
  ·have:=h r;grind [ji]
theorem wv (h:Good l) (f:tF p) (b:∀r∈l,r.1<=p.1):Good (b7 l p)/\(∀r∈b7 l p,r.1<=p.1)/\∀x,bf (b7 l p) x=(bf l x||(decide (p.1<=x)&&decide (x<=p.2))):=by
 rcases Zcu l with rfl | ⟨d,r,rfl⟩
 ·refine⟨⟨?_,by simp[b7]⟩,?_,λx=>?_⟩
  ·grind [b7]
  ·grind [b7]
  ·simp[b7,bf]
 ·rw[Zcv] at*
  have c:b7 (d++[r]) p=if p.1<=r.2+1 then d++[(r.1,max r.2 p.2)] else d++[r]++[p]:=by simp[b7]
  have ip:=h.1 r (by simp);have g:=ZbC.1 h.2;rw[c];by_cases e:p.1<=r.2+1
  ·rw[Zac e];refine⟨⟨λq a=>?_,?_⟩,λq a=>?_,λx=>?_⟩
   ·rcases Zax.1 a with a | a
    ·exact h.1 q (by simp[a])
    ·grind [tF]
   ·grind
   ·grind
   ·grind [bf]
  ·rw[Zaa e];refine⟨⟨λq a=>?_,?_⟩,λq a=>?_,λx=>?_⟩
   ·rcases Zax.1 a with a | a
    ·exact h.1 q a
    ·simp at a;subst a;exact f
   ·grind
   ·grind
   ·grind [bf]
theorem C9 (hs:∀p∈l,tF p) (c:l.Pairwise (λa b=>a.1<=b.1)):Good (ic l)/\∀x,bf (ic l) x=bf l x:=by
 have gen:∀(l out:List Rg),(∀p∈l,tF p)->l.Pairwise (λa b=>a.1<=b.1)->Good out->(∀p∈out,∀x∈l,p.1<=x.1)->Good (l.foldl b7 out)/\∀x,bf (l.foldl b7 out) x=(bf out x||bf l x):=by
  intro l
  induction l with
  | nil=>intro out _ _ h _;exact⟨h,λx=>by simp[bf]⟩
  | cons r t i=>
   intro out hs c f hl;have⟨g1,g2,g3⟩:=wv f (hs r (by simp)) (λp d=>hl p d r (by simp));have e:=ZcJ.1 c;have⟨k1,k2⟩:=i _ (λp d=>hs p (by simp[d])) e.2 g1 (λp d x g=>Int.le_trans (g2 p d) (e.1 x g));grind [ji]
 have:=gen l [] hs c ⟨by simp,by simp⟩ (by simp);assumption
theorem LO (x:Rg):∀r∈dS x,tF r:=by
 intro r a;simp only[dS,ZbG] at a;grind [clip,parts,tF]
theorem PH (x p:Rg) (r:Int):bf (clip x p) r=(decide (x.1<=r)&&decide (r<=x.2)&&(decide (p.1<=r)&&decide (r<=p.2))):=by
 grind [clip,bf]
theorem LP (x:Rg) (r:Int):bf (dS x) r=(fj r&&(decide (x.1<=r)&&decide (r<=x.2))):=by
 simp only[dS,parts,Zbt,List.flatMap_nil,Zaw,wq,PH];grind [fj]
theorem PI (l:List Rg) (r:Int):bf (l.flatMap dS) r=(fj r&&bf l r):=by
 induction l with
 | nil=>simp[bf]
 | cons x t a=>
  grind [wq,LP,ji]
def wx (l m:List Rg):Prop:=Good m/\(∀r,bf m r=(fj r&&bf l r))/\m.length<=2*l.length
theorem C_ (e:s.Perm (l.flatMap dS)) (d:s.Pairwise (λa b=>a.1<=b.1)):wx l (ic s):=by
 have c:∀p∈s,tF p:=λp h=>by
  grind [LO]
 have⟨g,f⟩:=C9 c d;refine⟨g,λr=>?_,?_⟩
 ·rw[f,PG e,PI]
 ·have h1:=wo s;have i:=e.length_eq;have j:=fg dS 2 sM l;omega
def FP (h:wx l s) (a:wx l b):s=b:=pr h.1 a.1 λr=>by rw[h.2.1,a.2.1]
def Qe5 (a b:Rg):Bool:=decide (a.1<=b.1)
def aV (l:List Rg):List Rg:=ic ((l.flatMap dS).mergeSort Qe5)
theorem dI (l:List Rg):wx l (aV l):=by
 refine C_ (List.mergeSort_perm _ _) ?_;grind [List.pairwise_mergeSort,Qe5]
def PJ (h:wx l s):s=aV l:=FP h (dI l)
def gW (nx:Int):List Rg->List Rg
 | []=>[(nx,1114111)]
 | p::t=>(nx,p.1-1)::gW (p.2+1) t
theorem zl (nx:Int) (m:List Rg):(gW nx m).length=m.length+1:=by induction m generalizing nx<;>simp_all [gW]
theorem zm:∀(m:List Rg) (nx:Int),Good m->(∀p∈m,nx<=p.1)->∀r,r<=1114111->bf (gW nx m) r=(decide (nx<=r)&&!bf m r)
 | [],nx,_,_,r,a=>by simp[gW,bf,a]
 | p::t,nx,hg,hn,r,a=>by
  have ip:=hg.1 p (by simp);unfold tF at ip;have d:=ZcJ.1 hg.2;have c:=zm t (p.2+1) (sN hg) (λq b=>by grind) r a;grind [gW,bf]
theorem PK (h:fj y):y<=1114111/\0<=y:=by
 grind [f_]
def Qe6 (l n:List Rg):Prop:=Good n/\(∀r,bf n r=(fj r&&!bf l r))/\n.length<=4*l.length+2
theorem WM (a:wx l s) (n:wx (gW 0 s) b):Qe6 l b:=by
 refine⟨n.1,λr=>?_,?_⟩
 ·rw[n.2.1];rcases c:fj r with _ | _
  ·rfl
  ·have:=PK c;rw[zm s 0 a.1 (λp d=>(a.1.1 p d).1) r this.1,a.2.1,c];simp[this.2]
 ·have h1:=n.2.2;have e:=a.2.2;grind [zl]
def ch (l:List Rg) (lo hi:Int):List Rg:=
 match l.getLast? with
 | some r=>if r.2+1=lo then l.dropLast++[(r.1,hi)] else l++[(lo,hi)]
 | none=>[(lo,hi)]
def swap (m:List Int) (j:Nat):List Int:=(m.set j (m.getD (j+1) 0)).set (j+1) (m.getD j 0)
theorem Da (m:List Int) (j:Nat):(swap m j).length=m.length:=by simp[swap]
theorem Db (m:List Int) (j i:Nat) (h:j+1<m.length):(swap m j).getD i 0=if i=j+1 then m.getD j 0 else if i=j then m.getD (j+1) 0 else m.getD i 0:=by
 grind [swap]
theorem swap_perm (m:List Int) (j:Nat) (h:j+1<m.length):(swap m j).Perm m:=by
 grind [swap]
def oC (m:List Int) (k i:Nat):Prop:=∀a b,a<b->b<=i->b≠k->m.getD a 0<=m.getD b 0
def Dc (m:List Int) (i:Nat):Prop:=∀a b,a<b->b<i->m.getD a 0<=m.getD b 0
theorem Bh (h:Dc m k):oC m k k:=λa b h1 c d=>h a b h1 ω
theorem Dd {i:Nat} (h:oC m (k+1) i) (hi:i<m.length) (l:k+1<=i) (j:m.getD (k+1) 0<m.getD k 0):oC (swap m k) k i:=by
 intro a b h1 f g;rw[Db m k a ω,Db m k b ω];by_cases d:b=k+1
 ·subst d;rw[Zac rfl,Zaa ω];by_cases e:a=k
  ·omega
  ·rw[Zaa e];exact h a k ω ω ω
 ·rw[Zaa d,Zaa g];by_cases e:a=k+1
  ·rw[Zac e];exact h k b ω f d
  ·rw[Zaa e];by_cases c:a=k
   ·rw[Zac c];exact h (k+1) b ω f d
   ·rw[Zaa c];exact h a b h1 f d
theorem FQ {i:Nat} (h:oC m k i) (hk:k=0\/m.getD (k-1) 0<=m.getD k 0):Dc m (i+1):=by
 intro a b h1 d;by_cases c:b=k
 ·subst c;rcases hk with rfl | hk
  ·omega
  ·by_cases e:a=b-1
   ·grind
   ·have:=h a (b-1) ω ω ω;omega
 ·exact h a b h1 ω c
theorem PL (h:Dc m m.length):m.Pairwise (· <= ·):=by
 rw[ZbD];intro i j hi b a;have:=h i j a b;grind
def m1 (x:Rg):Bool:=decide (x.1<=x.2)&&decide (0<=x.1)&&decide (x.1<=1114111)
def m2 (x:Rg):Bool:=decide (x.1<=x.2)&&decide (0<=x.2)&&decide (x.2<1114111)
def k_ (x:Rg):List Int:=(if m1 x then[x.1] else[])++(if m2 x then[x.2+1] else[])
def cV (l:List Rg):List Int:=[0,55296,57344,1114112]++l.flatMap k_
theorem sO (x:Rg):(k_ x).length<=2:=by grind [k_]
def PM (c:Int->Bool) (m:List Int) (k:Nat):Bool:=decide (m.getD k 0<m.getD (k+1) 0)&&(decide (m.getD k 0<55296)||decide (57343<m.getD k 0))&&c (m.getD k 0)
def Bi (c:Int->Bool) (m:List Int) (out:List Rg) (k:Nat):List Rg:=if PM c m k then ch out (m.getD k 0) (m.getD (k+1) 0-1) else out
def dp (c:Int->Bool) (m:List Int):Nat->List Rg
 | 0=>[]
 | k+1=>Bi c m (dp c m k) k
theorem FT (l:List Rg) (lo hi:Int):(ch l lo hi).length<=l.length+1:=by
 grind [ch]
theorem PN (c:Int->Bool) (m:List Int) (k:Nat):(dp c m k).length<=k:=by
 induction k with
 | zero=>simp[dp]
 | succ k a=>
  grind [FT,dp,Bi]
theorem LQ (h:∀r∈l,-10<=r.2/\r.2<=1114111) (a: -10<=Z/\Z<=1114111):∀r∈ch l y Z,-10<=r.2/\r.2<=1114111:=by
 grind [ch,List.dropLast_sublist]
theorem WN (a:∀x∈m,0<=x/\x<=1114112):∀k,k+1<=m.length->∀r∈dp c m k,-10<=r.2/\r.2<=1114111:=by
 intro k
 induction k with
 | zero=>intro _ r b;simp[dp] at b
 | succ k e=>
  intro hk;simp only[dp,Bi];split
  ·have d:m.getD (k+1) 0∈m:=ZaJ (getD_eq (show k+1<m.length by omega) 0);have:=a _ d;exact LQ (e ω) ω
  ·grind
theorem lZ:∀x∈cV l,0<=x/\x<=1114112:=by
 intro x a;simp only[cV,Zax,ZbG] at a;rcases a with a | ⟨y,_,a⟩
 ·grind
 ·rcases Zax.1 a with a | a
  ·split at a
   ·rename_i h;simp[m1] at h;simp at a;omega
   ·simp at a
  ·split at a
   ·rename_i h;simp[m2] at h;simp at a;omega
   ·simp at a
theorem adj (h:m.Pairwise (· <= ·)) (hk:k+1<m.length) (a:y∈m):y<=m.getD k 0\/m.getD (k+1) 0<=y:=by
 grind [List.getElem_of_mem,List.pairwise_iff_getElem]
theorem De {lo hi:Int} (h:Good l) (c:tF (lo,hi)) (f:∀p∈l,p.2<lo):
  Good (ch l lo hi)/\(∀p∈ch l lo hi,p.2<=hi)/\∀r,bf (ch l lo hi) r=(bf l r||(decide (lo<=r)&&decide (r<=hi))):=by
 unfold tF at c;rcases Zcu l with rfl | ⟨e,p,rfl⟩
 ·refine⟨⟨λq b=>?_,by simp[ch]⟩,λq b=>?_,λr=>?_⟩
  ·simp[ch] at b;subst b;exact c
  ·grind [ch]
  ·simp[ch,bf]
 ·rw[Zcv] at*
  have d:ch (e++[p]) lo hi=if p.2+1=lo then e++[(p.1,hi)] else e++[p]++[(lo,hi)]:=by simp[ch]
  have ip:=h.1 p (by simp);have g:=ZbC.1 h.2;unfold tF at ip;rw[d];by_cases b:p.2+1=lo
  ·rw[Zac b];refine⟨⟨λq a=>?_,?_⟩,λq a=>?_,λr=>?_⟩
   ·rcases Zax.1 a with a | a
    ·exact h.1 q (by simp[a])
    ·grind [tF]
   ·grind
   ·grind
   ·grind [bf]
  ·rw[Zaa b];refine⟨⟨λq a=>?_,?_⟩,λq a=>?_,λr=>?_⟩
   ·rcases Zax.1 a with a | a
    ·exact h.1 q a
    ·simp at a;subst a;exact c
   ·grind
   ·grind
   ·grind [bf]
def Jq (c:Int->Bool) (m:List Int):Prop:=∀k,k+1<m.length->∀r,m.getD k 0<=r->r<m.getD (k+1) 0->c r=c (m.getD k 0)
theorem zn (d:m.Perm (cV l)) (e:m.Pairwise (· <= ·)):Jq (λr=>bf l r) m:=by
 intro k hk r h1 h;have g:=lZ _ (d.mem_iff.1 (ZaJ (getD_eq (show k<m.length by omega) 0)));have b1:=lZ _ (d.mem_iff.1 (ZaJ (getD_eq hk 0)));have mk:∀x∈l,∀y∈k_ x,y<=m.getD k 0\/m.getD (k+1) 0<=y:=λx a y i=>
  adj e hk (d.mem_iff.2 (by grind [cV]))
 generalize m.getD k 0=A at*
 rw[ZaG,rE,rE];constructor
 ·rintro⟨x,a,f,e2⟩;refine⟨x,a,?_,ω⟩;rcases(show A<x.1\/x.1<=A by omega) with b | b
  ·have c:m1 x:=by simp[m1];omega
   have:=mk x a x.1 (by simp[k_,c]);omega
  ·exact b
 ·rintro⟨x,a,f,e2⟩;refine⟨x,a,ω,?_⟩;rcases(show x.2<r\/r<=x.2 by omega) with b | b
  ·have c:m2 x:=by simp[m2];omega
   have:=mk x a (x.2+1) (by simp[k_,c]);omega
  ·exact b
theorem PO (i1:Good l) (i2:∀p∈l,p.2<y) (i3:∀r,bf l r=(decide (r<y)&&(fj r&&c r))) (e:0<=y/\y<=1114112) (f:0<=Z/\Z<=1114112) (hle:y<=Z)
  (d:55296<=y\/Z<=55296) (a2:57344<=y\/Z<=57344) (b:∀r,y<=r->r<Z->c r=c y):
  Good (if (decide (y<Z)&&(decide (y<55296)||decide (57343<y))&&c y)=true then ch l y (Z-1) else l)/\
  (∀p∈(if (decide (y<Z)&&(decide (y<55296)||decide (57343<y))&&c y)=true then ch l y (Z-1) else l),p.2<Z)/\
  ∀r,bf (if (decide (y<Z)&&(decide (y<55296)||decide (57343<y))&&c y)=true then ch l y (Z-1) else l) r=(decide (r<Z)&&(fj r&&c r)):=by
 by_cases a:(decide (y<Z)&&(decide (y<55296)||decide (57343<y))&&c y)
 ·rw[Zac a];have⟨g1,g2,g3⟩:=De (lo:=y) (hi:=Z-1) i1 (by grind [tF]) i2;grind [f_]
 ·grind [f_]
theorem LS (e:m.Perm (cV l)) (a:m.Pairwise (· <= ·)) (j:Jq c m):
  ∀k,k+1<=m.length->Good (dp c m k)/\(∀p∈dp c m k,p.2<m.getD k 0)/\∀r,bf (dp c m k) r=(decide (r<m.getD k 0)&&(fj r&&c r)):=by
 have mem:∀y∈[0,55296,57344,1114112],(y:Int)∈m:=λy q=>e.mem_iff.2 (by grind [cV])
 have d:∀k,k<m.length->0<=m.getD k 0/\m.getD k 0<=1114112:=λk hk=>lZ _ (e.mem_iff.1 (ZaJ (getD_eq hk 0)))
 intro k
 induction k with
 | zero=>
  intro hk;have h0:m.getD 0 0=0:=by
   have⟨i,hi,o⟩:=Za3 (mem 0 (by simp));grind [List.pairwise_iff_getElem]
  refine⟨⟨by simp[dp],by simp[dp]⟩,by simp[dp],λr=>?_⟩;grind [dp,bf,f_]
 | succ k n=>
  intro hk;have⟨i1,i2,i3⟩:=n ω;have g:=d k ω;have h:=d (k+1) ω;have hle:m.getD k 0<=m.getD (k+1) 0:=by
   grind [List.pairwise_iff_getElem]
  have f:=adj a (show k+1<m.length by omega) (mem 55296 (by simp));have a2:=adj a (show k+1<m.length by omega) (mem 57344 (by simp));have b:=j k ω;exact PO i1 i2 i3 g h hle f a2 b
theorem Df (a:m.Perm (cV l)) (e:m.Pairwise (· <= ·)) (f:Jq c m):
  Good (dp c m (m.length-1))/\∀r,bf (dp c m (m.length-1)) r=(fj r&&c r):=by
 have hl:1<=m.length:=by have:=a.length_eq;simp[cV] at this;omega
 have⟨g1,_,g3⟩:=LS a e f (m.length-1) ω;have mem:(1114112:Int)∈m:=a.mem_iff.2 (by simp[cV]);have d:m.getD (m.length-1) 0=1114112:=by
  have b:=lZ _ (a.mem_iff.1 (ZaJ (getD_eq (show m.length-1<m.length by omega) 0)));grind [List.getElem_of_mem,List.pairwise_iff_getElem]
 grind [f_]
def kQ (l:List Rg):List Rg:=aV (gW 0 (aV l))
def zp (l:List Rg):Qe6 l (kQ l):=WM (dI l) (dI _)
theorem Dg (a:Good s) (h:∀r,bf s r=(fj r&&bf l r)):aV l=s:=pr (dI l).1 a λr=>by rw[(dI l).2.1,h]
theorem WO (a:Good s) (h:∀r,bf s r=(fj r&&!bf l r)):kQ l=s:=pr (zp l).1 a λr=>by rw[(zp l).2.1,h]
end cls
end Go.Proofs.YtklaonhcplaofaaGreat
