/- StreamRises: a part of the proof. -/
import Derived.Test.YtadfknojfbmjgaaGreatC7
import Derived.LoopN
set_option linter.all false
namespace Go.Proofs.YtadfknojfbmjgaaGreat
namespace sx
open Go Go.RowKit
section
variable {P:Program} {D:Data} {M M':Pm D} {w w':World} {H:Hp D} {s s':St D.E} {lo:Nat} {m m':Mt D.E} {th:List (Nat×AO D.E)}
variable {a Z:AV D.E} {Y X:Mt D.E} {c i:List (AV D.E)}
theorem Xt (O:aP D) {c:Nat} {y:D.E c} {j:Nat} (h:(QdC D m a c y j).H m'):yN m m' a (.nr c y j):=by
 cases a<;>simp only[QdC] at h<;>(try exact h.elim)
 case nr W x j'=>
  obtain⟨h1,n⟩:=bm.1 h;obtain⟨x',p,q⟩:=af.1 n;obtain⟨rfl,e⟩:=J8 p;cases e;obtain⟨rfl,f⟩:=cw.1 q;cases ai.1 f;obtain rfl:=aF.1 h1;exact .same rfl (λM v d=>d) m
 case mj b k i j'=>
  obtain⟨h1,n⟩:=bm.1 h;obtain rfl:=aF.1 h1;obtain⟨a,m1,p,q⟩:=bh.1 n;obtain⟨zs,f,L⟩:=af.1 q;obtain⟨W,xs,e,ro⟩:=a;obtain⟨rfl,e⟩:=cC f;cases e;obtain⟨rfl,N⟩:=cw.1 L;cases ai.1 N;obtain⟨G,R,q3⟩:=kN O p;refine⟨G,λM w B _=>?_⟩;obtain⟨A,g1,g2,g,g3,g4,g5,g6⟩:=q3 M w B;refine⟨A,g1,λv d=>lM (M:=A) ?_ rfl⟩;cases d with
  | mj u F hk hi=>
   rw[g3] at u;cases u;simp only at g4;have r:i<xs.length:=ω;rw[BG r];refine .nr (b:=g.bN) (o:=g.sh+i*k) λi' v e=>?_
   have:=g6 F i r i' v e;grind
 case ptr b o=>
  obtain⟨h1,n⟩:=bm.1 h;obtain⟨p,q⟩:=l4 h1;obtain rfl:=aF.1 p;obtain rfl:=aF.1 q;rcases im.1 n with⟨_,f⟩ | ⟨f,L⟩
  ·exact f.elim
  obtain⟨cs,e,N,X⟩:=bh.1 L;obtain⟨x,Y,I⟩:=af.1 X;obtain⟨S,hs,J⟩:=af.1 I;obtain⟨rfl,K⟩:=cw.1 J;cases ai.1 K;have U:=BF N;obtain⟨G,R⟩:=kI hs;have hno:=mG f;refine⟨⟨id,.refl _,λt c e=>?_,λ_ h=>h,λ_ _ h=>.inl h,Zd1 R.symm⟩,λM w B _=>?_⟩
  ·show S.h.get c=m.s.h.get c
   rw[G];grind [iY]
  ·obtain⟨g,u,F,C,T,k1,k2,k3,k4,k5⟩:=B.obj b _ U;unfold Sm;show ∃A,cL m.s.h.get M w S.h.get A w m.s.nx S.nx/\_
   rw[G,R];have Q:Rd M w g.bN g.sh cs:=OE.rd (e:=e) (ro:=false) ⟨C,T,k1,k2,k3,k4,k5⟩;obtain⟨l,hl,hc⟩:=Q.list;have P:=vA O Y hl;refine⟨_,cL.lock (o1:=.cells cs e true) (cs:=D.aX c x) B U rfl (λ_=>trivial) u F.1 rfl (λv d=>(O.one c x v d).2) (λi v d=>?_) (λM2 Z=>⟨F,C,T,k1,k2,k3,λi v d=>let ⟨V,a,b⟩:=k4 i v d;⟨V,a,b.mono Z⟩,λh=>by cases h⟩) (λ_ _ _ h=>by cases h) _,λv d=>lM ?_ rfl⟩
   ·obtain⟨V,g1,g2⟩:=P.get d;grind
   ·cases d with
    | ptr z _=>
     rw[u] at z;cases z;refine .nr (b:=g.bN) (o:=g.sh) λi v e=>?_
     grind [cV]
def yN.pair {g b:Nat} (h:(pair D m g b).H m') (k:∀M v,VR M a v->∀c:Pm D,Gs M c->(∀f,M.pl b=some f->c.pl g=some f)->VR c Z v):yN m m' a Z:=by
 obtain⟨p1,p2,p3⟩:=BN h;refine⟨p1,λM w i _=>⟨M,?_,λv d=>k M v d _ (λ_ _ _ e=>e) λf j=>wT p3 j⟩⟩;unfold Sm;rw[p2];exact .refl i _
def PZ (A:aP D) (h:(m0 D th m a Z).H m'):yN m m' a Z:=by
 cases Z<;>simp only[m0] at h
 case list c F=>exact PW A h
 case nr c y j=>exact Xt A h
 case map=>exact h.elim
 case grow c F z=>
  cases a<;>simp only at h<;>(try exact h.elim)
  ·exact PY h
  ·obtain⟨G,h1,g⟩:=af.1 h;obtain⟨rfl,e⟩:=cC h1;cases e;obtain⟨rfl,q⟩:=cw.1 g;refine yN.pair q λM v p w l f=>?_
   cases p with
   | grow h d hl hz hs b s ht=>exact .grow (f _ h) d hl hz (hs.mono l) b s ht
   | j5 h d=>exact .j5 (f _ h) d
 case own z k n=>
  cases a<;>simp only at h<;>(try exact h.elim)
  ·exact PX h
  ·obtain⟨h1,g⟩:=bm.1 h;obtain rfl:=aF.1 h1;obtain⟨rfl,q⟩:=cw.1 g;refine yN.pair q λM v p w l f=>?_
   cases p with
   | own h hk d r b s ht=>exact .own (f _ h) hk d r b s ht
   | l5 h hk d r h0=>exact .l5 (f _ h) hk d r h0
  ·exact Xs A h
 case pre z k n=>
  cases a<;>simp only at h<;>(try exact h.elim)
  ·obtain⟨h1,g⟩:=bm.1 h;obtain rfl:=aF.1 h1;obtain⟨rfl,q⟩:=cw.1 g;refine yN.pair q λM v p w l f=>?_
   cases p with
   | own h hk d r b s ht=>exact .pre (f _ h) hk d r b (Zah _) s ht
   | l5 h hk d r h0=>exact .oP (f _ h) hk d r h0
  ·obtain⟨h1,g⟩:=bm.1 h;obtain rfl:=aF.1 h1;obtain⟨rfl,q⟩:=cw.1 g;refine yN.pair q λM v p w l f=>?_
   cases p with
   | pre h hk d r b hl s ht=>exact .pre (f _ h) hk d r b hl s ht
   | oP h hk d r h0=>exact .oP (f _ h) hk d r h0
 case part z k o n=>
  cases a<;>simp only at h<;>(try exact h.elim);obtain⟨h1,g⟩:=bm.1 h;obtain rfl:=aF.1 h1;obtain⟨rfl,q⟩:=cw.1 g;obtain⟨rfl,x⟩:=cw.1 q;refine yN.pair x λM v p w l f=>?_
  cases p with
  | part h hk d r B hl b s=>exact .part (f _ h) hk d r B hl b s
  | jB h hk r B=>exact .jB (f _ h) hk r B
 case ptr z o=>
  cases a<;>simp only at h<;>(try exact h.elim);obtain⟨h1,g⟩:=bm.1 h;obtain rfl:=aF.1 h1;refine yN.pair g λM v p w l f=>?_
  cases p with
  | ptr h d=>exact .ptr (f _ h) d
 case mj z k i j=>
  cases a<;>simp only at h<;>(try exact h.elim);obtain⟨h1,g⟩:=bm.1 h;obtain⟨q,x⟩:=l4 h1;obtain rfl:=aF.1 q;obtain rfl:=aF.1 x;obtain⟨rfl,C⟩:=cw.1 g;refine yN.pair C λM v p w l f=>?_
  cases p with
  | mj h d hk hi=>exact .mj (f _ h) d hk hi
 case sub z o n=>
  cases a<;>simp only at h<;>(try exact h.elim);obtain⟨h1,g⟩:=bm.1 h;obtain⟨q,x⟩:=l4 h1;obtain rfl:=aF.1 q;obtain rfl:=aF.1 x;refine yN.pair g λM v p w l f=>?_
  cases p with
  | sub h d s b=>exact .sub (f _ h) d s b
  | oQ=>exact .oQ
 all_goals
  obtain⟨u,h1,g⟩:=af.1 h;cases ai.1 g
  first
   | exact .same rfl (λM v p=>wS h1 p) m
   | (exfalso;cases a<;>simp only[wo] at h1<;>first | exact h1 | (obtain⟨_,_,q,x⟩:=bh.1 h1;cases q) | skip)
def Sm.le (h:Sm Y X M w M') (b:bR M Y.s.nx X.s.nx):Le M M':=cL.Le h b
def yN.Kf {b:Mt D.E} (h:yN Y X a Z) (k:Mv X b/\∀M w,ey M X.s.h.get w->bR M X.s.nx b.s.nx->∃f,Sm X b M w f/\∀l,LR M c l->LR (rl b.r f) i l):
  Mv Y b/\∀M w,ey M Y.s.h.get w->bR M Y.s.nx b.s.nx->∃f,Sm Y b M w f/\∀l,LR M (a::c) l->LR (rl b.r f) (Z::i) l:=by
 refine⟨h.1.trans k.1,λM w o g=>?_⟩;have d:=g.fst k.1.le;obtain⟨j,g1,g2⟩:=h.2 M w o d;have e:=bR.next g g1;obtain⟨n,g3,g4⟩:=k.2 j w g1.gn e;refine⟨n,cL.trans g1 g3,λl hl=>?_⟩;obtain⟨v,r,rfl,q,p⟩:=hl.bX;exact .cons ((g2 v q).mono (Ke (Sm.le g3 e) k.1.ext)) (g4 r (p.mono (Sm.le g1 d)))
def Qhh (m:Mt D.E):Mv m m/\∀M w,ey M m.s.h.get w->bR M m.s.nx m'.s.nx->∃a,Sm m m M w a/\∀l,LR M ([]:List (AV D.E)) l->LR (rl m.r a) ([]:List (AV D.E)) l:=
 ⟨.refl m,λM w b _=>⟨M,.refl b _,λl hl=>by rw[hl.oq];exact .nil⟩⟩
theorem DC (f:aP D):∀{c d:List (AV D.E)} {m b:Mt D.E},(mL D th c d m).H b->Mv m b/\∀M w,ey M m.s.h.get w->bR M m.s.nx b.s.nx->∃e,Sm m b M w e/\∀l,LR M c l->LR (rl b.r e) d l
 | [],[],m,b,h=>by cases ai.1 (show(C.ret m).H b from h);exact Qhh m
 | [],_::_,_,_,h=>(h:False).elim
 | _::_,[],_,_,h=>(h:False).elim
 | a::c,t::d,m,b,h=>by
  obtain⟨m1,h1,g⟩:=af.1 (show(av (m0 D th m a t) λm=>mL D th c d m).H b from h);exact(PZ f h1).Kf (DC f g)
def Qhi (i:aP D) (h:(mV D th m a Z).H m'):yN m m' a Z:=by
 cases Z<;>simp only[mV] at h<;>(try exact PZ i h)
 case agg I=>
  cases a<;>simp only at h<;>(try exact h.elim);obtain⟨e,f⟩:=DC i h;refine⟨e,λM w c b=>?_⟩;obtain⟨j,g1,g2⟩:=f M w c b;refine⟨j,g1,λv d=>?_⟩;cases d with
  | agg hl n=>exact(VR.Df (g2 _ ⟨hl,n⟩):)
 case tuple I=>
  cases a<;>simp only at h<;>(try exact h.elim);obtain⟨e,f⟩:=DC i h;refine⟨e,λM w c b=>?_⟩;obtain⟨j,g1,g2⟩:=f M w c b;refine⟨j,g1,λv d=>?_⟩;cases d with
  | tuple hl n=>exact(VR.Dg (g2 _ ⟨hl,n⟩):)
 case func g xs J=>
  cases a<;>simp only at h<;>(try exact h.elim);obtain⟨h1,o⟩:=bm.1 h;obtain rfl:=Kd h1;obtain⟨m1,B,C⟩:=af.1 o;obtain⟨e,f⟩:=DC i B;obtain⟨r,G⟩:=DC i C;refine⟨e.trans r,λM w c b=>?_⟩;have k:=b.fst r.le;obtain⟨z,g1,g2⟩:=f M w c k;have l:=bR.next b g1;obtain⟨A,g3,g4⟩:=G z w g1.gn l;refine⟨A,cL.trans g1 g3,λv d=>?_⟩;cases d with
  | func _ hl n q p=>
   have s:=(g2 _ ⟨hl,n⟩).mono (Ke (Sm.le g3 l) r.ext);have y:=g4 _ (LR.mono (Sm.le g1 k) ⟨q,p⟩);exact .func _ s.1 s.2 y.1 y.2
 case iface u x=>
  cases a<;>simp only at h<;>(try exact h.elim);obtain⟨h1,o⟩:=bm.1 h;obtain rfl:=aF.1 h1;obtain⟨e,f⟩:=PZ i o;refine⟨e,λM w c b=>?_⟩;obtain⟨j,g1,g2⟩:=f M w c b;refine⟨j,g1,λv d=>?_⟩;cases d with
  | iface _ F=>exact .iface _ (g2 _ F)
theorem GL (f:aP D):∀{c d:List (AV D.E)} {m b:Mt D.E},(mVs D th c d m).H b->Mv m b/\∀M w,ey M m.s.h.get w->bR M m.s.nx b.s.nx->∃e,Sm m b M w e/\∀l,LR M c l->LR (rl b.r e) d l
 | [],[],m,b,h=>by cases ai.1 (show(C.ret m).H b from h);exact Qhh m
 | [],_::_,_,_,h=>(h:False).elim
 | _::_,[],_,_,h=>(h:False).elim
 | a::c,t::d,m,b,h=>by
  obtain⟨m1,h1,g⟩:=af.1 (show(av (mV D th m a t) λm=>mVs D th c d m).H b from h);exact(Qhi f h1).Kf (GL f g)
def QdR (a t:AO D.E):Prop:=t.wr=a.wr/\(∀b j,t.s6 b j->a.s6 b j)/\∀c d e,t=.arr c d e true->a=.arr c d e true
theorem OE.map {f:MI} {e:TypeId} {ro:Bool} (hl:∀l,LR M c l->LR M' i l) (h:OE M f w c e ro):OE M' f w i e ro:=by
 have b:=h.rd;obtain⟨l,a,n⟩:=b.list;have d:=hl l a;obtain⟨C,j,k1,k2,k3,k4,k5⟩:=h;refine⟨C,j,k1,k2,by rw[d.1,<-a.1];exact k3,λg v k=>?_,k5⟩;obtain⟨o,m,a2⟩:=d.get k;grind [World.cell?]
def Qhj {a b:Bool} (h:(Bool.rec (motive:=λ_=>Bool) (Bool.not a) a b:Bool)):a=b:=by cases a<;>cases b<;>first | rfl | cases h
theorem Qhk (u:aP D) {a t:AO D.E} (h:(mO D th m a t).H m'):Mv m m'/\QdR a t/\∀M w,ey M m.s.h.get w->bR M m.s.nx m'.s.nx->∃o,Sm m m' M w o/\∀n,OR M a n w->OR (rl m'.r o) t n w:=by
 cases t with
 | cells G e ro=>
  cases a<;>simp only[mO] at h<;>(try exact h.elim);obtain⟨h1,d⟩:=bm.1 h;obtain⟨f,g⟩:=l4 h1;obtain rfl:=aF.1 f;obtain rfl:=Qhj g;obtain⟨B,C⟩:=GL u d;refine⟨B,⟨rfl,λ_ _ _=>trivial,λ_ _ _ h=>by cases h⟩,λM w j p=>?_⟩;obtain⟨o,g1,g2⟩:=C M w j p;refine⟨o,g1,λn b=>⟨⟨b.1.1,b.1.2.1,?_⟩,b.2.map g2⟩⟩;obtain⟨l,k,_⟩:=b.2.rd.list;rw[(g2 l k).1,<-k.1];exact b.1.2.2
 | arr c I e ro=>
  cases a<;>simp only[mO] at h<;>(try exact h.elim);obtain⟨h1,d⟩:=bm.1 h;obtain⟨f,g⟩:=l4 h1;obtain rfl:=aF.1 f;obtain rfl:=Qhj g;obtain⟨J,x,y⟩:=af.1 d;obtain⟨rfl,e⟩:=cC x;cases e;obtain⟨rfl,z⟩:=cw.1 y;cases ai.1 z;refine⟨.refl m,⟨rfl,λ_ _ _=>trivial,λ_ _ _ h=>h⟩,λM w j p=>⟨M,.refl j _,λn b=>⟨b.1,b.2.1,λA=>(b.2.2 A).map λl hl=>⟨hl.1,λi v F q e2=>lM (hl.2 i v F q e2) (dX u (ZaJ q)).2⟩⟩⟩⟩
 | tok c e=>
  cases a<;>simp only[mO] at h<;>(try exact h.elim);obtain⟨h1,d⟩:=bm.1 h;obtain⟨f,g⟩:=l4 h1;obtain rfl:=aF.1 f;obtain rfl:=aF.1 g;cases ai.1 d;exact⟨.refl m,⟨rfl,λ_ _ h=>h,λ_ _ _ h=>by cases h⟩,λM w j p=>⟨M,.refl j _,λn b=>b⟩⟩
def Dn (th:List (Nat×AO D.E)) (M:Pm D) (w:World) (m:Mt D.E) (t b:Nat):Prop:=∃a d c,ch th t=some a/\m.s.h.get b=some d/\M.pl b=some c/\OR (rl m.r M) a c w/\QdR d a
theorem DD (A:aP D):∀{n:Nat} {m d:Mt D.E},(Pe D th n m).H d->Ext m.r d.r/\(Inj m.r->Inj d.r)/\m.s.nx<=d.s.nx/\∀M w,ey M m.s.h.get w->bR M m.s.nx d.s.nx->(∀t b,dT m.r t=some b->(t,b)∈m.todo\/Dn th M w m t b)->
  ∃v,Sm m d M w v/\∀t b,dT d.r t=some b->Dn th v w d t b
 | 0,_,_,h=>(h:False).elim
 | n+1,m,d,h=>by
  obtain⟨s,r,td⟩:=m;cases td with
  | nil=>
   cases ai.1 (show(C.ret ⟨s,r,[]⟩).H d from h);exact⟨.refl _,id,Zah _,λM w k q c=>⟨M,.refl k _,λt b e=>by
    rcases c t b e with h1 | h1
    ·cases h1
    ·exact h1⟩⟩
  | cons p td=>
   obtain⟨R,h1,J⟩:=af.1 (show(av (cE (ch th p.1)) λt=>av (cE (s.h.get p.2)) λa=>av (mO D th ⟨s,r,td⟩ a t) (Pe D th n)).H d from h);obtain⟨B,o,K⟩:=af.1 J;obtain⟨m2,L,N⟩:=af.1 K;rw[bu] at h1 o;obtain⟨f,S,T⟩:=Qhk A L;obtain⟨k1,k2,k0,k3⟩:=DD A N;refine⟨f.ext.trans k1,λhi=>k2 (f.inj hi),Zav f.le k0,λM w k q c=>?_⟩;have j:bR M s.nx m2.s.nx:=q.fst k0;obtain⟨z,g1,g2⟩:=T M w k j;have hle:=Sm.le g1 j;have u:=bR.next q g1;have O:∀t b,Dn th M w ⟨s,r,p::td⟩ t b->dT r t=some b->Dn th z w m2 t b:=λt b ⟨x,y,l,g,e2,i,G,I⟩ e=>⟨x,y,l,g,(f.Xr t b e).trans e2,hle.1 _ _ i,G.mono (Ke hle f.ext) λ_=>rfl,I⟩
   obtain⟨F,g3,g4⟩:=k3 z w g1.gn u (λt b e=>by
    rcases f.new t b e with g | g
    ·rcases c t b g with e2 | e2
     ·rcases Zbf.1 e2 with i | i
      ·right;obtain⟨l,P,Q⟩:=k.obj p.2 B o;subst i;exact⟨R,B,l,h1,(f.Xr _ _ g).trans o,hle.1 _ _ P,g2 l Q,S⟩
      ·exact .inl (f.td _ i)
     ·grind
    ·exact .inl g)
   exact⟨F,cL.trans g1 g3,g4⟩
structure Mtd (th:List (Nat×AO D.E)) (r0 r:Ren) (s:St D.E) (QwF ts:List (AV D.E)) (s':St D.E):Prop where
 ext:Ext r0 r
 inj:Inj r
 all:∀t o,ch th t=some o->∃b,dT r t=some b
 le:s.nx<=s'.nx
 sem:∀M w,ey M s.h.get w->bR M s.nx s'.nx->∃M',cL s.h.get M w s'.h.get M' w s.nx s'.nx/\(∀l,LR M QwF l->LR (rl r M') ts l)/\ey (rl r M') (λt=>ch th t) w/\
  ∀t b,dT r t=some b->∃ot oa mi,ch th t=some ot/\s'.h.get b=some oa/\M'.pl b=some mi/\QdR oa ot
theorem BO (P:aP D) {K r:Ren} {L S:List (AV D.E)} (hi:Inj K) (h:(Pf D s K th L S).H (s',r)):Mtd th K r s L S s':=by
 obtain⟨m1,h1,W⟩:=af.1 h;obtain⟨m2,X,Y⟩:=af.1 W;obtain⟨Z,C⟩:=bm.1 Y;have C:=ai.1 C;simp only[Zbx] at C;obtain⟨rfl,rfl⟩:=C;obtain⟨u,q2⟩:=GL P h1;obtain⟨k1,k2,k0,k3⟩:=DD P X;have m:∀t o,ch th t=some o->∃b,dT m2.r t=some b:=λt o ht=>by
  have:=dV.1 Z _ (oZ ht);exact ZcI.1 this
 refine⟨u.ext.trans k1,k2 (u.inj hi),m,Zav u.le k0,λM w hS Q=>?_⟩;obtain⟨T,g1,g2⟩:=q2 M w hS (Q.fst k0);have y:=bR.next Q g1;obtain⟨U,g3,g4⟩:=k3 T w g1.gn y λt b e=>by
  rcases u.new t b e with d | d
  ·exact .inl (u.td _ (DA d))
  ·grind
 have hle:=Sm.le g3 y;have f:=g3.gn;refine⟨U,cL.trans g1 g3,λl hl=>(g2 l hl).mono (Ke hle k1),⟨λt o ht=>?_,λt R o o' i k ht ht' a p q I he=>?_,λb o v e=>?_,λt o i ht hw a q j hj=>?_,λt c xs e i ht a q=>?_,⟨f.ml.1,λt o i ht hw a q=>?_⟩⟩,λt b e=>?_⟩
 ·obtain⟨b,g⟩:=m t o ht;obtain⟨F,n,i,d,e2,A,B,x⟩:=g4 t b g;grind [wT]
 ·obtain⟨b,g,a⟩:=fU a;obtain⟨N,z,p⟩:=fU p;obtain⟨_,n,_,_,e2,_⟩:=g4 t b g;obtain⟨_,J,_,_,G,_⟩:=g4 R N z;have:=f.inj b N n J i k e2 G a p q I he;subst this;exact k2 (u.inj hi) t R b g z
 ·obtain⟨hp,v',hc,hv⟩:=f.gE b o v e;grind [lM]
 ·obtain⟨b,g,a⟩:=fU a;obtain⟨F,n,k,d,e2,A,B,x,O,_⟩:=g4 t b g;rw[ht] at d;cases d;exact f.sep b n i e2 (x▸hw) a q j (O i j hj)
 ·obtain⟨b,g,a⟩:=fU a;obtain⟨F,n,k,d,e2,A,B,_,_,V⟩:=g4 t b g;rw[ht] at d;cases d;have:=V c xs e rfl;subst this;exact(f.J2 b c xs e i e2 a q).mono λ_ _ _ h=>h
 ·obtain⟨b,g,a⟩:=fU a;obtain⟨F,n,k,d,e2,A,B,x,O,_⟩:=g4 t b g;rw[ht] at d;cases d;exact f.ml.2 b n i e2 (x▸hw) a q
 ·obtain⟨F,n,i,d,e2,A,B,x⟩:=g4 t b e;grind
end
section
variable {P:Program} {D:Data} {M M':Pm D} {w w':World} {H:Hp D} {s s':St D.E} {lo:Nat} {m m':Mt D.E} {th:List (Nat×AO D.E)}
section
variable {f:Nat->Nat}
variable {v:AV D.E} {e:Value} {l:List (AV D.E)} {c:List Value}
def BP (c:∀t m,M.pl t=some m->M'.pl (f t)=some m) (l:Gs M M') (h:VR M v e) (p:OD D v):VR M' (Bw D f v) e:=by
 cases h<;>simp only[Bw]<;>first | (cases p;done) | skip
 case bool b=>exact .bool b
 case lit b=>exact .lit b
 case int h=>exact .int h
 case num h=>exact .num h
 case str h=>exact .str h
 case fD=>exact .fD
 case ptr h a=>exact .ptr (c _ _ h) a
 case kD g o=>exact .kD g o
 case mj h a hk hi=>exact .mj (c _ _ h) a hk hi
 case nr h=>exact .nr λi v n=>l _ _ _ (h i v n)
 case cF=>exact .cF
 case own h hk a k j d ht=>exact .own (c _ _ h) hk a k j d ht
 case l5 h hk a k hl=>exact .l5 (c _ _ h) hk a k hl
 case pre h hk a k j hl d ht=>exact .pre (c _ _ h) hk a k j hl d ht
 case oP h hk a k hl=>exact .oP (c _ _ h) hk a k hl
 case part h hk a k h0 hl j d=>exact .part (c _ _ h) hk a k h0 hl j d
 case jB h hk k h0=>exact .jB (c _ _ h) hk k h0
 case grow h a hl hz hs j d ht=>exact .grow (c _ _ h) a hl hz (hs.mono l) j d ht
 case j5 h a=>exact .j5 (c _ _ h) a
 case sub h a d j=>exact .sub (c _ _ h) a d j
 case oQ=>exact .oQ
 case list hs j d=>exact .list (hs.mono l) j d
 case fh=>exact .fh
 case qm=>exact .qm
 case map h=>exact .map (c _ _ h)
 case nilFunc=>exact .nilFunc
 case nilIface=>exact .nilIface
theorem vC (j:∀t d,M.pl t=some d->M'.pl (f t)=some d) (b:Gs M M') (h:LR M l c) (k:jA (OD D) l):LR M' (sV (Bw D f) l) c:=by
 rw[pH];refine⟨by simp[h.1],λi v m e g=>?_⟩;rw[Zbk] at e;cases a:l[i]? with
 | none=>rw[a] at e;cases e
 | some u=>
  rw[a] at e;cases e;exact BP j b (h.2 i u m a g) (dV.1 k u (ZaJ a))
def Kg (b:∀t l,M.pl t=some l->M'.pl (f t)=some l) (a:Gs M M') (h:VR M v e) (d:okV D v):VR M' (L_ D f v) e:=by
 cases v<;>simp only[L_]<;>(try exact BP b a h rfl)
 case agg cs=>cases h with
  | agg hl c=>exact(VR.Df (vC b a ⟨hl,c⟩ d):)
 case tuple cs=>cases h with
  | tuple hl c=>exact(VR.Dg (vC b a ⟨hl,c⟩ d):)
 case func g xs p=>
  obtain⟨o1,o⟩:=l4 d;cases h with
  | func _ hl c i m=>
   have j:=vC b a ⟨hl,c⟩ o1;have k:=vC b a ⟨i,m⟩ o;exact .func _ j.1 j.2 k.1 k.2
 case iface t x=>cases h with
  | iface _ n=>exact .iface _ (BP b a n d)
theorem Kh (j:∀t d,M.pl t=some d->M'.pl (f t)=some d) (b:Gs M M') (h:LR M l c) (k:jA (okV D) l):LR M' (sV (L_ D f) l) c:=by
 rw[pH];refine⟨by simp[h.1],λi v m e g=>?_⟩;rw[Zbk] at e;cases a:l[i]? with
 | none=>rw[a] at e;cases e
 | some u=>
  rw[a] at e;cases e;exact Kg j b (h.2 i u m a g) (dV.1 k u (ZaJ a))
def P0 (b:∀t d,M.pl t=some d->M'.pl (f t)=some d) (a:Gs M M') (h:VR M v e) (c:Qg3 D v):VR M' (Pg D f v) e:=by
 cases v<;>simp only[Pg]<;>(try exact Kg b a h c)
 case tuple cs=>cases h with
  | tuple hl g=>exact(VR.Dg (Kh b a ⟨hl,g⟩ c):)
theorem Xu (j:∀t b,M.pl t=some b->M'.pl (f t)=some b) (a:Gs M M') {o:AO D.E} {b:MI} (g:aP D) (h:OR M o b w) (k:okO D o):OR M' (Bx D f o) b w:=by
 cases o with
 | cells cs e ro=>exact⟨⟨h.1.1,h.1.2.1,by rw[pH,Za2];exact h.1.2.2⟩,h.2.map λl hl=>Kh j a hl k⟩
 | arr c xs e ro=>exact⟨h.1,h.2.1,λm=>(h.2.2 m).map λl hl=>⟨hl.1,λi v n d e2=>(hl.2 i v n d e2).pure (dX g (ZaJ d)).2 a⟩⟩
 | tok c e=>exact h
end
variable {Z:Nat->Nat} {o:AO D.E} {c:Nat}
theorem BQ (o:AO D.E):(Bx D Z o).wr=o.wr:=by cases o<;>rfl
def Mp (o:AO D.E) (a:MI) (j:Nat):(Bx D Z o).s6 a j↔o.s6 a j:=by cases o<;>exact ZbW
def P1 {xs:List (D.E c)} {e:TypeId} {ro:Bool} (h:Bx D Z o=.arr c xs e ro):o=.arr c xs e ro:=by cases o<;>first | exact h | cases h
def P2 (P:Program) (D:Data) (k:bf D):Prop:=(∃fn c,P.funcs[k.f]?=some fn/\fn.body=some c)/\∀y,k.pre y->∀(M:Pm D) (A:Array Value) (w:World),LR M (k.args y) A.toList->ey M (λt=>ch (k.heap y) t) w->TF M k.ox->
 ∀R:Ending->World->Prop,(∀a b d,VR a (k.res y) b->cL (λt=>ch (k.heap y) t) M w (λt=>ch (k.h_ y) t) a d k.ox k.Bv->R (.returned b) d)->Calls P k.f A w R
noncomputable def Mq (f:Nat->Nat) (b:Nat):List (Nat×AO D.E)->Option (AO D.E)
 | []=>none
 | p::l=>if f p.1=b then some (Bx D f p.2) else Mq f b l
theorem CS:∀{l:List (Nat×AO D.E)},Mq Z c l=some o->∃t a,ch l t=some a/\Z t=c/\o=Bx D Z a
 | [],h=>by cases h
 | (t,a)::l,h=>by
  unfold Mq at h;by_cases e:Z t=c
  ·grind [fj]
  ·rw[Zaa e] at h;obtain⟨i,g,h1,b,d⟩:=CS h;grind [fj]
theorem Ki:∀{l:List (Nat×AO D.E)} {h a:T (AO D.E)},(inP D Z l h).H a->∀b,a.get b=match Mq Z b l with
  | some o=>some o
  | none=>h.get b
 | [],h,a,c,b=>by cases ai.1 (show(C.ret h).H a from c);rfl
 | p::l,h,a,c,b=>by
  obtain⟨h1,g1,g2⟩:=af.1 (show(av (inP D Z l h) λh=>cE (h.put (Z p.1) (some (Bx D Z p.2)))).H a from c);have d:=Ki g1 b;grind [T.dU,bu,Mq]
theorem DE {r:Ren}:∀{l:List (Nat×AO D.E)} {h a:T (AO D.E)},(QdD D r l h).H a->∀b,((∃p∈l,dT r p.1=some b)->a.get b=none)/\((¬∃p∈l,dT r p.1=some b)->a.get b=h.get b)
 | [],h,a,d,b=>by cases ai.1 (show(C.ret h).H a from d);exact⟨λ⟨p,e,_⟩=>by grind,λ_=>rfl⟩
 | p::l,h,a,d,b=>by
  obtain⟨c,g1,g2⟩:=af.1 (show(av (cE (dT r p.1)) λb=>av (cE (h.put b none)) λh=>QdD D r l h).H a from d);obtain⟨h1,g3,g4⟩:=af.1 g2;rw[bu] at g1 g3;have f:=DE g4 b;grind [T.dU]
def DF {l:List (Nat×AO D.E)} (h:below D c l) {t:Nat} (ht:ch l t=some o):t<c:=b9.1 (dV.1 h _ (oZ ht))
theorem P3 (hD:aP D) {k:bf D} {y:k.Y} {args:List (AV D.E)} {v:AV D.E} (hk:P2 P D k) (h:(Ph D k y args s).H (v,s')):PG P D k.f args s v s':=by
 obtain⟨Z,h1⟩:=cw.1 h;obtain⟨h2,h3⟩:=bm.1 h1;obtain⟨h4,h5⟩:=l4 h2;obtain⟨V,X⟩:=l4 h4;obtain⟨hres,hok⟩:=l4 h5;have X:=b9.1 X;obtain⟨n,r,h6,h7⟩:=bh.1 h3;obtain⟨h2',h8,h9⟩:=af.1 h7;obtain⟨h3',h10,F⟩:=af.1 h9;have F:=ai.1 F;simp only[Zbx] at F;obtain⟨rfl,rfl⟩:=F;have hm:=BO hD (λt t' b e=>by cases(show none=some b from e)) h6;have hle:=hm.le;refine⟨by grind,hk.1,λM A w hl hS G R hR=>?_⟩;have G:bR M s.nx (n.nx+(k.Bv-k.ox)):=G;obtain⟨L,g1,g2,g3,g4⟩:=hm.sem M w hS (G.fst ω);have N:bR L n.nx (n.nx+(k.Bv-k.ox)):=G.next g1;have hr0:∀t,k.ox<=t->dT r t=none:=λt ht=>by
  cases hq:dT r t with
  | none=>rfl
  | some b=>
   obtain⟨ot,oa,g,i,_⟩:=g4 t b hq;have:=DF V i;omega
 have hTF:TF (rl r L) k.ox:=λt ht=>by
  show(dT r t).bind L.pl=none
  grind
 refine hk.2 y Z.out (rl r L) A w (g2 _ hl) g3 hTF R λQ v' w' hv a=>?_
 let f:=rn r k.ox n.nx
 have z:∀t b,dT r t=some b->f t=b:=λt b e=>by
  show Option.rec (motive:=λ_=>Nat) (n.nx+(t-k.ox)) (λb=>b) (dT r t)=b
  rw[e]
 have f_new:∀t,k.ox<=t->f t=n.nx+(t-k.ox):=λt e=>by
  show Option.rec (motive:=λ_=>Nat) (n.nx+(t-k.ox)) (λb=>b) (dT r t)=_
  rw[hr0 t e]
 let S:Pm D:=⟨λb=>if n.nx<=b/\b<n.nx+(k.Bv-k.ox) then Q.pl (k.ox+(b-n.nx)) else L.pl b,Q.sg⟩
 have hf:∀t g,Q.pl t=some g->S.pl (f t)=some g:=λt g e=>by
  by_cases C:k.ox<=t/\t<k.Bv
  ·grind
  ·rw[a.ext t C] at e;obtain⟨b,i,e2⟩:=fU e;rw[z t b i];show(if _ then _ else _)=_
   by_cases l:n.nx<=b/\b<n.nx+(k.Bv-k.ox)
   ·rw[N b l.1 l.2] at e2;cases e2
   ·grind
 have O:Gs Q S:=λ_ _ _ e=>e
 refine hR S v' w' (P0 hf O hv hres) (g1.trans ?_)
 
 classical
 let Me:Nat->Prop:=λb=>∃p∈k.heap y,dT r p.1=some b
 let K:Hp D:=λb=>if Me b then n.h.get b else none
 let K':Hp D:=λb=>Mq f b (k.h_ y)
 have W:∀t b,dT r t=some b->Me b:=λt b e=>by
  obtain⟨ot,_,_,i,_⟩:=g4 t b e;exact⟨(t,ot),oZ i,e⟩
 have hK:∀t b,dT r t=some b->K b=n.h.get b:=λt b e=>Zac (W t b e)
 have QnM:∀c,Md (λt=>ch (k.heap y) t) (rl r L) c->Md K L c:=λc ⟨t,o,g,i,e2,e3,x,m⟩=>by
  obtain⟨b,e6,e7⟩:=fU e3;obtain⟨ot,oa,I,q1,q2,q3,q4,_⟩:=g4 t b e6;rw[show ch (k.heap y) t=some o from i] at q1;cases q1;exact⟨b,oa,g,by grind,q4▸e2,e7,x,m⟩
 have QnN:cL K L w K' S w' n.nx (n.nx+(k.Bv-k.ox)):=by
  have d:∀b J,K' b=some J->∃t o g,ch (k.h_ y) t=some o/\f t=b/\J=Bx D f o/\Q.pl t=some g/\S.pl b=some g/\OR Q o g w':=λb J l=>by
   obtain⟨t,o,i,e2,e3⟩:=CS l;obtain⟨g,x,m⟩:=a.gn.obj t o i;grind
  refine⟨⟨λb J l=>?_,λb T o J g I l B e e' C hr' he=>?_,λb o v e=>?_,λb o g l hw e C j hj=>?_,λb c xs e g l hmi C=>?_,⟨a.gn.ml.1,λb o g l hw e C=>?_⟩⟩,λb l=>?_,λb o v e=>a.J3 b o v e,λb o e=>?_,a.size,λc hc hn=>a.aH c hc λhx=>hn (QnM c hx),λb o g l e C=>?_,λb l=>?_,a.os,a.tape,a.output,ω⟩
  ·obtain⟨t,o,g,i,e2,rfl,x,m,e6⟩:=d b J l;exact⟨g,m,Xu hf O hD e6 (dV.1 hok _ (oZ i))⟩
  ·obtain⟨t,p,q,i,e2,_,x,m,_⟩:=d b o l;obtain⟨t',p',q',e1',e2',_,e4',U,_⟩:=d T J B;rw[e] at m;cases m;rw[e'] at U;cases U;have:=a.gn.inj t t' p p' g I i e1' x e4' C hr' he;grind
  ·obtain⟨hp,v',hc,hvv⟩:=a.gn.gE b o v e;exact⟨hp,v',hc,hvv.pure hp O⟩
  ·obtain⟨t,p,q,i,e2,rfl,x,m,_⟩:=d b o l;rw[e] at m;cases m;exact a.gn.sep t p g i (by grind [BQ]) x C j ((Mp p g j).1 hj)
  ·obtain⟨t,p,q,i,e2,e3,x,m,_⟩:=d b _ l;rw[hmi] at m;cases m;have:=P1 e3.symm;subst this;exact a.gn.J2 t c xs e g i x C
  ·obtain⟨t,p,q,i,e2,rfl,x,m,_⟩:=d b o l;rw[e] at m;cases m;exact a.gn.ml.2 t p g i (by grind [BQ]) x C
  ·exact Zaa l
  ·rcases a.lJ b o e with u | u | u
   ·exact .inl u
   ·omega
   ·grind
  ·obtain⟨t,p,q,i,e2,rfl,x,m,_⟩:=d b o l;rw[e] at m;cases m;rcases a.born t p g i x C with u | ⟨t0,p0,rA,i1,i2,i3,i4,i5⟩
   ·omega
   ·obtain⟨b0,i6,i7⟩:=fU i2;obtain⟨ot,oa,I,q1,q2,q3,q4,_⟩:=g4 t0 b0 i6;grind [BQ]
  ·obtain⟨J,ho'⟩:=Zbs.1 l;obtain⟨t,p,q,i,e2,_,x,m,_⟩:=d b J ho';rcases a.Me t (by grind) with u | u
   ·obtain⟨o0,ho0⟩:=Zbs.1 u;obtain⟨T,B⟩:=hm.all t o0 ho0;obtain⟨ot,oa,I,q1,q2,q3,q4,_⟩:=g4 t T B;left;rw[<-e2,z t T B,hK t T B,q2];simp
   ·grind
 refine QnN.frame g1.gn N (λb o l=>?_) λb=>?_
 ·grind
 ·grind [Ki,DE]
theorem P4 (d:aP D) {tab:List (bf D)} (ht:∀k∈tab,P2 P D k):yX P D (caT D tab):=by
 intro f args s v c h
 induction tab with
 | nil=>exact(h:False).elim
 | cons k tab a=>
  have a:=a λk hk=>ht k (ZaU _ hk)
  rcases im.1 (show(bE (Nat.beq k.f f) (bE (Pj (k.zy args s)) (caT D tab f args s) (av (k.zy args s) λy=>Ph D k y args s)) (caT D tab f args s)).H (v,c) from h) with⟨h1,b⟩ | ⟨_,b⟩
  ·grind [im,af,aF,P3]
  ·grind
end
section
variable {P:Program} {D:Data} {M M':Pm D} {w w':World} {H H':Hp D} {s s':St D.E} {φ φ':T (AV D.E)} {a:Act} {N:Nat} {m m':Mt D.E} {th:List (Nat×AO D.E)}
variable {H0:Hp D} {M0:Pm D} {w0:World} {base:Nat}
structure Xv (H0:Hp D) (M0:Pm D) (w0:World) (H:Hp D) (M:Pm D) (w:World):Prop where
 J3:Gs M0 M
 lJ:∀b o,M.sg b o≠none->M0.sg b o≠none\/w0.heap.size<=b\/Md H0 M0 b
 size:w0.heap.size<=w.heap.size
 aH:∀c,c<w0.heap.size->¬Md H0 M0 c->w.heap[c]?=w0.heap[c]?
 born:∀b o mi,H b=some o->M.pl b=some mi->mi.real=true->w0.heap.size<=mi.bN\/∃b0 o0 rA,H0 b0=some o0/\M0.pl b0=some rA/\rA.real=true/\rA.bN=mi.bN/\(o.wr=true->o0.wr=true)
 os:w.os=w0.os
 tape:w.tape=w0.tape
 output:w.output=w0.output
theorem Xv.refl (H0:Hp D) (a:Pm D) (w0:World):Xv H0 a w0 H0 a w0:=⟨λ_ _ _ h=>h,λ_ _ h=>.inl h,Zah _,λ_ _ _=>rfl,λb o f c d e=>.inr ⟨b,o,f,c,d,e,rfl,id⟩,rfl,rfl,rfl⟩
def Xv.wrt (h:Xv H0 M0 w0 H M w) {c:Nat} (j:Md H M c):w0.heap.size<=c\/Md H0 M0 c:=by
 obtain⟨b,o,p,i,m,l,n,rfl⟩:=j;rcases h.born b o p i l n with hs | ⟨g,q,f,a,d,e,k,hw⟩
 ·omega
 ·exact .inr ⟨g,q,f,a,hw m,d,e,k⟩
theorem Xv.OI {lo hi:Nat} (h:Xv H0 M0 w0 H M w) (k:cL H M w H' M' w' lo hi):Xv H0 M0 w0 H' M' w':=by
 refine⟨λb o v e=>k.J3 _ _ _ (h.J3 _ _ _ e),λb o d=>?_,Zav h.size k.size,λc j q=>?_,λb o u d n r=>?_,k.os.trans h.os,k.tape.trans h.tape,k.output.trans h.output⟩
 ·rcases k.lJ b o d with a | a | a
  ·exact h.lJ b o a
  ·exact .inr (.inl (Zav h.size a))
  ·exact .inr (h.wrt a)
 ·rw[k.aH c (ZbB j h.size) λhw=>?_,h.aH c j q];rcases h.wrt hw with a | a
  ·omega
  ·grind
 ·rcases k.born b o u d n r with hs | ⟨b1,o1,i,lK,f,g,m,t⟩
  ·exact .inl (Zav h.size hs)
  ·rcases h.born b1 o1 i lK f g with hs | ⟨y,A,x,l,p,s,z,hw⟩
   ·omega
   ·grind
structure F8 (H0:Hp D) (M0:Pm D) (w0:World) (base N:Nat) (s:St D.E) (φ:T (AV D.E)) (M:Pm D) (a:Act) (w:World):Prop where
 gn:ey M s.h.get w
 fr:FR M φ a N
 tf:TF M s.nx
 DG:Xv H0 M0 w0 s.h.get M w
 per:∀t mi,t<base->M.pl t=some mi->M0.pl t=some mi
 le:base<=s.nx
variable {v d:AV D.E} {b:Nat} {l:List (Nat×AO D.E)}
def F8.step {b:Act} (h:F8 H0 M0 w0 base N s φ M a w) (k:cL s.h.get M w s'.h.get M' w' s.nx s'.nx) (c:FR M' φ' b N):F8 H0 M0 w0 base N s' φ' M' b w':=
 ⟨k.gn,c,h.tf.OI k,h.DG.OI k,λt d ht e=>h.per t d ht (by rw[<-k.ext t (by have:=h.le;omega)];exact e),Zav h.le k.le⟩
theorem P5 (p:aP D) (h:(J0 D s v).H (d,s')) (l:ey M s.h.get w):∃j,cL s.h.get M w s'.h.get j w s.nx s'.nx/\∀val,VR M v val->VR j d val:=by
 have i:∀{v d:AV D.E},(C.ret (v,s)).H (d,s')->∃j,cL s.h.get M w s'.h.get j w s.nx s'.nx/\∀val,VR M v val->VR j d val:=λe=>by
  cases ai.1 e;exact⟨M,.refl l _,λ_ h=>h⟩
 cases v<;>simp only[J0] at h<;>(try exact i h)
 case own b k n=>
  obtain⟨a,m1,h1,f⟩:=bh.1 h;cases ai.1 f;obtain⟨q,r,m⟩:=kN p h1;grind [tb]
 case pre b k n=>
  obtain⟨a,m1,h1,f⟩:=bh.1 h;cases ai.1 f;obtain⟨q,r,m⟩:=kN p h1;obtain⟨j,g1,g2,y,g3,g4,g5,g6⟩:=m M w l;exact⟨j,g1,λv g=>(tb g2 g3 g4 g5 g6).2.1 g⟩
 case part b k o n=>
  obtain⟨a,m1,h1,f⟩:=bh.1 h;cases ai.1 f;obtain⟨q,r,m⟩:=kN p h1;obtain⟨j,g1,g2,y,g3,g4,g5,g6⟩:=m M w l;exact⟨j,g1,λv g=>(tb g2 g3 g4 g5 g6).2.2 o g⟩
 case grow c xs b=>
  cases ai.1 h;refine⟨M,.refl l _,λv g=>?_⟩;cases g with
  | grow h x hl hz hs u t ht=>exact .list hs u t
  | j5 h x=>exact .fh
theorem wU {k:IntKind} {x:Int}:∀{n:Nat} {v:AV D.E},(Pl D k x n).H v->∀(M:Pm D) val,VR M (.int k x) val->VR M v val
 | 0,v,h,M,val,b=>by
  obtain⟨h1,a⟩:=cN.1 (show(ask (az x zI) (.ret (.num k zI))).H v from h);cases ai.1 a;have h1:x=zI:=by grind [az]
  subst h1;cases b;exact .num (by assumption)
 | n+1,v,h,M,val,b=>by
  rcases vt.1 (show(C.split (az x (.ofNat (n+1))) (.ret (.num k (.ofNat (n+1)))) (Pl D k x n)).H v from h) with⟨h1,a⟩ | ⟨_,a⟩
  ·cases ai.1 a;have h1:x=.ofNat (n+1):=by grind [az]
   subst h1;cases b;exact .num (by assumption)
  ·exact wU a M val b
def DH {val:Value} (h:VR M v val):JY D v:=by
 cases h<;>simp only[JY]<;>(try trivial)
 case str l h=>exact ZaK (show(l.length:Int)<=9223372036854775807 by omega)
 case own a e d ht=>rw[a];simp[aC,zI];omega
 case l5 g a hl=>rw[a];simp[aC,zI]
 case grow c b cap xs i f g hl hz hs e d ht=>exact ZaK (show(xs.length:Int)<=9223372036854775807 by omega)
 case list c b o cap xs hs e d=>exact ZaK (show(xs.length:Int)<=9223372036854775807 by omega)
theorem wV:∀{l:List (AV D.E)} {l':List Value},LR M l l'->Pk D l
 | [],_,_=>trivial
 | v::l,l',h=>by
  obtain⟨c,r,_,b,a⟩:=h.bX;exact⟨DH b,wV a⟩
def P6 {val:Value} (h:VR M v val):JZ D v:=by
 cases v<;>simp only[JZ]<;>(try exact DH h)
 case agg l=>cases h with
  | agg hl a=>exact wV (l':=_) ⟨hl,a⟩
 case tuple l=>cases h with
  | tuple hl a=>exact wV (l':=_) ⟨hl,a⟩
def QdS (c:FR M φ a N) (g:∀val,VR M v val->VR M d val) (h:φ.get b=some v) (f:φ.put b (some d)=some φ'):FR M φ' a N:=by
 refine⟨λx u t=>?_,c.size,c.defers⟩;rw[T.dU _ _ _ _ f x] at t;by_cases e:x=b
 ·subst e;rw[Zac rfl] at t;cases t;exact g _ (c.at_ x v h)
 ·rw[Zaa e] at t;exact c.at_ x u t
def Xw (c:FR M φ a N) (f:Le M M') (i:∀val,VR M v val->VR M' d val) (h:φ.get b=some v) (g:φ.put b (some d)=some φ'):FR M' φ' a N:=by
 refine⟨λx u t=>?_,c.size,c.defers⟩;rw[T.dU _ _ _ _ g x] at t;by_cases e:x=b
 ·subst e;rw[Zac rfl] at t;cases t;exact i _ (c.at_ x v h)
 ·rw[Zaa e] at t;exact(c.at_ x u t).mono f
theorem cL.same {u o1:AO D.E} {l:MI} (d:ey M H0 w) (I:H0 b=some u) (J:M.pl b=some l) (K:OR M o1 l w) (hw:o1.wr=u.wr) (q:∀j,o1.s6 l j->u.s6 l j) (C:∀c xs e,o1≠.arr c xs e true) (lo:Nat):
  cL H0 M w (iY H0 b (some o1)) M w lo lo:=by
 have a:∀c o,iY H0 b (some o1) c=some o->∃g,H0 c=some g/\o.wr=g.wr/\(∀m,M.pl c=some m->∀j,o.s6 m j->g.s6 m j):=λc o h=>by
  grind [iY]
 refine⟨⟨λc o h=>?_,λc v o g m F h y e x r H A=>?_,d.gE,λc o m h hw e i j B=>?_,λc k xs e m h n t=>?_,⟨d.ml.1,λc o m h hw e i=>?_⟩⟩,λ_ _=>rfl,λ_ _ _ h=>h,λ_ _ h=>.inl h,Zah _,λ_ _ _=>rfl,λc o m h e i=>?_,λc h=>?_,rfl,rfl,rfl,Zah _⟩
 ·unfold iY at h;split at h
  ·grind
  ·exact d.obj c o h
 ·obtain⟨p,f,_⟩:=a c o h;obtain⟨G,s,_⟩:=a v g y;exact d.inj c v p G m F f s e x r H A
 ·obtain⟨p,f,h1,z⟩:=a c o h;exact d.sep c p m f (by grind) e i j (z m e j B)
 ·unfold iY at h;split at h
  ·grind
  ·exact d.J2 c k xs e m h n t
 ·obtain⟨p,f,h1,_⟩:=a c o h;exact d.ml.2 c p m f (by grind) e i
 ·grind
 ·grind [iY]
theorem P7 {o n:Nat} (h:(Gp D b o n s).H s') (g:ey M s.h.get w):cL s.h.get M w s'.h.get M w s.nx s'.nx:=by
 obtain⟨a,h1,d⟩:=af.1 (show(av (cE (s.h.get b)) _).H s' from h);cases a with
 | cells cs e ro=>
  obtain⟨v,t,x⟩:=af.1 d;obtain⟨E,f,y⟩:=af.1 x;obtain⟨A,B⟩:=kI y;have j:=bu.1 h1;have l:=bu.1 t;rw[fe] at l;obtain⟨F,z,k,C,r,k1,k2,k3,k4,k5⟩:=g.obj b _ j;rw[A,B];refine cL.same (o1:=.cells (cA cs o E) e ro) g j z ⟨⟨k.1,k.2.1,by grind [mC]⟩,C,r,k1,k2,by grind [mC],λi u hu=>?_,k5⟩ rfl (λ_ h=>h) (λ_ _ _ h=>by cases h) _;unfold cA at hu;rw[List.getElem?_set] at hu;split at hu
  ·rename_i q
   subst q;split at hu
   ·cases hu;obtain⟨m,p,a2⟩:=k4 _ v l;refine⟨m,p,?_⟩;cases v<;>simp only[Dd] at f<;>(try (cases ai.1 f;exact a2));exact wU f M m a2
   ·cases hu
  ·grind
 | arr c xs e ro=>exact(d:False).elim
 | tok c e=>exact(d:False).elim
theorem P8 (m:aP D) {h:Hint} (f:(zC D h s φ).H (s',φ')) (c:F8 H0 M0 w0 base N s φ M a w):∃g,F8 H0 M0 w0 base N s' φ' g a w:=by
 cases h with
 | lock t=>
  obtain⟨v,h1,d⟩:=af.1 (show(av (cE (φ.get t)) λv=>aI (J0 D s v) λv s=>av (cE (φ.put t (some v))) λφ=>.ret (s,φ)).H (s',φ') from f);obtain⟨r,q,e,i⟩:=bh.1 d;obtain⟨l,j,k⟩:=af.1 i;cases ai.1 k;obtain⟨g,g1,g2⟩:=P5 m e c.gn;exact⟨g,c.step g1 (Xw c.fr (g1.Le c.tf.fresh) g2 (bu.1 h1) (bu.1 j))⟩
 | Xf t n=>
  obtain⟨v,h1,d⟩:=af.1 (show(av (cE (φ.get t)) λv=>av (Dd D v n) λv=>av (cE (φ.put t (some v))) λφ=>.ret (s,φ)).H (s',φ') from f);obtain⟨r,e,i⟩:=af.1 d;obtain⟨l,j,k⟩:=af.1 i;cases ai.1 k;refine⟨M,c.step (.refl c.gn _) (QdS c.fr (λval p=>?_) (bu.1 h1) (bu.1 j))⟩;cases v<;>simp only[Dd] at e<;>(try (cases ai.1 e;exact p));grind [wU]
 | fact t=>
  cases ai.1 (show(C.ret (s,φ)).H (s',φ') from f);grind
 | tZ b o n=>
  obtain⟨q,h1,d⟩:=af.1 (show(av (Gp D b o n s) λs=>.ret (s,φ)).H (s',φ') from f);cases ai.1 d;exact⟨M,c.step (P7 h1 c.gn) c.fr⟩
theorem tc (j:aP D) {K:St D.E->T (AV D.E)->Prop}:∀{l:List (Nat×Hint)} {s:St D.E} {φ:T (AV D.E)} {M:Pm D},oN D l b s φ K->F8 H0 M0 w0 base N s φ M a w->∃r f u,K r f/\F8 H0 M0 w0 base N r f u a w
 | [],s,φ,M,h,e=>⟨s,φ,M,h,e⟩
 | p::l,s,φ,M,h,e=>by
  have c:cond (Nat.beq p.1 b) (Qbw D p.2 φ ((zC D p.2 s φ).wp λq=>oN D l b q.1 q.2 K)) (oN D l b s φ K):=h;cases m:Nat.beq p.1 b with
  | false=>rw[m] at c;exact tc j c e
  | true=>
   rw[m] at c;have x:(zC D p.2 s φ).wp λq=>oN D l b q.1 q.2 K:=by
    cases g:p.2 with
    | fact t=>
     rw[g] at c;have d:Option.rec (motive:=λ_=>Prop) ((zC D (.fact t) s φ).wp λq=>oN D l b q.1 q.2 K) (λv=>JZ D v->(zC D (.fact t) s φ).wp λq=>oN D l b q.1 q.2 K) (φ.get t):=c;cases k:φ.get t with
     | none=>rw[k] at d;exact d
     | some v=>rw[k] at d;exact d (P6 (e.fr.at_ t v k))
    | lock t=>rw[g] at c;exact c
    | Xf t n=>rw[g] at c;exact c
    | tZ id o n=>rw[g] at c;exact c
   obtain⟨⟨B,z⟩,d,y⟩:=fX x;obtain⟨A,i⟩:=P8 j d e;exact tc j y i
theorem DI:∀{l:List (Nat×AO D.E)} {h a:T (AO D.E)},(Mb D l h).H a->∀b,a.get b=match ch l b with
  | some o=>some o
  | none=>h.get b
 | [],h,a,c,b=>by cases ai.1 (show(C.ret h).H a from c);rfl
 | (t,o)::l,h,a,c,b=>by
  obtain⟨h1,g1,g2⟩:=af.1 (show(av (Mb D l h) λh=>cE (h.put t (some o))).H a from c);have d:=DI g1 b;grind [T.dU,bu,fj]
theorem wW {a:T (AO D.E)} (c:(Mb D l .nil).H a):a.get=λb=>ch l b:=by
 grind [DI,T.get_nil]
theorem Mr:(∀t o,ch l t=some o->t<base->dT (fixed D base l) t=some t)/\∀t b,dT (fixed D base l) t=some b->b=t:=by
 induction l with
 | nil=>exact⟨λt o h=>(by cases(show none=some o from h)),λt b h=>(by cases(show none=some b from h))⟩
 | cons p l a=>
  grind [fixed,jf,fj,De]
theorem Kj:∀{l:List Nat} {b:List (AV D.E)},(wx D φ l).H b->FR M φ a N->LR M b (l.map λt=>a.tmps.getD t Go.undef)
 | [],b,h,_=>by cases ai.1 (show(C.ret []).H b from h);exact .nil
 | t::l,b,h,hf=>by
  obtain⟨v,h1,c⟩:=af.1 (show(av (cE (φ.get t)) λv=>av (wx D φ l) λr=>.ret (v::r)).H b from h);obtain⟨r,d,e⟩:=af.1 c;cases ai.1 e;exact .cons (hf.at_ t v (bu.1 h1)) (Kj d hf)
theorem wX:∀{l:List Nat} {b:List (AV D.E)} {φ a:T (AV D.E)},(Xh D b l φ).H a->b.length>=l.length/\∀t v,a.get t=some v->φ.get t=some v\/∃i:Nat,l[i]?=some t/\b[i]?=some v
 | [],b,φ,a,h=>by cases ai.1 (show(C.ret φ).H a from h);exact⟨by simp,λt v h=>.inl h⟩
 | x::l,[],φ,a,h=>(h:False).elim
 | x::l,u::b,φ,a,h=>by
  obtain⟨j,h1,d⟩:=af.1 (show(av (cE (φ.put x (some u))) λφ=>Xh D b l φ).H a from h);obtain⟨m,g⟩:=wX d;refine⟨by grind,λt v f=>?_⟩;rcases g t v f with c | ⟨i,c,k⟩
  ·rw[T.dU _ _ _ _ (bu.1 h1) t] at c;by_cases e:t=x
   ·rw[Zac e] at c;cases c;exact .inr ⟨0,by grind,rfl⟩
   ·grind
  ·exact .inr ⟨i+1,by assumption,by assumption⟩
theorem wY (hD:aP D) {L:gP D} {x:L.X} {y:List (AV D.E)} {kp:List (Nat×AO D.E)} {u:Unit} {sh:St D.E} {p:T (AV D.E)} (k:(t_ D base L x y kp s φ).H u) (hs:(J1 D base L x y kp).H (sh,p)) (hkv:y.length=L.aH.length) (f:F8 H0 M0 w0 base N s φ M a w):
  ∃Q,F8 H0 M0 w0 base N sh p Q a w:=by
 obtain⟨QwF,h1,S⟩:=af.1 k;obtain⟨⟨s1,r⟩,O,_⟩:=af.1 S;rw[fE] at h1;rw[fE,fE] at O;obtain⟨φ1,U,V⟩:=af.1 hs;obtain⟨φ2,W,Y⟩:=af.1 V;obtain⟨h,P,Z⟩:=af.1 Y;obtain⟨B,C⟩:=bm.1 Z;obtain⟨F,j⟩:=l4 B;cases ai.1 C;rw[fE] at P j;obtain⟨R,f2⟩:=Mr (D:=D) (base:=base) (l:=kp++L.pc x);have m:=BO hD (λt t' b e e'=>by grind) O;obtain⟨A,g1,g2,g3,g4⟩:=m.sem M w f.gn f.tf.fresh;have c:F8 H0 M0 w0 base N s1 φ A a w:=f.step g1 (f.fr.mono (g1.Le f.tf.fresh));have hl:=g2 _ (Kj h1 f.fr);refine⟨rl r A,by grind [wW],⟨λt v hv=>?_,f.fr.size,f.fr.defers⟩,λt ht=>?_,⟨c.DG.J3,c.DG.lJ,c.DG.size,c.DG.aH,λt o z q k hr=>?_,c.DG.os,c.DG.tape,c.DG.output⟩,λt z ht k=>?_,b9.1 F⟩
 ·obtain⟨p1,p2⟩:=wX U;obtain⟨p3,p4⟩:=wX W;have G:∃i:Nat,(L.aH++QdF (L.sl x))[i]?=some t/\(y++QdG (L.sl x))[i]?=some v:=by
   rcases p4 t v hv with e | ⟨i,d,e2⟩
   ·rcases p2 t v e with e | ⟨i,d,e2⟩
    ·grind [T.get_nil]
    ·exact⟨i,by grind,by grind⟩
   ·exact⟨L.aH.length+i,by grind,by grind⟩
  obtain⟨i,d,e2⟩:=G;obtain⟨v',g,K⟩:=hl.get e2;grind
 ·cases hq:(rl r A).pl t with
  | none=>rfl
  | some z=>
   obtain⟨b,d,e2⟩:=fU hq;obtain⟨J,I,n,g,_⟩:=g4 t b d;have:=DF j g;grind
 ·have q:h.get t=some o:=q;rw[wW P] at q;obtain⟨b,d,e2⟩:=fU k;obtain⟨J,I,n,g,K,e5,e6,_⟩:=g4 t b d;rw[show ch (kp++L.pc x) t=some o from q] at g;cases g;rcases c.DG.born b I z K e2 hr with e7 | ⟨b0,o0,rA,i1,i2,i3,i4,i5⟩
  ·omega
  ·grind
 ·obtain⟨b,d,e2⟩:=fU k;obtain⟨J,I,n,g,_⟩:=g4 t b d;have:=m.ext t t (R t J g ht);rw[d] at this;cases this;exact c.per t z ht e2
end
end sx
end Go.Proofs.YtadfknojfbmjgaaGreat
