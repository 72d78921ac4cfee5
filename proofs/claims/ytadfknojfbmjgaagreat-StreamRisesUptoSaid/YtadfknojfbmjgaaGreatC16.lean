/- StreamRises: a part of the proof. -/
import Derived.Test.YtadfknojfbmjgaaGreatC15
set_option linter.all false
namespace Go.Proofs.YtadfknojfbmjgaaGreat
set_option maxRecDepth 100000
set_option maxHeartbeats 4000000
namespace sx
noncomputable section
open Go Go.RowKit cls syn
variable {G:List Gt} {s:Ps} {i:Nat} {y:PS} {l:List Rg}
def HA (y:(List (Int×Int))×bO):Prop:=let k:=(y.1.length:Int);let b:=an .i64 y.2.i 1;let f:=(dZ y.1 (nn y.2)).1;let o:=an .i64 b 1;let q:=eD y.1 b.toNat;let l:=((f.ae:Nat):Int);let m:=((f.opens:Nat):Int);let n:=((f.i:Nat):Int);let r:=aC (ab y.1) b;let j:=bO.mk b y.2.opens y.2.ae y.2.err y.2.wh;let a:=(gt (0,0) y.1 b.toNat).1;let h:=bO.mk o y.2.opens y.2.ae y.2.err y.2.wh;let c:=Ps.ak y.1 (nn j) y.2.i.toNat 4;let d:=Ps.ak y.1 (nn j) b.toNat 4;let e:=Ps.ak y.1 (nn h) y.2.i.toNat 4;let g:=λp:Prop=>aa [y.1] (aa [bC y.1] p);aa [b] (aa [y.1] (ag r (Iv (bj (y.1,j)/\0<=y.2.i/\y.2.i<k)/\aa ([y.2.i,4]:List Int) (aa [y.1] (aa [bC y.1] (aa [b,y.2.opens,y.2.ae,y.2.err,y.2.wh] (false=false/\g (((c.i:Nat):Int)=n/\((c.opens:Nat):Int)=m/\((c.ae:Nat):Int)=l/\c.err=f.err/\c.wh=f.wh/\True)))))) (Iv (bj (y.1,j)/\0<=b/\b<k)/\aa [b] (aa [y.1] (aa [bC y.1] (aa [b,y.2.opens,y.2.ae,y.2.err,y.2.wh] (ag q (Iv (bj (y.1,j)/\0<=b/\b<k)/\aa ([b,4]:List Int) (aa [y.1] (aa [bC y.1] (aa [b,y.2.opens,y.2.ae,y.2.err,y.2.wh] (false=false/\g (((d.i:Nat):Int)=n/\((d.opens:Nat):Int)=m/\((d.ae:Nat):Int)=l/\d.err=f.err/\d.wh=f.wh/\True)))))) (aC 0 b/\ax b (ab y.1)/\aa [y.1] (aa [b,a] (ag (az a 110) (Iv True/\aa ([10]:List Int) (False)) (ag (az a 116) (Iv True/\aa ([9]:List Int) (False)) (ag (az a 114) (Iv True/\aa ([13]:List Int) (False)) (ag (az a 100) (Iv (1<=100000000)/\aa ([[(48,57)]]:List (List (Int×Int))) (False)) (ag (az a 115) (Iv (3<=100000000)/\aa ([[(9,10),(13,13),(32,32)]]:List (List (Int×Int))) (False)) (ag (az a 119) (Iv (4<=100000000)/\aa ([[(48,57),(65,90),(95,95),(97,122)]]:List (List (Int×Int))) (False)) (Iv True/\aa [a] (ag (!(ic a)) (Iv (bj (y.1,h)/\0<=y.2.i/\y.2.i<k)/\aa ([y.2.i,4]:List Int) (aa [y.1] (aa [bC y.1] (aa [o,y.2.opens,y.2.ae,y.2.err,y.2.wh] (false=false/\g (((e.i:Nat):Int)=n/\((e.opens:Nat):Int)=m/\((e.ae:Nat):Int)=l/\e.err=f.err/\e.wh=f.wh/\True)))))) (Iv True/\aa [a] (False)))))))))))))))))))
def R':∀y,HA y=QiH y:=λy=>by kernel_rfl
def HB (y:(List (Int×Int))×bO):Prop:=let m:=(y.1.length:Int);let b:=dZ y.1 (nn y.2);let c:=an .i64 y.2.i 1;let r:=an .i64 c 1;let s:=eD y.1 c.toNat;let n:=((b.1.ae:Nat):Int);let j:=b.2.1;let o:=((b.1.i:Nat):Int);let q:=((b.1.opens:Nat):Int);let t:=aC (ab y.1) c;let e:=bO.mk c y.2.opens y.2.ae y.2.err y.2.wh;let a:=(gt (0,0) y.1 c.toNat).1;let l:=bO.mk r y.2.opens y.2.ae y.2.err y.2.wh;let f:=Ps.ak y.1 (nn e) y.2.i.toNat 4;let g:=Ps.ak y.1 (nn l) y.2.i.toNat 4;let h:=Ps.ak y.1 (nn e) c.toNat 4;let k:=λp:Prop=>aa [y.1] (aa [bC y.1] p);let d:Prop:=(k (r=o/\y.2.opens=q/\y.2.ae=n/\y.2.err=b.1.err/\y.2.wh=b.1.wh/\True));aa [c] (aa [y.1] (ag t (Iv (bj (y.1,e)/\0<=y.2.i/\y.2.i<m)/\aa ([y.2.i,4]:List Int) (aa [y.1] (aa [bC y.1] (aa [c,y.2.opens,y.2.ae,y.2.err,y.2.wh] ([]=j/\false=b.2.2/\k (((f.i:Nat):Int)=o/\((f.opens:Nat):Int)=q/\((f.ae:Nat):Int)=n/\f.err=b.1.err/\f.wh=b.1.wh/\True)))))) (Iv (bj (y.1,e)/\0<=c/\c<m)/\aa [c] (aa [y.1] (aa [bC y.1] (aa [c,y.2.opens,y.2.ae,y.2.err,y.2.wh] (ag s (Iv (bj (y.1,e)/\0<=c/\c<m)/\aa ([c,4]:List Int) (aa [y.1] (aa [bC y.1] (aa [c,y.2.opens,y.2.ae,y.2.err,y.2.wh] ([]=j/\false=b.2.2/\k (((h.i:Nat):Int)=o/\((h.opens:Nat):Int)=q/\((h.ae:Nat):Int)=n/\h.err=b.1.err/\h.wh=b.1.wh/\True)))))) (aC 0 c/\ax c (ab y.1)/\aa [y.1] (aa [c,a] (ag (az a 110) (Iv True/\aa ([10]:List Int) (eh 10=j/\true=b.2.2/\d)) (ag (az a 116) (Iv True/\aa ([9]:List Int) (eh 9=j/\true=b.2.2/\d)) (ag (az a 114) (Iv True/\aa ([13]:List Int) (eh 13=j/\true=b.2.2/\d)) (ag (az a 100) (Iv (1<=100000000)/\aa ([[(48,57)]]:List (List (Int×Int))) (aL [(48,57)]=j/\false=b.2.2/\d)) (ag (az a 115) (Iv (3<=100000000)/\aa ([[(9,10),(13,13),(32,32)]]:List (List (Int×Int))) (aL [(9,10),(13,13),(32,32)]=j/\false=b.2.2/\d)) (ag (az a 119) (Iv (4<=100000000)/\aa ([[(48,57),(65,90),(95,95),(97,122)]]:List (List (Int×Int))) (aL [(48,57),(65,90),(95,95),(97,122)]=j/\false=b.2.2/\d)) (Iv True/\aa [a] (ag (!(ic a)) (Iv (bj (y.1,l)/\0<=y.2.i/\y.2.i<m)/\aa ([y.2.i,4]:List Int) (aa [y.1] (aa [bC y.1] (aa [r,y.2.opens,y.2.ae,y.2.err,y.2.wh] ([]=j/\false=b.2.2/\k (((g.i:Nat):Int)=o/\((g.opens:Nat):Int)=q/\((g.ae:Nat):Int)=n/\g.err=b.1.err/\g.wh=b.1.wh/\True)))))) (Iv True/\aa [a] (eh a=j/\true=b.2.2/\d)))))))))))))))))))
def R_:∀y,HB y=QiI y:=λy=>by kernel_rfl
def HC (y:(List (Int×Int))×bO):Prop:=let h:=y.2.i.toNat;let b:=(y.1,y.2);let f:=(dZ y.1 (nn y.2)).1;let a:=(bP y.1 (nn y.2)).1;let j:=((a.opens:Nat):Int);let k:=((a.ae:Nat):Int);let l:=((a.i:Nat):Int);let g:=Ps.ak y.1 (nn y.2) h 4;let d:=(gt (0,0) y.1 h).1;let m:=λp:Prop=>aa [y.1] (aa [bC y.1] (aa [y.2.i,y.2.opens,y.2.ae,y.2.err,y.2.wh] p));let e:=λp:Prop=>aa [y.1] (aa [bC y.1] p);let c:Prop:=(false=false/\e (y.2.i=l/\y.2.opens=j/\y.2.ae=k/\y.2.err=a.err/\y.2.wh=a.wh/\True));Iv (bj b/\0<=y.2.i/\y.2.i<(y.1.length:Int))/\aa [y.2.i] (aa [y.1] (aa [bC y.1] (aa [y.2.i,y.2.opens,y.2.ae,y.2.err,y.2.wh] (ag (eD y.1 h) (Iv (bj b/\0<=y.2.i/\y.2.i<(y.1.length:Int))/\aa ([y.2.i,4]:List Int) (aa [y.1] (aa [bC y.1] (aa [y.2.i,y.2.opens,y.2.ae,y.2.err,y.2.wh] (false=false/\e (((g.i:Nat):Int)=l/\((g.opens:Nat):Int)=j/\((g.ae:Nat):Int)=k/\g.err=a.err/\g.wh=a.wh/\True)))))) (aC 0 y.2.i/\ax y.2.i (ab y.1)/\aa [y.1] (aa [y.2.i,d] (ag (az d 92) (ag (B_ b) (Iv (bj b/\Ev (b,true))/\m (false=false/\e (((f.i:Nat):Int)=l/\((f.opens:Nat):Int)=j/\((f.ae:Nat):Int)=k/\f.err=a.err/\f.wh=a.wh/\True))) (Iv (bj b/\Ev (b,false))/\m (False))) (ag (az d 91) (ag (az d 91) (c) (False)) (ag (az d 93) (ag (az d 93) (c) (False)) (ag (az d 45) (c) (False)))))))))))
def Sa:∀y,HC y=QiJ y:=λy=>by kernel_rfl
def HD (y:(List (Int×Int))×bO):Prop:=let m:=y.2.i.toNat;let d:=dZ y.1 (nn y.2);let a:=bP y.1 (nn y.2);let g:=(y.1,y.2);let n:=((a.1.ae:Nat):Int);let o:=((a.1.opens:Nat):Int);let l:=((a.1.i:Nat):Int);let k:=Ps.ak y.1 (nn y.2) m 4;let b:=(gt (0,0) y.1 m).1;let q:=λp:Prop=>aa [y.1] (aa [bC y.1] (aa [y.2.i,y.2.opens,y.2.ae,y.2.err,y.2.wh] p));let c:=λp:Prop=>aa [y.1] (aa [bC y.1] p);let h:Prop:=(y.2.opens=o/\y.2.ae=n/\y.2.err=a.1.err/\y.2.wh=a.1.wh/\True);let e:Prop:=([]=a.2.1/\false=a.2.2/\c (y.2.i=l/\h));let j:Prop:=(c (((d.1.i:Nat):Int)=l/\((d.1.opens:Nat):Int)=o/\((d.1.ae:Nat):Int)=n/\d.1.err=a.1.err/\d.1.wh=a.1.wh/\True));let f:Prop:=(([(b,b)]:List (Int×Int))=a.2.1/\true=a.2.2/\c (an .i64 y.2.i 1=l/\h));Iv (bj g/\0<=y.2.i/\y.2.i<(y.1.length:Int))/\aa [y.2.i] (aa [y.1] (aa [bC y.1] (aa [y.2.i,y.2.opens,y.2.ae,y.2.err,y.2.wh] (ag (eD y.1 m) (Iv (bj g/\0<=y.2.i/\y.2.i<(y.1.length:Int))/\aa ([y.2.i,4]:List Int) (aa [y.1] (aa [bC y.1] (aa [y.2.i,y.2.opens,y.2.ae,y.2.err,y.2.wh] ([]=a.2.1/\false=a.2.2/\c (((k.i:Nat):Int)=l/\((k.opens:Nat):Int)=o/\((k.ae:Nat):Int)=n/\k.err=a.1.err/\k.wh=a.1.wh/\True)))))) (aC 0 y.2.i/\ax y.2.i (ab y.1)/\aa [y.1] (aa [y.2.i,b] (ag (az b 92) (ag (B_ g) (Iv (bj g/\Ev (g,true))/\q ([]=a.2.1/\false=a.2.2/\j)) (Iv (bj g/\Ev (g,false))/\q (d.2.1=a.2.1/\d.2.2=a.2.2/\j))) (ag (az b 91) (ag (az b 91) (e) (f)) (ag (az b 93) (ag (az b 93) (e) (f)) (ag (az b 45) (e) (f)))))))))))
def Sb:∀y,HD y=QiK y:=λy=>by kernel_rfl
theorem ss {s:bO} (h:0<=s.i):nn ⟨s.i+1,s.opens,s.ae,s.err,s.wh⟩=(nn s).next:=by
 unfold nn Ps.next;grind
theorem KL (a:Fx G) (b:Nat) (hi:i<G.length) (c:ic (aD G i)\/aD G i=110\/aD G i=116\/aD G i=114\/aD G i=100\/aD G i=115\/aD G i=119) (hw:aL [(48,57),(65,90),(95,95),(97,122)]≠[]):(mI G s b (aD G i)).2.1≠[]:=by
 unfold mI
 repeat' split
 ·rw[a.n];simp
 ·rw[a.t];simp
 ·rw[a.r];simp
 ·rw[a.d];simp
 ·exact a.s0
 ·exact hw
 ·rw[a.one i hi];simp
 ·grind
theorem tu (h:G.length<=s.i+1):dZ G s=(s.next.ak G s.i 4,[],false):=Zac h
theorem tv (h:s.i+1<G.length) (a:eD G (s.i+1)):dZ G s=(s.next.ak G (s.i+1) 4,[],false):=(Zaa (show ¬G.length<=s.next.i from Nat.not_le.2 h)).trans (Zac a)
theorem xE (h:s.i+1<G.length) (a:eD G (s.i+1)=false):dZ G s=mI G s.next.next s.i (aD G (s.i+1)):=(Zaa (show ¬G.length<=s.next.i from Nat.not_le.2 h)).trans (Zaa (show ¬eD G s.next.i=true by simp_all))
theorem QiL (y:PS) (n:y_.pre (y,false)):HB y:=by
 obtain⟨h0,hi,hk⟩:=n;have h0:bj y:=h0;have hi:y.2.i<y.1.length:=hi;obtain⟨c,a2,a3,a4,d⟩:=id h0;have g:an IntKind.i64 y.2.i 1=y.2.i+1:=aV ω ω;have l:an IntKind.i64 (y.2.i+1) 1=y.2.i+1+1:=aV ω ω;have j:(y.2.i+1).toNat=(nn y.2).i+1:=by show _=y.2.i.toNat+1;omega
 have f:y.2.i.toNat=(nn y.2).i:=rfl;have m:=ss (s:=y.2) a2.1;have a:=ss (s:=⟨y.2.i+1,y.2.opens,y.2.ae,y.2.err,y.2.wh⟩) (show 0<=y.2.i+1 by omega);unfold HB;simp only[QaU,Qbt,g,l,j,f,m,a,aj,gt,Zan,Zao];have o:(y.2.i+1<=y.1.length)->bj (y.1,⟨y.2.i+1,y.2.opens,y.2.ae,y.2.err,y.2.wh⟩):=λh=>⟨c,⟨show 0<=y.2.i+1 by omega,h⟩,a3,a4,d⟩
 have zi:y.2.i+1+1=((nn y.2).next.next.i:Int):=by show _=((y.2.i.toNat+1+1:Nat):Int);omega
 have zo:y.2.opens=((nn y.2).next.next.opens:Int):=by show _=((y.2.opens.toNat:Nat):Int);omega
 have zg:y.2.ae=((nn y.2).next.next.ae:Int):=by show _=((y.2.ae.toNat:Nat):Int);omega
 have p:(nn y.2).i=y.2.i.toNat:=rfl;refine⟨λh=>?_,λh=>⟨⟨o ω,ω,h⟩,λe=>?_,λe=>⟨ω,h,?_⟩⟩⟩
 ·grind [tu]
 ·grind [tv]
 ·rw[xE ω e];have b:(y.1.getD ((nn y.2).i+1) (0,0)).1=aD y.1 ((nn y.2).i+1):=rfl;rw[b];generalize aD y.1 ((nn y.2).i+1)=r;unfold mI;refine⟨λk=>by rw[Zac k];exact⟨⟨trivial⟩,rfl,rfl,zi,zo,zg,rfl,rfl⟩,λk=>?_⟩;rw[Zaa k];refine⟨λk=>by rw[Zac k];exact⟨⟨trivial⟩,rfl,rfl,zi,zo,zg,rfl,rfl⟩,λk=>?_⟩;rw[Zaa k];refine⟨λk=>by rw[Zac k];exact⟨⟨trivial⟩,rfl,rfl,zi,zo,zg,rfl,rfl⟩,λk=>?_⟩;rw[Zaa k];refine⟨λk=>by rw[Zac k];exact⟨⟨ω⟩,rfl,rfl,zi,zo,zg,rfl,rfl⟩,λk=>?_⟩;rw[Zaa k];refine⟨λk=>by rw[Zac k];exact⟨⟨ω⟩,rfl,rfl,zi,zo,zg,rfl,rfl⟩,λk=>?_⟩;rw[Zaa k];refine⟨λk=>by rw[Zac k];exact⟨⟨ω⟩,rfl,rfl,zi,zo,zg,rfl,rfl⟩,λk=>?_⟩;rw[Zaa k];refine⟨⟨trivial⟩,λk=>?_,λk=>?_⟩
  ·rw[Zaa (by grind)];exact⟨⟨⟨c,⟨show 0<=y.2.i+1+1 by omega,show y.2.i+1+1<=(y.1.length:Int) by omega⟩,a3,a4,d⟩,a2.1,hi⟩,rfl,rfl,rfl,rfl,rfl,rfl,rfl⟩
  ·rw[Zac k];exact⟨⟨trivial⟩,rfl,rfl,zi,zo,zg,rfl,rfl⟩
theorem QiM (y:PS) (n:y_.pre (y,true)):HA y:=by
 obtain⟨h0,hi,hk⟩:=n;have h0:bj y:=h0;have hi:y.2.i<y.1.length:=hi;obtain⟨d,a2,a3,a4,a⟩:=id h0;have g:an IntKind.i64 y.2.i 1=y.2.i+1:=aV ω ω;have l:an IntKind.i64 (y.2.i+1) 1=y.2.i+1+1:=aV ω ω;have j:(y.2.i+1).toNat=(nn y.2).i+1:=by show _=y.2.i.toNat+1;omega
 have f:y.2.i.toNat=(nn y.2).i:=rfl;have m:=ss (s:=y.2) a2.1;have b:=ss (s:=⟨y.2.i+1,y.2.opens,y.2.ae,y.2.err,y.2.wh⟩) (show 0<=y.2.i+1 by omega);unfold HA;simp only[QaU,Qbt,g,l,j,f,m,b,aj,gt,Zan,Zao];have o:(y.2.i+1<=y.1.length)->bj (y.1,⟨y.2.i+1,y.2.opens,y.2.ae,y.2.err,y.2.wh⟩):=λh=>⟨d,⟨show 0<=y.2.i+1 by omega,h⟩,a3,a4,a⟩
 have zi:y.2.i+1+1=((nn y.2).next.next.i:Int):=by show _=((y.2.i.toNat+1+1:Nat):Int);omega
 have zo:y.2.opens=((nn y.2).next.next.opens:Int):=by show _=((y.2.opens.toNat:Nat):Int);omega
 have zg:y.2.ae=((nn y.2).next.next.ae:Int):=by show _=((y.2.ae.toNat:Nat):Int);omega
 have p:(nn y.2).i=y.2.i.toNat:=rfl;refine⟨λh=>?_,λh=>⟨⟨o ω,ω,h⟩,λe=>?_,λe=>⟨ω,h,?_⟩⟩⟩
 ·grind [tu]
 ·grind [tv]
 ·have hk:(dZ y.1 (nn y.2)).2.1=[]:=ZaH hk.symm;rw[xE ω e] at hk ⊢;have no:=λh=>KL a (s:=(nn y.2).next.next) (nn y.2).i (i:=(nn y.2).i+1) ω h a.w0 hk
  have c:(y.1.getD ((nn y.2).i+1) (0,0)).1=aD y.1 ((nn y.2).i+1):=rfl;rw[c];refine⟨λk=>(no (.inr (.inl k))).elim,λk1=>⟨λk=>(no (.inr (.inr (.inl k)))).elim,λk2=>⟨λk=>(no (.inr (.inr (.inr (.inl k))))).elim,λk3=>⟨λk=>(no (.inr (.inr (.inr (.inr (.inl k)))))).elim,λk4=>⟨λk=>(no (.inr (.inr (.inr (.inr (.inr (.inl k))))))).elim,λk5=>⟨λk=>(no (.inr (.inr (.inr (.inr (.inr (.inr k))))))).elim,λk6=>⟨⟨trivial⟩,λk=>?_,λk=>(no (.inl k)).elim⟩⟩⟩⟩⟩⟩⟩;unfold mI;rw[Zaa k1,Zaa k2,Zaa k3,Zaa k4,Zaa k5,Zaa k6,Zaa (by grind)];exact⟨⟨⟨d,⟨show 0<=y.2.i+1+1 by omega,show y.2.i+1+1<=(y.1.length:Int) by omega⟩,a3,a4,a⟩,a2.1,hi⟩,trivial,rfl,rfl,rfl,rfl,rfl⟩
def uR {k:bf D} {X:Type} {fn:Func} {tab:vE} {a:k.Y->cH D} (e:k.Y->X×Bool) (e2:X×Bool->k.Y) (l:∀y,e2 (e y)=y) {T F:X->Prop} (i:∀x,T x=vc tab fn k a (e2 (x,true))) (h:∀x,F x=vc tab fn k a (e2 (x,false))) (ht:WZ tab)
  (h1:∀x,k.pre (e2 (x,true))->T x) (g:∀x,k.pre (e2 (x,false))->F x) (d:Tryz.prog.funcs[k.f]?=some fn:=by kernel_rfl) (j:fn.body.isSome:=by kernel_rfl):Ok k:=
 okW (V:=λy=>vc tab fn k a y) (λ_=>rfl) ht (λy c=>by
  show vc tab fn k a y
  rw[<-l y] at c ⊢;generalize e y=p at c ⊢;obtain⟨x,b⟩:=p;cases b with
  | true=>rw[<-i];exact h1 x c
  | false=>rw[<-h];exact g x c) d j
def Qcj (a:Ok dc):Ok y_:=uR (k:=y_) id id (λ_=>rfl) R' R_ ⟨uw,R8,Qcg a,a,QiB⟩ QiM QiL
theorem xF (h:eD G s.i):bP G s=(s.ak G s.i 4,[],false):=Zac h
theorem mY (h:eD G s.i=false) (a:aD G s.i=92):bP G s=dZ G s:=(Zaa (by grind)).trans (Zac a)
theorem gy (h:eD G s.i=false) (h0:aD G s.i≠92) (a:aD G s.i=91\/aD G s.i=93\/aD G s.i=45):bP G s=(s,[],false):=(Zaa (by grind)).trans ((Zaa h0).trans (Zac a))
theorem xG (h:eD G s.i=false) (h0:aD G s.i≠92) (a:¬(aD G s.i=91\/aD G s.i=93\/aD G s.i=45)):bP G s=(s.next,[(aD G s.i,aD G s.i)],true):=(Zaa (by grind)).trans ((Zaa h0).trans (Zaa a))
theorem QiN (y:PS) (g:Hz.pre (y,false)):HD y:=by
 obtain⟨h0,hi,hk⟩:=g;have h0:bj y:=h0;have hi:y.2.i<y.1.length:=hi;have hk:false=xD y:=hk;obtain⟨j,a2,a3,a4,l⟩:=id h0;have f:an IntKind.i64 y.2.i 1=y.2.i+1:=aV ω ω;have d:y.2.i.toNat=(nn y.2).i:=rfl;have zi:y.2.i=((nn y.2).i:Int):=ω;have h:y.2.i+1=((nn y.2).next.i:Int):=by simp_all
 have zo:y.2.opens=((nn y.2).opens:Int):=by show _=((y.2.opens.toNat:Nat):Int);omega
 have zg:y.2.ae=((nn y.2).ae:Int):=by show _=((y.2.ae.toNat:Nat):Int);omega
 have c:(y.1.getD (nn y.2).i (0,0)).1=aD y.1 (nn y.2).i:=rfl;unfold HD;simp only[QaU,Qbt,f,d,c,aj,gt];refine⟨⟨h0,a2.1,hi⟩,λa=>?_,λa=>⟨a2.1,hi,λb=>⟨λq=>?_,λq=>?_⟩,λb=>?_⟩⟩
 ·grind [xF]
 ·grind [xD,B_,mY]
 ·rw[mY a b];exact⟨⟨h0,hi,q.symm⟩,rfl,rfl,rfl,rfl,rfl,rfl,rfl⟩
 ·refine⟨λk=>⟨λ_=>?_,λk2=>absurd k k2⟩,λk=>⟨λk2=>⟨λ_=>?_,λk3=>absurd k2 k3⟩,λk2=>⟨λk3=>?_,λk3=>?_⟩⟩⟩
  ·rw[gy a b (.inl k)];exact⟨rfl,rfl,zi,zo,zg,rfl,rfl⟩
  ·rw[gy a b (.inr (.inl k2))];exact⟨rfl,rfl,zi,zo,zg,rfl,rfl⟩
  ·rw[gy a b (.inr (.inr k3))];exact⟨rfl,rfl,zi,zo,zg,rfl,rfl⟩
  ·rw[xG a b (λe=>e.elim k λe=>e.elim k2 k3)];exact⟨rfl,rfl,h,zo,zg,rfl,rfl⟩
theorem QiO (y:PS) (e:Hz.pre (y,true)):HC y:=by
 obtain⟨h0,hi,hk⟩:=e;have h0:bj y:=h0;have hi:y.2.i<y.1.length:=hi;have hk:true=xD y:=hk;obtain⟨f,a2,a3,a4,g⟩:=id h0;have d:y.2.i.toNat=(nn y.2).i:=rfl;have zi:y.2.i=((nn y.2).i:Int):=ω;have zo:y.2.opens=((nn y.2).opens:Int):=by show _=((y.2.opens.toNat:Nat):Int);omega
 have zg:y.2.ae=((nn y.2).ae:Int):=by show _=((y.2.ae.toNat:Nat):Int);omega
 have c:(y.1.getD (nn y.2).i (0,0)).1=aD y.1 (nn y.2).i:=rfl;unfold HC;simp only[QaU,Qbt,Zal,d,c,aj,gt];refine⟨⟨h0,a2.1,hi⟩,λa=>?_,λa=>⟨a2.1,hi,λb=>⟨λq=>?_,λq=>?_⟩,λb=>?_⟩⟩
 ·grind [xF]
 ·rw[mY a b];exact⟨⟨h0,hi,q.symm⟩,rfl,rfl,rfl,rfl,rfl⟩
 ·grind [xD,B_,mY]
 ·refine⟨λk=>⟨λ_=>?_,λk2=>absurd k k2⟩,λk=>⟨λk2=>⟨λ_=>?_,λk3=>absurd k2 k3⟩,λk2=>⟨λk3=>?_,λk3=>?_⟩⟩⟩
  ·rw[gy a b (.inl k)];exact⟨zi,zo,zg,rfl,rfl⟩
  ·rw[gy a b (.inr (.inl k2))];exact⟨zi,zo,zg,rfl,rfl⟩
  ·rw[gy a b (.inr (.inr k3))];exact⟨zi,zo,zg,rfl,rfl⟩
  ·grind [xD,xG]
def QiP (a:Ok dc):Ok Hz:=uR (k:=Hz) id id (λ_=>rfl) Sa Sb ⟨uw,R8,Qcj a⟩ QiO QiN
def Gb (y:PS):Prop:=y.2.i<y.1.length
def Sc:bf D:=xB 187 PS (λy=>y) M6 Gb (λ_=>[]) (λy=>zz (d_ y.1 (nn y.2)).1) λy=>.list 6 (d_ y.1 (nn y.2)).2
def Sd (y:(List (Int×Int))×bO):Prop:=let U:=y.2.i.toNat;let b:=d_ y.1 (nn y.2);let d:=bP y.1 (nn y.2);let J:=(y.1,y.2);let B:=((b.1.ae:Nat):Int);let F:=((b.1.i:Nat):Int);let G:=((b.1.opens:Nat):Int);let O:=((d.1.opens:Nat):Int);let P:=((d.1.i:Nat):Int);let Q:=((d.1.ae:Nat):Int);let H:=!(az d.1.err 0);let g:=(gt (0,0) d.2.1 0).1;let m:=bO.mk P O Q d.1.err d.1.wh;let c:=aY y.1 (nn m) 45;let V:=!(aQ y.1 (nn m) 45);let r:=((c.ae:Nat):Int);let s:=((c.opens:Nat):Int);let h:=((c.i:Nat):Int);let n:=Ps.ak y.1 (nn m) U 4;let I:=az c.err 0;let W:=ax h (ab y.1);let v:=bO.mk h s r c.err c.wh;let a:=bP y.1 (nn v);let j:=(y.1,v);let w:=((a.1.i:Nat):Int);let x:=((a.1.opens:Nat):Int);let z:=((a.1.ae:Nat):Int);let k:=Ps.ak y.1 (nn v) U 4;let t:=az a.1.err 0;let l:=(gt (0,0) a.2.1 0).1;let A:=bO.mk w x z a.1.err a.1.wh;let e:=Ps.ak y.1 (nn A) U 4;let R:=λp:Prop=>aa ([y.2.i,4]:List Int) (aa [y.1] (aa [bC y.1] (aa [w,x,z,a.1.err,a.1.wh] p)));let f:=λp:Prop=>aa [y.1] (aa [bC y.1] p);let S:=λp:Prop=>aa [y.1] (aa [bC y.1] (aa [y.2.i,y.2.opens,y.2.ae,y.2.err,y.2.wh] p));let q:=λp:Prop=>aa [a.1.err] p;let T:=λp:Prop=>aa [y.1] (aa [bC y.1] (aa [h,s,r,c.err,c.wh] p));let u:Prop:=(0<=y.2.i/\(y.2.i<(y.1.length:Int)));let o:Prop:=(Tt 1 (ax 0 (ab d.2.1)/\False));let K:Prop:=(f (h=F/\s=G/\r=B/\c.err=b.1.err/\c.wh=b.1.wh/\True));let C:Prop:=(f (w=F/\x=G/\z=B/\a.1.err=b.1.err/\a.1.wh=b.1.wh/\True));let L:Prop:=(aa [c.err] (Iv (bj j/\u)/\aa ([y.2.i,4]:List Int) (aa [y.1] (aa [bC y.1] (aa [h,s,r,c.err,c.wh] (ag (!(az k.err 0)) ([]=b.2/\f (((k.i:Nat):Int)=F/\((k.opens:Nat):Int)=G/\((k.ae:Nat):Int)=B/\k.err=b.1.err/\k.wh=b.1.wh/\True)) (o)))))));let M:Prop:=(ag (!t) ([]=b.2/\C) (Tt 1 (ax 0 (ab d.2.1)/\Tt 1 (ax 0 (ab a.2.1)/\aa [g,l] (([(g,l)]:List (Int×Int))=b.2/\C)))));let D:Prop:=(f (((e.i:Nat):Int)=F/\((e.opens:Nat):Int)=G/\((e.ae:Nat):Int)=B/\e.err=b.1.err/\e.wh=b.1.wh/\True));let N:Prop:=(q (Iv (bj (y.1,A)/\u)/\R (ag (!(az e.err 0)) ([]=b.2/\D) (o))));let E:Prop:=(Iv (bj (y.1,A)/\u)/\R (ag (!(az e.err 0)) ([]=b.2/\D) (Tt 1 (ax 0 (ab d.2.1)/\Tt 1 (ax 0 (ab a.2.1)/\aa [g,l] (([(g,l)]:List (Int×Int))=b.2/\D))))));ag (xD J) (Iv (bj J/\M7 (J,true))/\S (ag H ([]=b.2/\f (P=F/\O=G/\Q=B/\d.1.err=b.1.err/\d.1.wh=b.1.wh/\True)) (Iv (bj (y.1,m)/\u)/\aa ([y.2.i,4]:List Int) (aa [y.1] (aa [bC y.1] (aa [P,O,Q,d.1.err,d.1.wh] ([]=b.2/\f (((n.i:Nat):Int)=F/\((n.opens:Nat):Int)=G/\((n.ae:Nat):Int)=B/\n.err=b.1.err/\n.wh=b.1.wh/\True)))))))) (Iv (bj J/\M7 (J,false))/\S (ag H ([]=b.2/\f (P=F/\O=G/\Q=B/\d.1.err=b.1.err/\d.1.wh=b.1.wh/\True)) (ax 0 (ab d.2.1)/\Iv (bj (y.1,m)/\True)/\aa ([45]:List Int) (aa [y.1] (aa [bC y.1] (aa [P,O,Q,d.1.err,d.1.wh] (ag V (d.2.1=b.2/\K) (aa [h] (aa [y.1] (ag W (ag (xD j) (Iv (bj j/\M7 (j,true))/\T (ag t (ag (!d.2.2) (N) (ag (!false) (N) (o))) (q (ag (!t) ([]=b.2/\C) (o))))) (Iv (bj j/\M7 (j,false))/\T (ag t (ag (!d.2.2) (q (E)) (ag (!a.2.2) (q (E)) (Tt 1 (ax 0 (ab d.2.1)/\Tt 1 (ax 0 (ab a.2.1)/\aa [a.1.err,g,l] (ag (ax l g) (E) (M))))))) (q (M))))) (ag I (ag (!d.2.2) (L) (L)) (aa [c.err] (ag (!I) ([]=b.2/\K) (o))))))))))))))
@[grind=] theorem ez (t:Ps):nn ⟨t.i,t.opens,t.ae,t.err,t.wh⟩=t:=rfl
def bj.adv (h:bj y):fW y.1 (nn y.2) (nn y.2):=by
 obtain⟨_,a,b,c,_⟩:=h;exact fW.refl (by show y.2.i.toNat<=_;omega) (by show y.2.ae.toNat<=_;omega)
theorem bj.of (h:bj y) (a:fW y.1 (nn y.2) s):bj (y.1,⟨s.i,s.opens,s.ae,s.err,s.wh⟩):=by
 obtain⟨h1,d,f,g,b⟩:=h;have e:s.opens=y.2.opens.toNat:=a.op;have:=a.len;have:=a.gm;have c:((y.1,(⟨s.i,s.opens,s.ae,s.err,s.wh⟩:bO)):PS).1.length=y.1.length:=rfl;exact⟨h1,⟨ZaF _,by grind⟩,⟨ZaF _,by grind⟩,⟨ZaF _,by grind⟩,b⟩
theorem Se (b:Fx G) (hl:s.i<G.length):(bP G s).2.1=[]->(bP G s).2.2=false:=by
 cases c:eD G s.i with
 | true=>rw[xF c];exact λ_=>rfl
 | false=>
  by_cases d:aD G s.i=92
  ·rw[mY c d];by_cases h1:G.length<=s.i+1
   ·grind [tu]
   ·cases a:eD G (s.i+1) with
    | true=>rw[tv ω a];exact λ_=>rfl
    | false=>
     rw[xE ω a];intro h;have no:=λk=>KL b (s:=s.next.next) s.i (i:=s.i+1) ω k b.w0 h
     grind [mI]
  ·grind [sx.gy,xG]
theorem M8 (h0:G.length<=s.i) (a:List Rg) (one:Bool) (b:Nat):j6 G a one b s=if s.err=0 then(s.ak G b 4,[]) else(s,[]):=by
 grind [fk,j6]
theorem Sf (h:s.i<G.length) (a:List Rg) (one:Bool) (b:Nat):j6 G a one b s=if (bP G s).1.err=0 then(if one=false\/(bP G s).2.2=false\/oX (bP G s).2.1<oX a then((bP G s).1.ak G b 4,[]) else((bP G s).1,[(oX a,oX (bP G s).2.1)])) else((bP G s).1,[]):=by
 grind [fk,j6]
theorem Qpv (y:PS) (m:Sc.pre y):Sd y:=by
 obtain⟨h0,hi⟩:bj y/\y.2.i<y.1.length:=m;have a0:=h0.adv;have hl:(nn y.2).i<y.1.length:=by show y.2.i.toNat<_;obtain⟨_,n,_⟩:=h0;omega
 have j:(nn y.2).i=y.2.i.toNat:=rfl;have a:=(ku a0 hl).1;have o1:=h0.of a;have t:=h0.of (a.ak y.2.i.toNat 4);have g:=a.skip 45;have q:=h0.of g;have i0:0<=y.2.i:=h0.2.1.1;unfold Sd;simp only[QaU,dq,ez,Gb,aj,dA,Zd0,Int.ofNat_le];have o:=λh=>Se h0.2.2.2.2 (s:=aY y.1 (bP y.1 (nn y.2)).1 45) h
 have r:=λh=>h0.of (ku g h).1
 have hk:∀s,xD (y.1,s)=decide ((bP y.1 (nn s)).2.1=[]):=λ_=>rfl
 have f:∀s b,M7 ((y.1,s),b)=(s.i<y.1.length/\b=xD (y.1,s)):=λ_ _=>rfl
 have u:=λ(s:Ps)=>fk (G:=y.1) s y.2.i.toNat (e:=4) (by decide)
 have c:d_ y.1 (nn y.2)=if (bP y.1 (nn y.2)).1.err≠0 then((bP y.1 (nn y.2)).1,[]) else if (bP y.1 (nn y.2)).2.1=[] then((bP y.1 (nn y.2)).1.ak y.1 (nn y.2).i 4,[]) else if aQ y.1 (bP y.1 (nn y.2)).1 45 then j6 y.1 (bP y.1 (nn y.2)).2.1 (bP y.1 (nn y.2)).2.2 (nn y.2).i (bP y.1 (nn y.2)).1.next else((bP y.1 (nn y.2)).1,(bP y.1 (nn y.2)).2.1):=rfl
 rw[c];simp only[hk,f,ez,j];generalize bP y.1 (nn y.2)=p at*
 have hs:aQ y.1 p.1 45->aY y.1 p.1 45=p.1.next:=λh=>Zac h
 clear c hk f;have k:=λh=>Sf (G:=y.1) (s:=p.1.next) (show p.1.i+1<y.1.length from h) p.2.1 p.2.2 y.2.i.toNat
 have d:=λh=>M8 (G:=y.1) (s:=p.1.next) (show y.1.length<=p.1.i+1 from h) p.2.1 p.2.2 y.2.i.toNat
 have l:aQ y.1 p.1 45=false->aY y.1 p.1 45=p.1:=λh=>Zaa (by grind)
 with_reducible repeat' first | apply And.intro | intro _
 all_goals first
  | assumption
  | (simp_all [oX,uo,Zbe];done)
  | (simp_all [oX,uo,Zbe];omega)
  | (simp_all [oX,uo,Zbe];simp(disch:=omega) only[Zac,Zaa, *];done)
  | (simp_all [oX,uo,Zbe])
def QiQ (a:Ok dc):Ok Sc:=okZ [Hz,qq,tt] Tryz.f187 (λ_=>cX ()) ⟨QiP a,uw,Aw⟩ Qpv
def YS (b n:Nat) (l:By):List (Nat×AO D.E):=[(b,.cells [.ptr b 0,.own n 1 (ab l)] 281 false),(n,.arr 0 l 5 false)]
def Sg (b:Nat) (p:AV D.E):List (Nat×AO D.E):=[(b,.cells [p,.cF] 281 false)]
def YT (v:AV D.E) (s:St D.E):C Unit:=match v with
 | .ptr b _=>av (cE (s.h.get b)) λo=>match o with
  | .cells cs _ _=>match cs with
   | [.fD,.cF]=>.ret ()
   | _=>.fail
  | _=>.fail
 | _=>.fail
def YU (v:AV D.E) (s:St D.E):C By:=match v with
 | .ptr b _=>av (cE (s.h.get b)) λo=>match o with
  | .cells cs _ _=>match cs with
   | [.ptr _ _,l]=>av (rowsOf D s 0 l) λl=>.ret (l:By)
   | _=>.fail
  | _=>.fail
 | _=>.fail
def YV:bf D:=⟨200,Unit,λa s=>match a with
 | [p]=>YT p s
 | _=>.fail,λ_=>True,λ_=>[.ptr 0 0],λ_=>Sg 0 .fD,λ_=>.tuple [],λ_=>Sg 0 (.ptr 0 0),1,1⟩
def QiR:bf D:=⟨200,By,λa s=>match a with
 | [p]=>YU p s
 | _=>.fail,λ_=>True,λ_=>[.ptr 0 0],λy=>YS 0 1 y,λ_=>.tuple [],λy=>YS 0 1 y,2,2⟩
def YW:bf D:=⟨191,Int,λa s=>match a with
 | [p,c]=>av (YT p s) λ_=>aI (cT c) λ_ c=>.ret c
 | _=>.fail,G9,λy=>[.ptr 0 0,.int .u8 y],λ_=>Sg 0 .fD,λ_=>.nilIface,λy=>YS 0 1 [UInt8.ofNat y.toNat],1,2⟩
def YX:bf D:=⟨191,By×Int,λa s=>match a with
 | [p,c]=>av (YU p s) λl=>aI (cT c) λ_ c=>.ret (l,c)
 | _=>.fail,λy=>y.1.length<=1000000/\G9 y.2,λy=>[.ptr 0 0,.int .u8 y.2],λy=>YS 0 1 y.1,λ_=>.nilIface,λy=>YS 0 2 (y.1++[UInt8.ofNat y.2.toNat]),2,3⟩
def YY:bf D:=⟨190,Unit,λa s=>match a with
 | [p]=>YT p s
 | _=>.fail,λ_=>True,λ_=>[.ptr 0 0],λ_=>Sg 0 .fD,λ_=>Qu9 0,λ_=>Sg 0 .fD,1,1⟩
def YZ:bf D:=⟨190,By,λa s=>match a with
 | [p]=>YU p s
 | _=>.fail,λ_=>True,λ_=>[.ptr 0 0],λy=>YS 0 1 y,λy=>Qu9 (ab y),λy=>YS 0 1 y,2,2⟩
def QiS:bf D:=⟨192,Unit,λa s=>match a with
 | [p]=>YT p s
 | _=>.fail,λ_=>True,λ_=>[.ptr 0 0],λ_=>Sg 0 .fD,λ_=>.str [],λ_=>[],1,1⟩
def QiT:bf D:=⟨192,By,λa s=>match a with
 | [p]=>YU p s
 | _=>.fail,λy=>y≠[],λ_=>[.ptr 0 0],λy=>YS 0 1 y,λy=>.str y,λ_=>[],2,2⟩
def xH:bf D:=xB 167 PS (λy=>y) M6 (λ_=>True) (λ_=>[]) (λy=>zz (dh y.1 (nn y.2))) λy=>.tuple [.str (gI y.1 (nn y.2)),.bool (gv y.1 (nn y.2))]
def QiU (s:bO) (i:Nat):bO:={ s with i:=i }
def tw (y:PS) (i:Nat) (l:By):Prop:=(nn y.2).i<=i/\i<=y.1.length/\l.length<=i/\b6 y.1 (y.1.length-i) i l=b6 y.1 (y.1.length-(nn y.2).i) (nn y.2).i []
def QpA (y:xH.Y):cH D:=⟨[],[],[],[],1,
 [(60,⟨Unit,λ_=>⟨Nat,[0,4,5],λ_=>[],[],λi=>dC y.1 (QiU y.2 i)++Sg 1 .fD,2,λi=>tw y i [],λi=>y.1.length-i⟩,
  some ⟨Nat×By,[0,4,5],λ_=>[],[],λx=>dC y.1 (QiU y.2 x.1)++YS 1 2 x.2,3,λx=>tw y x.1 x.2/\x.2≠[],λx=>y.1.length-x.1⟩⟩)]⟩
def Y0 (y:PS) (x:bO×List Rg×Bool):Prop:=bj (y.1,x.1)/\(nn x.1).opens=(nn y.2).opens/\x.2.1.length<=8*(nn x.1).i+(if x.1.err=0 then 0 else 8)/\∃n,(x.1.err=0->y.1.length+2<=n+(nn x.1).i)/\
 dO y.1 (nn y.2).i n (nn x.1) x.2.1 x.2.2=dO y.1 (nn y.2).i (y.1.length+2-(aY y.1 (nn y.2).next 94).i) (aY y.1 (nn y.2).next 94) [] true
def QeH (y:PS) (x:bO×List Rg×Bool):Nat:=2*(y.1.length-(nn x.1).i)+(if x.1.err=0 then 1 else 0)
def HE:bf D:=xB 163 PS (λy=>y) M6 Gb (λ_=>[]) (λy=>zz (r8 y.1 (nn y.2)).1) λy=>.list 7 (r8 y.1 (nn y.2)).2
def QpC (y:HE.Y):cH D:=⟨[],[],[(508,⟨bO×List Rg×Bool,[0,3,4],λx=>[(5,.grow 6 x.2.1 1),(6,.bool x.2.2)],[],λx=>dC y.1 x.1++[(1,.tok 6 267)],2,Y0 y,QeH y⟩)],[],1,[]⟩
def pd (y:PS):Ps×By×Bool:=
 if gv y.1 (nn y.2).next/\aQ y.1 (dh y.1 (nn y.2).next) 44=true then(dh y.1 (dh y.1 (nn y.2).next).next,gI y.1 (dh y.1 (nn y.2).next).next,!gv y.1 (dh y.1 (nn y.2).next).next)
 else(dh y.1 (nn y.2).next,gI y.1 (nn y.2).next,false)
def HF:bf D:=xB 138 PS (λy=>y) M6 Gb (λ_=>[]) (λy=>zz (f_ y.1 (nn y.2)).1) λy=>.tuple [Qu9 (f_ y.1 (nn y.2)).2.1,Qu9 (f_ y.1 (nn y.2)).2.2]
def QpE (y:HF.Y):cH D:=⟨[],[],[],[(63,⟨Unit,[0,4,5,6],λ_=>[(7,.str (pd y).2.1),(8,.bool (pd y).2.2)],[],λ_=>dC y.1 (zz (pd y).1),1,λ_=>True,λ_=>0⟩)],1,[]⟩
def Sh (y:(List (Int×Int))×bO):Prop:=let b:=r8 y.1 (nn y.2);let s:=an .i64 y.2.i 1;let o:=((b.1.i:Nat):Int);let t:=((b.1.opens:Nat):Int);let u:=((b.1.ae:Nat):Int);let q:=bO.mk s y.2.opens y.2.ae y.2.err y.2.wh;let k:=aY y.1 (nn q) 94;let r:=aQ y.1 (nn q) 94;let l:=λp:Prop=>aa [y.1] (aa [bC y.1] p);let v:Prop:=(0<=y.2.i/\(y.2.i<(y.1.length:Int)));Iv (bj (y.1,q)/\True)/\aa ([94]:List Int) (aa [y.1] (aa [bC y.1] (aa [s,y.2.opens,y.2.ae,y.2.err,y.2.wh] ((∃z:bO×(List (Int×Int))×Bool,aa [y.2.i] (aa [r] ([]=z.2.1/\true=z.2.2/\l (((k.i:Nat):Int)=z.1.i/\((k.opens:Nat):Int)=z.1.opens/\((k.ae:Nat):Int)=z.1.ae/\k.err=z.1.err/\k.wh=z.1.wh/\(Iv (Y0 y z))))))/\(∀x:bO×(List (Int×Int))×Bool,let d:=aL x.2.1;let e:=az x.1.err 0;let a:=d_ y.1 (nn x.1);let m:=aC (ab y.1) x.1.i;let n:=!(aQ y.1 (nn x.1) 93);let c:=Ps.ak y.1 (nn x.1) y.2.i.toNat 4;let f:Prop:=(x.1.opens=t/\x.1.ae=u/\x.1.err=b.1.err/\x.1.wh=b.1.wh/\True);let g:Prop:=(l (an .i64 x.1.i 1=o/\f));let h:Prop:=(Iv (bj (y.1,x.1)/\v)/\aa ([y.2.i,4]:List Int) (aa [y.1] (aa [bC y.1] (aa [x.1.i,x.1.opens,x.1.ae,x.1.err,x.1.wh] ([]=b.2/\l (((c.i:Nat):Int)=o/\((c.opens:Nat):Int)=t/\((c.ae:Nat):Int)=u/\c.err=b.1.err/\c.wh=b.1.wh/\True))))));let j:Prop:=(ag (!e) ([]=b.2/\l (x.1.i=o/\f)) (ag x.2.2 (h) (Iv (x.2.1.length<=100000000)/\aa [x.2.1] (ag r (Iv (d.length<=1000000)/\aa [d] (([Nd.mk 2 (lB d) 0 0 false 0 0]:List Nd)=b.2/\g)) (([Nd.mk 2 d 0 0 false 0 0]:List Nd)=b.2/\g)))));(Iv (Y0 y x))->ag e (Iv (bj (y.1,x.1)/\True)/\aa ([93]:List Int) (aa [y.1] (aa [bC y.1] (aa [x.1.i,x.1.opens,x.1.ae,x.1.err,x.1.wh] (ag n (aa [x.1.i] (aa [y.1] (ag m (h) (Iv (bj (y.1,x.1)/\Gb (y.1,x.1))/\aa [y.1] (aa [bC y.1] (aa [x.1.i,x.1.opens,x.1.ae,x.1.err,x.1.wh] (fits (ab (aZ x.2.1 a.2)) 8/\∃z:bO×(List (Int×Int))×Bool,aa [y.2.i] (aa [r] (aZ x.2.1 a.2=z.2.1/\false=z.2.2/\l (((a.1.i:Nat):Int)=z.1.i/\((a.1.opens:Nat):Int)=z.1.opens/\((a.1.ae:Nat):Int)=z.1.ae/\a.1.err=z.1.err/\a.1.wh=z.1.wh/\(Iv (Y0 y z/\QeH y z<QeH y x)))))))))))) (j)))))) (j))))))
def Si (y:(List (Int×Int))×bO):Prop:=let f:=(pd y).1;let R:=y.2.i.toNat;let S:=y.1.length;let H:=(pd y).2.2;let A:=(pd y).2.1;let V:=((y.2.ae.toNat:Nat):Int);let W:=((y.2.opens.toNat:Nat):Int);let L:=((f.opens:Nat):Int);let M:=((f.i:Nat):Int);let N:=((f.ae:Nat):Int);let a:=f_ y.1 (nn y.2);let m:=an .i64 y.2.i 1;let n:=((a.1.opens:Nat):Int);let o:=((a.1.ae:Nat):Int);let q:=((a.1.i:Nat):Int);let D:=bO.mk m y.2.opens y.2.ae y.2.err y.2.wh;let b:=gI y.1 (nn D);let E:=gv y.1 (nn D);let g:=bO.mk M L N f.err f.wh;let F:=((b6 y.1 (S-m.toNat) m.toNat []).1:Int);let c:=aY y.1 (nn g) 125;let T:=!(aQ y.1 (nn g) 125);let r:=((c.opens:Nat):Int);let s:=((c.ae:Nat):Int);let t:=((c.i:Nat):Int);let h:=Ps.ak y.1 (nn g) R 4;let G:=bO.mk F W V y.2.err y.2.wh;let d:=aY y.1 (nn G) 44;let U:=aQ y.1 (nn G) 44;let u:=((d.opens:Nat):Int);let v:=((d.ae:Nat):Int);let j:=((d.i:Nat):Int);let w:=bO.mk t r s c.err c.wh;let k:=Ps.ak y.1 (nn w) R 4;let l:=Ps.ak y.1 (nn w) R 2;let I:=bO.mk j u v d.err d.wh;let e:=λp:Prop=>aa [y.1] (aa [bC y.1] p);let K:=λp:Prop=>aa [y.2.i] (aa [b] (aa [E] p));let J:Prop:=(0<=y.2.i/\(y.2.i<(S:Int)));let O:Prop:=(d.err=f.err/\d.wh=f.wh/\(Iv True));let B:Prop:=(e (t=q/\r=n/\s=o/\c.err=a.1.err/\c.wh=a.1.wh/\True));let C:Prop:=(Iv (bj (y.1,w)/\J)/\aa ([y.2.i,2]:List Int) (aa [y.1] (aa [bC y.1] (aa [t,r,s,c.err,c.wh] (0=a.2.1/\0=a.2.2/\e (((l.i:Nat):Int)=q/\((l.opens:Nat):Int)=n/\((l.ae:Nat):Int)=o/\l.err=a.1.err/\l.wh=a.1.wh/\True))))));let P:Prop:=(Iv (bj (y.1,w)/\J)/\aa ([y.2.i,4]:List Int) (aa [y.1] (aa [bC y.1] (aa [t,r,s,c.err,c.wh] (0=a.2.1/\0=a.2.2/\e (((k.i:Nat):Int)=q/\((k.opens:Nat):Int)=n/\((k.ae:Nat):Int)=o/\k.err=a.1.err/\k.wh=a.1.wh/\True))))));let Q:Prop:=(Iv (kT b)/\aa [b] (ag H (Iv (kT [])/\aa ([[]]:List (List UInt8)) (ag (!(eE b).2) (C) (ag (!(decide (gF []<=30))) (C) (ag H ((eE b).1=a.2.1/\(-1)=a.2.2/\B) ((eE b).1=a.2.1/\gF []=a.2.2/\B))))) (Iv (kT A)/\aa [A] (ag (!(eE b).2) (C) (ag (!(eE A).2) (C) (ag H ((eE b).1=a.2.1/\(-1)=a.2.2/\B) ((eE b).1=a.2.1/\(eE A).1=a.2.2/\B)))))));Iv (bj (y.1,D)/\True)/\aa [y.1] (aa [bC y.1] (aa [m,y.2.opens,y.2.ae,y.2.err,y.2.wh] ((ag E (Iv (bj (y.1,G)/\True)/\aa ([44]:List Int) (aa [y.1] (aa [bC y.1] (aa [F,W,V,y.2.err,y.2.wh] (ag U (Iv (bj (y.1,I)/\True)/\aa [y.1] (aa [bC y.1] (aa [j,u,v,d.err,d.wh] (∃z:Unit,K (gI y.1 (nn I)=A/\(!(gv y.1 (nn I)))=H/\e (((b6 y.1 (S-j.toNat) j.toNat []).1:Int)=M/\((u.toNat:Nat):Int)=L/\((v.toNat:Nat):Int)=N/\O)))))) (∃z:Unit,K (b=A/\false=H/\e (j=M/\u=L/\v=N/\O)))))))) (∃z:Unit,K (b=A/\false=H/\e (F=M/\W=L/\V=N/\y.2.err=f.err/\y.2.wh=f.wh/\(Iv True)))))/\(∀x:Unit,(Iv True)->ag (!E) (Iv (bj (y.1,g)/\J)/\aa ([y.2.i,4]:List Int) (aa [y.1] (aa [bC y.1] (aa [M,L,N,f.err,f.wh] (0=a.2.1/\0=a.2.2/\e (((h.i:Nat):Int)=q/\((h.opens:Nat):Int)=n/\((h.ae:Nat):Int)=o/\h.err=a.1.err/\h.wh=a.1.wh/\True)))))) (Iv (bj (y.1,g)/\True)/\aa ([125]:List Int) (aa [y.1] (aa [bC y.1] (aa [M,L,N,f.err,f.wh] (ag T (P) (ag (!H) (Iv True/\aa [A] (aa [b] (ag (ie A b) (P) (Q)))) (Q)))))))))))
def dz (G:List Gt) (i o g e w:Int):nn ⟨((b6 G (G.length-i.toNat) i.toNat []).1:Nat),(o.toNat:Nat),(g.toNat:Nat),e,w⟩=dh G (nn ⟨i,o,g,e,w⟩):=rfl
def pno (s:bO):s.opens.toNat=(nn s).opens:=rfl
def png (s:bO):s.ae.toNat=(nn s).ae:=rfl
def nne (s:bO):(nn s).err=s.err:=rfl
def nnw (s:bO):(nn s).wh=s.wh:=rfl
@[simp] theorem nxw (s:Ps):s.next.wh=s.wh:=rfl
def dgo (G:List Gt) (s:Ps):(dh G s).opens=s.opens:=rfl
def dgg (G:List Gt) (s:Ps):(dh G s).ae=s.ae:=rfl
def dge (G:List Gt) (s:Ps):(dh G s).err=s.err:=rfl
def dgw (G:List Gt) (s:Ps):(dh G s).wh=s.wh:=rfl
def dzi (G:List Gt) (s:Ps):(b6 G (G.length-s.i) s.i []).1=(dh G s).i:=rfl
def pni (s:bO):s.i.toNat=(nn s).i:=rfl
def bj.Y3 (h:bj y) (hi:y.2.i<y.1.length):an .i64 y.2.i 1=y.2.i+1/\nn ⟨y.2.i+1,y.2.opens,y.2.ae,y.2.err,y.2.wh⟩=(nn y.2).next/\(nn y.2).i<y.1.length/\fW y.1 (nn y.2) (nn y.2).next/\bj (y.1,⟨y.2.i+1,y.2.opens,y.2.ae,y.2.err,y.2.wh⟩):=by
 obtain⟨a,a2,a3,a4,b⟩:=id h;have hl:(nn y.2).i<y.1.length:=by show y.2.i.toNat<_;omega
 have c:((y.1,(⟨y.2.i+1,y.2.opens,y.2.ae,y.2.err,y.2.wh⟩:bO)):PS).1.length=y.1.length:=rfl;exact⟨aV ω ω,ss a2.1,hl,h.adv.next hl,a,⟨show 0<=y.2.i+1 by omega,show y.2.i+1<=(y.1.length:Int) by omega⟩,a3,a4,b⟩
theorem xI:∀(n i:Nat) (b:By),kT b->kT (b6 G n i b).2
 | 0,_,_,h=>h
 | n+1,i,b,h=>by
  unfold b6;split
  ·rename_i e
   refine xI n _ _ ?_;split
   ·intro c a;rcases Zax.1 a with d | d
    ·exact h c d
    ·grind [UInt8.toNat_ofNat']
   ·exact h
  ·exact h
theorem pZ (G:List Gt) (s:Ps):kT (gI G s):=xI _ _ _ λc h=>by cases h
theorem QeI (y:PS):f_ y.1 (nn y.2)=nF y.1 (nn y.2).i (pd y).1 (gI y.1 (nn y.2).next) (pd y).2.1 (gv y.1 (nn y.2).next) (pd y).2.2:=by
 grind [f_,pd]
theorem QpI (y:PS) (n:HF.pre y):Si y:=by
 obtain⟨h0,hi⟩:bj y/\y.2.i<y.1.length:=n;obtain⟨l,f,hl,k,o1⟩:=h0.Y3 hi;have i0:0<=y.2.i:=h0.2.1.1;have c:=(r9 k).1;have g:=c.skip 44;have q:=h0.of c;have os:=h0.of g;have e:fW y.1 (nn y.2) (pd y).1:=by
  unfold pd;split
  ·rename_i h
   exact(r9 (c.next (cQ h.2))).1
  ·exact c
 have r:=h0.of e;have d:=h0.of (e.skip 125);have g1:=pZ y.1 (nn y.2).next;have g2:kT (pd y).2.1:=by grind [pd,pZ]
 have w:gF []=0:=rfl;have g0:kT []:=λ_ h=>nomatch h
 have o:gv y.1 (nn y.2).next->aQ y.1 (dh y.1 (nn y.2).next) 44->pd y=(dh y.1 (dh y.1 (nn y.2).next).next,gI y.1 (dh y.1 (nn y.2).next).next,!gv y.1 (dh y.1 (nn y.2).next).next):=λa b=>Zac ⟨a,b⟩
 have p:¬(gv y.1 (nn y.2).next/\aQ y.1 (dh y.1 (nn y.2).next) 44)->pd y=(dh y.1 (nn y.2).next,gI y.1 (nn y.2).next,false):=λa=>Zaa a
 have k1:aQ y.1 (dh y.1 (nn y.2).next) 44->aY y.1 (dh y.1 (nn y.2).next) 44=(dh y.1 (nn y.2).next).next:=λh=>Zac h
 have k2:aQ y.1 (dh y.1 (nn y.2).next) 44=false->aY y.1 (dh y.1 (nn y.2).next) 44=dh y.1 (nn y.2).next:=λh=>Zaa (by grind)
 have s:(b6 y.1 (y.1.length-(y.2.i+1).toNat) (y.2.i+1).toNat []).1=(dh y.1 (nn y.2).next).i:=by rw[<-f];rfl
 have v:(nn y.2).next.wh=y.2.wh:=rfl;have z2:nn ⟨(dh y.1 (nn y.2).next).i,(nn y.2).opens,(nn y.2).ae,y.2.err,y.2.wh⟩=dh y.1 (nn y.2).next:=rfl;unfold Si;simp only[dq,l,f,dz,ez,ZaX,ZaY,ZaZ,s,z2,Zad,dzi,pni,pno,png,QeI];refine⟨o1,?_,?_⟩
 ·clear r d g1 g2
  with_reducible repeat' first | apply And.intro | intro _
  all_goals first
   | assumption
   | (simp_all [dgo,dgg,dge,dgw,nne,nnw];done)
 ·clear o p k1 k2 q os c g;generalize pd y=j at*
  have t:aQ y.1 j.1 125->aY y.1 j.1 125=j.1.next:=λh=>Zac h
  have u:aQ y.1 j.1 125=false->aY y.1 j.1 125=j.1:=λh=>Zaa (by grind)
  generalize gv y.1 (nn y.2).next=ok at*
  generalize gI y.1 (nn y.2).next=m at*
  with_reducible repeat' first | apply And.intro | intro _
  all_goals first
   | assumption
   | (simp_all [nF,eE];done)
def QiW (a:Ok xH):Ok HF:=okZ [xH,tt,qq,M5,Hy] Tryz.f138 QpE ⟨a,Aw,uw,QiC,QiF⟩ QpI
theorem HG {n:Nat} {b:Bool} (h:s.err≠0\/aQ G s 93):dO G i n s l b=(s,l,b,false):=by
 cases n with
 | zero=>rfl
 | succ n=>
  grind [dO]
theorem M9 {one:Bool}:(j6 G l one i s).1.err≠0->(j6 G l one i s).2=[]:=by
 grind [j6]
theorem Y4 {G:List Gt} {s:Ps} (h:(d_ G s).1.err≠0):(d_ G s).2=[]:=by
 grind [d_,M9]
theorem QpJ (y:PS) (A:HE.pre y):Sh y:=by
 obtain⟨h0,hi⟩:bj y/\y.2.i<y.1.length:=A;obtain⟨r,u,hl,v,o1⟩:=h0.Y3 hi;have i0:0<=y.2.i:=h0.2.1.1;have e:=v.skip 94;have os:=h0.of e;unfold Sh;simp only[QaU,dq,r,u,dz,ez,ZaX,ZaY,ZaZ,pni,aj,aO,aU];refine⟨o1,⟨⟨zz (aY y.1 (nn y.2).next 94),[],true⟩,rfl,rfl,rfl,rfl,rfl,rfl,rfl,os,e.op,by simp,_,λ_=>?_,rfl⟩,λx z=>?_⟩
 ·have:=e.len;show _<=_+(aY y.1 (nn y.2).next 94).i
  omega
 ·obtain⟨s,l,b⟩:=x;obtain⟨c,k,C,n,d,g⟩:=z;simp only at*
  have a2:fW y.1 (nn s) (nn s):=c.adv;obtain⟨b1,o,p,q,_⟩:y.1.length<=4096/\(0<=s.i/\s.i<=y.1.length)/\(0<=s.opens/\s.opens<=20)/\(0<=s.ae/\s.ae<=4)/\_:=id c;have D:(nn s).i<=y.1.length:=a2.len;have zi:((nn s).i:Int)=s.i:=Zby o.1;have zo:((nn s).opens:Int)=s.opens:=Zby p.1;have zg:((nn s).ae:Int)=s.ae:=Zby q.1;have eF:r8 y.1 (nn y.2)=(if (dO y.1 (nn y.2).i n (nn s) l b).2.2.2 then((dO y.1 (nn y.2).i n (nn s) l b).1,[]) else if (dO y.1 (nn y.2).i n (nn s) l b).1.err≠0 then((dO y.1 (nn y.2).i n (nn s) l b).1,[]) else if (dO y.1 (nn y.2).i n (nn s) l b).2.2.1 then((dO y.1 (nn y.2).i n (nn s) l b).1.ak y.1 (nn y.2).i 4,[])
   else((dO y.1 (nn y.2).i n (nn s) l b).1.next,[xb (if aQ y.1 (nn y.2).next 94 then lB (aL (dO y.1 (nn y.2).i n (nn s) l b).2.1) else aL (dO y.1 (nn y.2).i n (nn s) l b).2.1)])):=by rw[g];rfl
  have cs:s.err≠0\/aQ y.1 (nn s) 93->dO y.1 (nn y.2).i n (nn s) l b=(nn s,l,b,false):=λh=>HG h
  have f:s.err=0->∃m,n=m+1:=λh=>⟨n-1,ω⟩
  have E:y.1.length<=4096:=b1;have F:(aL l).length<=2*l.length:=pP l;have b8:l.length<=40000:=by grind
  have G:aQ y.1 (nn s) 93->an .i64 s.i 1=s.i+1:=λh=>aV ω ω
  refine⟨λa=>⟨c,λw=>⟨λt=>⟨⟨c,i0,hi⟩,?_⟩,λt=>⟨⟨c,t⟩,?_⟩⟩,λw=>?_⟩,λa=>?_⟩
  ·obtain⟨m,rfl⟩:=f a;have:dO y.1 (nn y.2).i (m+1) (nn s) l b=((nn s).ak y.1 (nn y.2).i 4,l,b,true):=by
    unfold dO;rw[Zac ⟨a,by grind⟩,Zac ω]
   grind
  ·obtain⟨m,rfl⟩:=f a;have j:(nn s).i<y.1.length:=ω;obtain⟨c1,c2,c3⟩:=kx a2 j;have c4:(nn s).i<=(d_ y.1 (nn s)).1.i:=c1.le;have c5:=c1.len;have c6:=@Y4 y.1 (nn s);have B:(l++(d_ y.1 (nn s)).2).length<=8*(d_ y.1 (nn s)).1.i+(if (d_ y.1 (nn s)).1.err=0 then 0 else 8):=by
    grind
   have hlen:(l++(d_ y.1 (nn s)).2).length<=40000:=by grind
   refine⟨ω,⟨zz (d_ y.1 (nn s)).1,l++(d_ y.1 (nn s)).2,false⟩,rfl,rfl,rfl,rfl,rfl,rfl,rfl,⟨c.of c1,c1.op.trans k,B,m,λh=>?_,?_⟩,?_⟩
   ·have:=c2 h;have:=d a;show _<=m+(d_ y.1 (nn s)).1.i;omega
   ·rw[<-g]
    conv=>rhs;unfold dO
    rw[Zac ⟨a,by grind⟩,Zaa ω];rfl
   ·show 2*(y.1.length-(d_ y.1 (nn s)).1.i)+(if (d_ y.1 (nn s)).1.err=0 then 1 else 0)<2*(y.1.length-(nn s).i)+(if s.err=0 then 1 else 0)
    grind
  all_goals
   rw[cs (by first | exact .inl a | exact .inr (by grind))] at eF;clear g cs f C d u r e os b1 o p q
   with_reducible repeat' first | apply And.intro | intro _
   all_goals first
    | assumption
    | omega
    | (simp_all [nne,nnw,xb,nd,uo];done)
    | (simp_all [nne,nnw,xb,nd,uo];omega)
def QiX (a:Ok dc):Ok HE:=okZ [tt,W2,qq,Sc,dc,Hh] Tryz.f163 QpC ⟨Aw,isOk,uw,QiQ a,a,Qb3 a⟩ QpJ
def gX (y:PS):Ps->Ps×List Nd:=qP y.1 (20-(nn y.2).opens)
def lvl (y:PS):Nat:=5*(20-(nn y.2).opens)
def Sj (f:FuncId) (pre:PS->Prop) (F:PS->Ps×List Nd):bf D:=xB f PS (λy=>y) M6 pre (λ_=>[]) (λy=>zz (F y).1) λy=>.list 7 (F y).2
def qX (y:PS):Ps×List Nd:=qP y.1 (21-(nn y.2).opens) (nn y.2)
def mZ (y:PS):Ps×List Nd:=mJ y.1 (gX y) (nn y.2)
def za (y:PS):Ps×List Nd:=ft y.1 (gX y) (nn y.2)
def dx (y:PS):Ps×List Nd:=iZ y.1 (gX y) (nn y.2)
def l7 (y:PS):Ps×List Nd:=iC y.1 (gX y) (nn y.2)
def HH:bf D:=Sj 42 (λ_=>True) qX
def M_:bf D:=Sj 75 (λ_=>True) mZ
def Na:bf D:=Sj 109 Gb za
def Sk:bf D:=Sj 137 Gb dx
def Sl:bf D:=Sj 162 Gb l7
def fmT (n:Nat):vE:=[HH.under (λy=>lvl y+4) n,M_.under (λy=>lvl y+3) n,Na.under (λy=>lvl y+2) n,Sk.under (λy=>lvl y+1) n,Sl.under (λy=>lvl y) n]
def fmW (l:vE) (i:Nat) (fn:Func) (k:bf D) (a:k.Y->cH D) (n:Nat) (y:k.Y):Prop:=vc (fmT (n+i)++l) fn k a y
def Qck (G:List Gt) (s:bO):List (Nat×AO D.E):=dC G s++[(1,.tok 9 77)]
def Y5 (y:PS) (x:bO×List (List Nd)):Prop:=bj (y.1,x.1)/\(nn x.1).opens=(nn y.2).opens/\(nn y.2).i<=(nn x.1).i/\0<x.2.length/\total x.2+2*x.2.length<=3*((nn x.1).i-(nn y.2).i)+3/\∃n,(x.1.err=0->y.1.length+2<=n+(nn x.1).i)/\
 ga y.1 (gX y) n (nn x.1) x.2=ga y.1 (gX y) (y.1.length+2-(mZ y).1.i) (mZ y).1 [(mZ y).2]
def Ew (y:PS) (x:bO×List (List Nd)):Nat:=2*(y.1.length-(nn x.1).i)+(if x.1.err=0 then 1 else 0)
def QiZ (y:HH.Y):cH D:=⟨[],[],[(28,⟨bO×List (List Nd),[0],λx=>[(3,.grow 9 x.2 1)],[],λx=>Qck y.1 x.1,2,Y5 y,Ew y⟩)],[],1,[]⟩
def QpK (y:HH.Y):Prop:=fmW [tt,y9] 4 Tryz.f42 HH QiZ (lvl y) y
def Sn (y:PS) (x:bO×List (List Nd)):Prop:=bj (y.1,x.1)/\(nn x.1).opens=(nn y.2).opens/\(nn y.2).i<=(nn x.1).i/\total x.2<=3*((nn x.1).i-(nn y.2).i)/\x.2.length<=(nn x.1).i-(nn y.2).i+(if x.1.err=0 then 0 else 1)/\∃n,(x.1.err=0->y.1.length+2<=n+(nn x.1).i)/\
 eI y.1 (gX y) n (nn x.1) x.2=eI y.1 (gX y) (y.1.length+2-(nn y.2).i) (nn y.2) []
def Qi0 (y:M_.Y):cH D:=⟨[],[],[(28,⟨bO×List (List Nd),[0],λx=>[(3,.grow 9 x.2 1)],[],λx=>Qck y.1 x.1,2,Sn y,Ew y⟩)],[],1,[]⟩
def QpL (y:M_.Y):Prop:=fmW [W2,y9] 3 Tryz.f75 M_ Qi0 (lvl y) y
def pe (y:PS):Ps×Int×Int:=if aQ y.1 (dx y).1 42 then((dx y).1.next,0,-1) else if aQ y.1 (dx y).1 43 then((dx y).1.next,1,-1) else if aQ y.1 (dx y).1 63 then((dx y).1.next,0,1) else f_ y.1 (dx y).1
def uS (y:PS):Prop:=(dx y).1.err=0/\(aQ y.1 (dx y).1 42\/aQ y.1 (dx y).1 43\/aQ y.1 (dx y).1 63\/aQ y.1 (dx y).1 123)
def Qi1 (y:Na.Y):cH D:=⟨[],[],[],[(31,⟨Unit,[0,3],λ_=>[(4,.ptr 1 0)],[],λ_=>dC y.1 (zz (pe y).1)++[(1,.cells [Qu9 5,.cF,Qu9 (pe y).2.1,Qu9 (pe y).2.2,.bool false,Qu9 0,Qu9 1] 131 false)],2,λ_=>uS y,λ_=>0⟩)],1,[]⟩
def QpM (y:Na.Y):Prop:=fmW [tt,W2,HF] 2 Tryz.f109 Na Qi1 (lvl y) y
def QpN (y:Sk.Y):Prop:=fmW [y8,qq,HE,y_,RY,Eu] 1 Tryz.f137 Sk (λ_=>cX ()) (lvl y) y
def QpO (y:Sl.Y):Prop:=fmW [tt,qq] 0 Tryz.f162 Sl (λ_=>cX ()) (lvl y) y
end
end sx
end Go.Proofs.YtadfknojfbmjgaaGreat
