/- StreamRises: a part of the proof. -/
import Derived.Test.YtadfknojfbmjgaaGreatC3
set_option linter.all false
namespace Go.Proofs.YtadfknojfbmjgaaGreat
namespace sx
open Go Go.RowKit
section
variable {P:Program} {D:Data} {cd:TypeId->Option Nat} {M M':Pm D} {φ:T (AV D.E)} {a:Act} {N:Nat} {w w':World} {H:Hp D} {s s':St D.E}
variable {v c U:AV D.E} {b I:Value} {e Z:TypeId} {m o:Nat} {G:Array Value} {Y:Int} {X:Bool} {l:List (AV D.E)} {F:Array TypeId} {k:IntKind} {W:List UInt8} {V:List Value} {d:TypeDesc}
theorem iE (h:(cT v).H (k,Y)) (r:VR M v b):b=.int k Y/\mv k Y:=by
 cases r<;>simp only[cT] at h<;>(try exact h.elim)
 all_goals grind [ai]
theorem Gz (h:(asN v).H m) (r:VR M v b):∃k,b=.int k (m:Int):=by
 cases r<;>simp only[asN] at h<;>(try exact h.elim)
 case num k n a=>
  cases n with
  | negSucc n=>exact h.elim
  | ofNat n=>cases ai.1 h;exact⟨k,rfl⟩
theorem GA {c:Bool} (h:(yR v).H (X,c)) (r:VR M v b):b=.bool X:=by
 cases r<;>simp only[yR] at h<;>(try exact h.elim)
 all_goals grind [ai]
theorem mE (h:(hZ v).H W) (r:VR M v b):b=.string ⟨⟨W⟩⟩/\W.length<=9223372036854775807:=by
 cases r<;>simp only[hZ] at h<;>(try exact h.elim);grind [ai]
def mF (h:(asAgg v).H l) (r:VR M v b):∃a:Array Value,b=.agg a/\LR M l a.toList:=by
 cases r<;>simp only[asAgg] at h<;>(try exact h.elim)
 case agg hl c=>cases ai.1 h;exact⟨_,rfl,hl,c⟩
def Py (h:(OS v).H l) (r:VR M v b):∃a:Array Value,b=.tuple a/\LR M l a.toList:=by
 cases r<;>simp only[OS] at h<;>(try exact h.elim)
 case tuple hl c=>cases ai.1 h;exact⟨_,rfl,hl,c⟩
theorem zP (b:aP D) {x:D.E m} (hl:LR M (D.aX m x) V) (n:Nat):LR M (aM m (List.replicate n x)) (List.replicate n V).flatten:=by
 induction n with
 | zero=>exact .nil
 | succ n d=>
  rw[ Zc9];have:=hl.app d;assumption
theorem oS (z:Array Value) (n:Nat):(Builtin.zeroCells z n).toList=(List.replicate n z.toList).flatten:=by
 by_cases hz:z.size=0
 ·have:=Zap (by assumption);rw[this];simp[Builtin.zeroCells,hz]
 ·apply Zb6;intro i;have key:∀n i,(List.replicate n z.toList).flatten[i]?=if i<n*z.size then z.toList[i % z.size]? else none:=by
   intro n
   induction n with
   | zero=>intro i;simp
   | succ n a=>
    intro i;rw[Zc9,Zcf];by_cases hi:i<z.size
    ·grind [Nat.mod_eq_of_lt]
    ·rw[Zaz (by grind)];have e:(i-z.toList.length) % z.size=i % z.size:=by
      rw[Zba]
      conv=>rhs;rw[show i=(i-z.size)+z.size by omega,Nat.add_mod_right]
     grind
  grind [Nat.mod_lt,Builtin.zeroCells]
theorem BH (hD:aP D) {l v:AV D.E} (h:(C_ P D cd X s e l c).H (v,s')) (hl:VR M l b) (hc:VR M c I) (hS:ey M s.h.get w) (hf:bR M s.nx s'.nx):vw s M w ((Instr.makeSlice e b I).run P w) v s':=by
 have⟨d,hd,h1⟩:=af.1 h;have⟨t,he,h2⟩:=af.1 h1;have⟨kl,n,hn,h3⟩:=bh.1 h2;have⟨hkl,W⟩:=bm.1 h3;have⟨kc,m,hm,h4⟩:=bh.1 W;have⟨hkc,mu⟩:=bm.1 h4;have⟨cc,hcc,h5⟩:=af.1 mu;obtain rfl:=fT.1 hkl;obtain rfl:=fT.1 hkc;have⟨l',OG,h6⟩:=af.1 h5;have⟨z,hz,h7⟩:=af.1 h6;have⟨O,h8⟩:=bm.1 h7;have⟨hb64,h9⟩:=bm.1 h8;have⟨x,hx,S⟩:=af.1 h9;have⟨hn0,T⟩:=cN.1 S;have⟨hnm,U⟩:=cN.1 T;have⟨G,V⟩:=cN.1 U;rw[gR] at hd;have⟨cI,hk1⟩:=rQ hcc;obtain⟨rfl,q⟩:=iE hn hl;obtain⟨rfl,hmr⟩:=iE hm hc;have QuY:0<=n:=ZaH hn0;have hnm':=ZaH hnm;obtain⟨g,rfl⟩:∃k:Nat,n=k:=⟨n.toNat,ω⟩;obtain⟨a,rfl⟩:∃k:Nat,m=k:=⟨m.toNat,ω⟩;have Qus:=vz G;have F:P.underlying e=some (.slice t):=by cases d<;>first | (cases ai.1 he;exact hd) | exact he.elim
 have⟨it,f,A,hzz,Q⟩:=mB hz;have⟨i,hi,hib⟩:=zG (bu.1 OG);rw[A] at hi;cases hi;rw[aF,ju] at O;have hmax:a<=9223372036854775807:=by
  grind [cB,sY]
 have hlr:=vA hD hx (fi (Q M));have y:f.cells.size=D.size cc:=by rw[<-Zba,<-(fi (Q M)).1,O]
 have Z:(Builtin.zeroCells f.cells a).size=a*D.size cc:=by rw[oR,y]
 have Y:LR M (aM cc (List.replicate a x)) (Builtin.zeroCells f.cells a).toList:=by
  grind [oS,zP]
 have c':∀(k:Nat),k<=a->∀(i:Nat) (u:AV D.E),(aM cc (List.replicate k x))[i]?=some u->∃u',(Builtin.zeroCells f.cells a)[i]?=some u'/\VR M u u':=λk hk i u hu=>by
  have e1:aM cc (List.replicate a x)=aM cc (List.replicate k x)++aM cc (List.replicate (a-k) x):=by
   rw[<-fL,List.replicate_append_replicate,show k+(a-k)=a by omega]
  have⟨v',q1,q2⟩:=Y.get (i:=i) (v:=u) (by grind);grind
 have N:IntKind.i64.wrap ↑g=↑g:=IntWalk.i64_in _ ω;have L:IntKind.i64.wrap ↑a=↑a:=IntWalk.i64_in _ ω;have K:(typeInfo t).run P w=.ok it w:=by simp[typeInfo,A]
 have Qut:((l':Int)*↑a)=((l'*a:Nat):Int):=by simp
 have Quu:a*l'=l'*a:=Zb9 _ _;have o:((decide ((a:Int)<0)||decide ((l':Int)*↑a>2 ^ 48))||decide ((g:Int)<0)||decide ((g:Int)>↑a))=false:=by
  grind
 have B:(askRoom (a*l')).run P w=.ok () w:=by
  simp_all
 have J:(Instr.makeSlice e (.int .i64 ↑g) (.int .i64 ↑a)).run P w=.ok (.slice (some ⟨w.heap.size,0,none⟩) g a) (w.alloc (.cells (Builtin.zeroCells f.cells a) t)):=by
  subst hib;have q:(Go.newRow t (Builtin.zeroCells f.cells a)).run P w=.ok ⟨w.heap.size,0,none⟩ (w.alloc (.cells (Builtin.zeroCells f.cells a) t)):=by
   rfl
  by_cases h0:a*D.size cc=0
  ·have r:Builtin.zeroCells f.cells a=#[]:=by grind
   rw[r] at q ⊢;simp only[Instr.makeSlice,Zzd,Zza F,Zzb,Go.asInt,asIntOf,Zzc,K,N,L,o,ZaE,Za0,Zad,cy cI,h0];simp[Array.range_zero',q]
  ·have e2:(Array.range (a*D.size cc)).map (λi=>f.cells[i % f.cells.size]!)=Builtin.zeroCells f.cells a:=by simp[Builtin.zeroCells,y]
   simp only[Instr.makeSlice,Zzd,Zza F,Zzb,Go.asInt,asIntOf,Zzc,K,N,L,o,ZaE,Za0,Zad,B,cy cI,Zaa h0,rN A hzz,e2,q]
 have go:∀(R:Bool) (k:Nat),(newRow D R s cc (List.replicate k x) t).H (v,s')->k<=a->k=g->vw s M w ((Instr.makeSlice e (.int .i64 ↑g) (.int .i64 ↑a)).run P w) v s':=λR k hk hkm hkn=>by
  have⟨M',k1,k2⟩:=nu (w:=w) (w':=w.alloc (.cells (Builtin.zeroCells f.cells a) t)) (C:=Builtin.zeroCells f.cells a) (fz:=(0,0)) (cap:=a) hD hk hS hf (by simp) (λc hc=>Below.heap_alloc _ _ _ hc) (by show(w.heap.push _)[w.heap.size]?=_;simp) (.inl rfl) rfl rfl rfl
   (c' k hkm) Z (by grind) (by simp;omega)
  refine⟨M',_,_,J,?_,k2⟩;grind
 rcases im.1 V with⟨r,p⟩ | ⟨_,p⟩
 ·have hzero:g=0:=by
   rw[iD] at r;have j:=r.1;unfold QgW at j;split at j
   ·rename_i k0 n0
    have:=iE hn hl;cases ai.1 hn;rw[qL] at j;simp[zI] at j;omega
   ·cases j
  exact go false 0 p (Zaj _) hzero.symm
 ·have e3:np ↑g x=List.replicate g x:=by rfl
  rw[e3] at p;exact go true g p ω rfl
theorem zQ {C:Array Value} (h:(O6 D s e l).H (v,s')) (f:ey M s.h.get w) (g:bR M s.nx s'.nx) (hl:LR M l C.toList):
  vw s M w ((do pure (Value.pointer (some (<-Go.newRow e C))):Sem Value).run P w) v s':=by
 have⟨_,h0⟩:=bm.1 h;have⟨b,cs,h1,d⟩:=bh.1 h0;cases ai.1 d;obtain⟨rfl,g1,g2⟩:=qF h1;have a:=g _ (Zah _) ω
 let mi:MI:=⟨w.heap.size,0,C.size,0,0,true⟩
 have c:=cL.alloc (o:=.cells l e false) (ob:=.cells C e) (mi:=mi) f a rfl ⟨⟨rfl,rfl,by show C.size=l.length;rw[hl.1,Zba]⟩,C,(0,0),by show(w.heap.push _)[w.heap.size]?=_;simp,rfl,by show 0+l.length<=C.size;rw[hl.1,Zba];omega,λi u hu=>by
  have⟨j,k,a2⟩:=hl.get hu;exact⟨j,by grind,a2.mono (Pm.qK (mi:=mi) a)⟩,λ_=>.inl rfl⟩
 refine⟨M.add s.nx mi,.pointer (some ⟨w.heap.size,0,none⟩),_,by rfl,?_,by rw[g1,g2];exact c⟩;exact VR.ptr (mi:=mi) (o:=0) (by simp[Pm.add]) rfl
theorem lL (S:aP D) {t:TypeId} {n k:Nat} {it:TypeInfo} (h:(vq D s m (o:Int) (n:Int) k (dg c)).H (v,s')) (V:At M m o n I) (j:ey M s.h.get w)
  (ht:P.underlying e=some (.slice t)) (r:P.info? t=some it) (x:it.zero=some b) (hzv:VR M c b) (h0:F[0]?=some e) (h1:G[0]?=some I):vw s M w ((Builtin.clear_ F Z G).run P w) v s':=by
 have d:VR M (undef:AV D.E) (.tuple #[]):=.tuple rfl (λi v v' t=>by cases t);have⟨⟨z,xs,e2,ro⟩,T,N⟩:=af.1 h;have l:=jw T;have⟨ty,O⟩:=bm.1 N;have⟨_,Q⟩:=bm.1 O;have⟨y,hy,B⟩:=af.1 Q;cases ro with
 | true=>exact B.elim
 | false=>
  have⟨s2,g,R⟩:=af.1 (B);cases ai.1 R;have⟨g1,g2⟩:=kI g;have⟨mi,C,A⟩:=V;have⟨Mc,f,hl,p,U⟩:=j.obj m _ l;rw[C] at f;cases f;simp only at hl p l;have K:np ↑n y=List.replicate n y:=by rfl
  have L:(List.replicate n y).take n=List.replicate n y:=ZaA (by simp);rw[K,Dm,L] at g1;have u:LR M (aM z (List.replicate n y)) (Builtin.zeroCells b.cells n).toList:=by
   grind [oS,zP,vA,fi]
  have a:n=0->s'.h.get=s.h.get:=λW=>by
   rw[g1];funext q;unfold iY;simp_all
  rcases A with⟨Y,X,W,cap,rfl⟩ | ⟨rfl,J,cap,rfl⟩
  ·have⟨q1,q2⟩:=J9 (P:=P) S l C Y j u (o:=o) (by grind) s.nx;cases n with
   | zero=>
    refine⟨M,.tuple #[],w,?_,d,by rw[a rfl,g2];exact .refl j _⟩;simp[Builtin.clear_,h0,h1,Zza ht]
   | succ n=>
    refine⟨M,.tuple #[],_,?_,d,by rw[g1,g2];exact q2⟩;simp only[Builtin.clear_,h0,h1,Zzd,Zzb,Zza ht,rN r x];rw[q1];rfl
  ·refine⟨M,.tuple #[],w,?_,d,by rw[a rfl,g2];exact .refl j _⟩;cases J<;>simp[Builtin.clear_,h0,h1,Zza ht]
theorem Pz (h:VR M (.own m o Y) b):∃k:Nat,Y=k/\At M m 0 k b:=by
 cases h with
 | own h hk c a e f ht=>exact⟨_,a,_,h,.inl ⟨c,ω,e,_,by rw[ZbS,Zbn]⟩⟩
 | l5 h hk c a hl=>exact⟨0,a,_,h,.inr ⟨rfl,_,_,rfl⟩⟩
theorem PA (h:VR M (.pre m o Y) b):∃k:Nat,Y=k/\At M m 0 k b:=by
 cases h with
 | pre h hk c a f hl e ht=>exact⟨_,a,_,h,.inl ⟨c,ω,ω,_,by rw[ZbS,Zbn]⟩⟩
 | oP h hk c a hl=>exact⟨0,a,_,h,.inr ⟨rfl,_,_,rfl⟩⟩
def Dr (q:aP D) {ty:TypeId} (h:(JS P D s e v).H (c,s')) (r:VR M v b) (m:ey M s.h.get w) (h0:F[0]?=some e) (h1:G[0]?=some b):
  vw s M w ((Builtin.clear_ F ty G).run P w) c s':=by
 have⟨C,p,I⟩:=af.1 h;have⟨t,A,J⟩:=af.1 I;have⟨z,hz,K⟩:=af.1 J;have⟨k,hk,g⟩:=af.1 K;rw[gR] at p;have a:P.underlying e=some (.slice t):=by cases C<;>first | (cases ai.1 A;exact p) | exact A.elim
 have⟨it,S,x,f,d⟩:=mB hz;cases v<;>simp only at g<;>(try exact g.elim)
 case cF=>
  cases ai.1 g;cases r;exact vw.pure m (v':=.tuple #[]) (by simp[Builtin.clear_,h0,h1,Zza a]) (.tuple rfl (λi c v' t=>by cases t))
 case own B k0 n=>
  obtain⟨k,rfl,j⟩:=Pz r;exact lL q g j m a x f (d M) h0 h1
 case pre B k0 n=>
  obtain⟨k,rfl,j⟩:=PA r;exact lL q g j m a x f (d M) h0 h1
 case part B k0 o n=>
  cases r with
  | part l u N y L hl R Q=>
   subst y;obtain⟨O,rfl⟩:∃k:Nat,o=k:=⟨o.toNat,ω⟩;rw[Zad] at hl;exact lL q g ⟨_,l,.inl ⟨N,hl,ω,_,by rfl⟩⟩ m a x f (d M) h0 h1
  | jB l u y L=>
   subst y;obtain⟨O,rfl⟩:∃k:Nat,o=k:=⟨o.toNat,ω⟩;exact lL (n:=0) q g ⟨_,l,.inr ⟨rfl,_,_,rfl⟩⟩ m a x f (d M) h0 h1
theorem ud (d:aP D) {xs:List (D.E D.bc)} (h:LR M (aM D.bc xs) V):V=(D.yL xs).map λb=>Value.int .u8 b.toNat:=by
 rw[qM d] at h;apply Zb6;intro i;cases e:(D.yL xs)[i]? with
 | none=>
  have hl:=h.1;grind
 | some b=>
  have⟨f,h1,c⟩:=h.get (i:=i) (v:=.int .u8 b.toNat) (by grind);rw[h1,Zbk,e];cases c;rfl
theorem wI:∀{cs:List (AV D.E)} {i:Nat} {r:List (AV D.E)} {a:List Value},(JN D W cs i).H r->LR M cs a->
  LR M r (((W.drop i).take cs.length).map (λb=>Value.int .u8 b.toNat)++a.drop ((W.drop i).take cs.length).length)
 | [],i,r,a,h,hl=>by
  cases ai.1 (h);assumption
 | v::cs,i,r,a,h,hl=>by
  have⟨k,n,p,h0⟩:=bh.1 (show(aI (cT v) λk n=>bB (Bi k .u8) (av (JN D W cs (i+1)) λr=>.ret (.int .u8 (cj (ax ↑i (eO W)) (sat W ↑i) n)::r))).H r from h);have⟨hk,h1⟩:=bm.1 h0;obtain rfl:=fT.1 hk;have⟨q,o,m⟩:=af.1 h1;cases ai.1 m;obtain⟨s,rest,rfl,g,c⟩:=hl.bX;have d:=wI o c;obtain⟨rfl,f⟩:=iE p g;by_cases hi:i<W.length
  ·have e:(W.drop i).take (cs.length+1)=W[i]::(W.drop (i+1)).take cs.length:=by
    grind [List.drop_eq_getElem_cons]
   rw[Zae,e,Zae,Zc8];refine .cons ?_ d;have e2:cj (ax ↑i (eO W)) (sat W ↑i) n=(W[i].toNat:Int):=by
    grind [ax,eO,cj,sat]
   rw[e2];exact .int (rM _)
  ·have e:W.drop i=[]:=Zbu ω;have j:W.drop (i+1)=[]:=Zbu ω;rw[j] at d;rw[e];simp only[Zdl,ZbQ] at d ⊢;refine .cons ?_ d;have e2:cj (ax ↑i (eO W)) (sat W ↑i) n=n:=by
    grind [ax,eO,cj]
   rw[e2];exact .int f
theorem nA (h:(sZ D s m o []).H s'):s'.h.get=s.h.get/\s'.nx=s.nx:=by
 have⟨cs,e,hw,c⟩:=bh.1 h;have⟨a,f,d⟩:=af.1 c;have⟨g,i⟩:=kI d;have⟨p1,p2,p3⟩:=jd (bu.1 f);have j:=BF hw;have e:a=cs:=by
  apply Zb6;grind
 subst e;refine⟨?_,i⟩;rw[g];grind [iY]
theorem Mg (J:aP D) {ty:TypeId} (h:(Qbq P D cd s e v c).H (U,s')) (hd:VR M v b) (hx:VR M c I) (vs:ey M s.h.get w) (h0:F[0]?=some e) (h1:G[0]?=some b) (Q:G[1]?=some I):
  vw s M w ((Builtin.copy_ F ty G).run P w) U s':=by
 have⟨dt,hdt,h3⟩:=af.1 h;have⟨t,he,h4⟩:=af.1 h3;have⟨x,hc,d⟩:=af.1 h4;rw[gR] at hdt;have f:P.underlying e=some (.slice t):=by cases dt<;>first | (cases ai.1 he;exact hdt) | exact he.elim
 have⟨cI,_⟩:=rQ hc;cases v<;>simp only at d<;>(try exact d.elim)
 case own d' k0 n=>
  obtain⟨k,rfl,V⟩:=Pz hd;exact nz J d V hx vs f cI h0 h1 Q
 case pre d' k0 n=>
  obtain⟨k,rfl,V⟩:=PA hd;exact nz J d V hx vs f cI h0 h1 Q
 case part d' k0 o n=>
  cases hd with
  | part j hke hr hn ho hl hm hc=>
   subst hn;obtain⟨o',rfl⟩:∃k:Nat,o=k:=⟨o.toNat,ω⟩;rw[Zad] at hl;exact nz J d ⟨_,j,.inl ⟨hr,hl,ω,_,by rfl⟩⟩ hx vs f cI h0 h1 Q
  | jB j hke hn ho=>
   subst hn;obtain⟨o',rfl⟩:∃k:Nat,o=k:=⟨o.toNat,ω⟩;exact nz (n:=0) J d ⟨_,j,.inr ⟨rfl,_,_,rfl⟩⟩ hx vs f cI h0 h1 Q
 case sub d' o n=>
  have⟨hcb,h6⟩:=bm.1 d;rw[aF] at hcb;subst hcb;have⟨B,h7⟩:=bm.1 h6;have B:=b9.1 B;rw[J.b1] at cI;have hvn:∀m:Nat,m<=9223372036854775807->VR M (.int .i64 ↑m:AV D.E) (goInt m):=λm hm=>.int (jv hm)
  by_cases hsub:∃b' o' ts,c=.sub b' o' ts
  ·obtain⟨b',o',ts,rfl⟩:=hsub;have⟨cs,X,h8⟩:=af.1 h7;have⟨l,hl,h9⟩:=af.1 h8;have⟨z,R⟩:=bm.1 h9;have⟨s2,p,S⟩:=af.1 R;have⟨cv,Y,T⟩:=af.1 S;cases ai.1 T;have Y:=rL.1 (bu.1 Y);subst Y;obtain⟨N,rfl⟩:=jc (bu.1 hl);rw[mz] at p z N;rw[BD] at p z N ⊢;have hmn:Nat.min ts n=min ts n:=rfl
   
   have Z:∃y,LR M ((cs.drop o').take (min ts n)) y/\y.length=min ts n/\(Builtin.firstCells 1 (min ts n) I).run P w=.ok y.toArray w/\(∀w2:World,(Builtin.lenOf I).run P w2=.ok ts w2):=by
    cases hx with
    | sub j hr hcc _=>
     have⟨e2,ro,hb⟩:=pK X;have⟨Mc,x',_,W⟩:=vs.obj b' _ hb;rw[j] at x';cases x';have⟨y,q1,q2,q3⟩:=((W.rd.drop o').take (min ts n)).run (P:=P);have hle:((cs.drop o').take (min ts n)).length=min ts n:=by grind
     rw[hle] at q2 q3;exact⟨y,q1,q2,by grind [Builtin.firstCells],λw2=>by rfl⟩
    | oQ=>
     refine⟨[],?_,by simp,by rfl,λw2=>by rfl⟩;simpa using LR.nil
   have⟨y,q1,q2,q3,q4⟩:=Z;have hb64:min ts n<=9223372036854775807:=ω;cases hd with
   | sub j hr hcc _=>
    have⟨r1,r2⟩:=wE (P:=P) p j vs q1 z;refine⟨M,_,_,?_,.num (jv hb64),r2⟩;simp only[Builtin.copy_,h0,h1,Q,Zzd,Zzb,Zza f,q4,cy cI,q3];rw[r1];rfl
   | oQ=>
    have hz:min ts 0=0:=ω;rw[hz] at p q2 q3 ⊢;have hv0:=Zap q2;subst hv0;refine⟨M,_,w,?_,.num (jv (Zaj _)),by rw[(nA p).1,(nA p).2];exact .refl vs _⟩;have QdK:Nat.min ts 0=0:=by assumption
    simp[Builtin.copy_,h0,h1,Q,Zza f,q4,cy cI,q3,storeCells,goInt]
  ·have h8:(av (rowsOf D s D.bc c) λg=>av (pF s d') λcs=>av (cE (tV n (oo o cs))) λl=>av (JN D (D.yL g) l (nat_lit 0)) λl=>av (sZ D s d' o l) λs=>.ret (.int .i64 (fN (.ofNat n) (eO (D.yL g))),s)).H (U,s'):=by
    grind
   have⟨g,hys,h9⟩:=af.1 h8;have⟨cs,X,R⟩:=af.1 h9;have⟨l,hl,S⟩:=af.1 R;have⟨r,K,T⟩:=af.1 S;have⟨s2,p,h13⟩:=af.1 T;cases ai.1 h13;obtain⟨N,rfl⟩:=jc (bu.1 hl);rw[mz] at K N;have⟨news,L⟩:=nv (P:=P) J hys hx vs;have hbl:=J.bl g;have hmin:Nat.min g.length n<=g.length:=ZdI _ _;have a:=L.cells (Nat.min g.length n) hmin w rfl;rw[J.b1,Zb8] at a;have hmn:Nat.min g.length n=min g.length n:=rfl;have O:VR M (.int .i64 (fN (Int.ofNat n) (eO (D.yL g))):AV D.E) (goInt (Nat.min g.length n)):=by
    grind [eO,J']
   cases hd with
   | @sub _ _ _ cap0 mi j hr hcc _=>
    have⟨cs0,e0,hw0,k1⟩:=bh.1 p;have⟨cs1,hp1,k2⟩:=af.1 k1;have⟨g1,g2⟩:=kI k2;have hb:=BF hw0;have⟨e3,ro3,hb3⟩:=pK X;rw[hb] at hb3;cases hb3;have⟨Mc,x',hr3,W⟩:=vs.obj d' _ hb;rw[j] at x';cases x';have⟨C,fz,c1,c2,c3,c4,c5⟩:=W;have⟨p1,p2,p3⟩:=jd (bu.1 hp1);have⟨old,hold,hc0⟩:=((OE.rd ⟨C,fz,c1,c2,c3,c4,c5⟩).drop o).take n |>.list
    have hln:((cs.drop o).take n).length=n:=by grind
    have A:=wI K hold;rw[ZbQ,hln] at A;have htk:(D.yL g).take n=(D.yL g).take (Nat.min g.length n):=by
     grind
    have hvs:((D.yL g).take n).map (λd'=>Value.int .u8 d'.toNat)=news.take (Nat.min g.length n):=by rw[htk,List.map_take,(ud J L.lr)]
    rw[hvs] at A;have hvl:(news.take (Nat.min g.length n)).length=Nat.min g.length n:=by
     grind
    have QnC:((D.yL g).take n).length=Nat.min g.length n:=by
     grind
    rw[QnC] at A;have z:∀u∈news.take (Nat.min g.length n),u.oneCell':=by
     rw[<-hvs];intro u hu;obtain⟨q,_,rfl⟩:=ZcL.1 hu;rfl
    generalize news.take (Nat.min g.length n)=y at A a hvl z;have hk:Nat.min g.length n<=n:=ZcW _ _;generalize hkk:Nat.min g.length n=k at A a hvl hk O;have hrl:r.length=n:=by
     have h20:r.length=y.length+(old.length-k):=by rw[A.1];simp
     have h21:=hold.1;omega
    have hol:old.length=n:=by rw[<-hold.1,hln]
    have⟨d1,d2,d3⟩:=rP (o1:=.cells cs1 e0 false) (q:=mi.sh+o) (vs':=y) vs hb rfl j hr c1 c2 ω (c5 rfl) (λ_=>trivial) (λC' w1 w2 w3=>⟨⟨hr3.1,hr3.2.1,ω⟩,C',fz,w1,w2.trans c2,ω,λi u hi=>by
     rw[p3 i] at hi;rw[w3];by_cases hc:o<=i/\i<o+r.length
     ·rw[Zac hc] at hi;have⟨v',a1,a2⟩:=A.get hi;by_cases hik:i-o<k
      ·rw[ show mi.sh+i-(mi.sh+o)=i-o by omega];grind
      ·rw[Zaa ω];rw[Zaz ω,ZbX,hvl,show k+(i-o-k)=i-o by omega] at a1;have:=hc0 (i-o) v' a1;refine⟨v',?_,a2⟩;simp only[World.cell?] at this;grind
     ·rw[Zaa hc] at hi;rw[Zaa ω];exact c4 i u hi,c5⟩) s.nx
    refine⟨M,_,_,?_,O,by rw[g1,g2];exact d3⟩;simp only[Builtin.copy_,h0,h1,Q,Zzd,Zzb,Zza f,L.len,cy cI,hkk,a];rw[(run_storeCells_cells (P:=P) mi.bN (mi.sh+o) y 0 w (by assumption) (by assumption) z)];rfl
   | oQ=>
    have hz:Nat.min g.length 0=0:=ω;rw[hz] at a O;rw[ZcA] at a;have QnD:r=[]:=by
     rw[ZcA] at K;cases ai.1 (K);rfl
    subst QnD;refine⟨M,_,w,?_,O,by rw[(nA p).1,(nA p).2];exact .refl vs _⟩;simp[Builtin.copy_,h0,h1,Q,Zza f,L.len,cy cI,a,storeCells]
theorem GB (h:dU8 d):d=.int .u8:=by
 cases d<;>simp only[dU8] at h<;>(try cases h);grind
theorem ue {a:TypeDesc} (h:(vp D a Y X).H v) (hs:P.underlying e=some d) (b:P.underlying Z=some a):∃src,(∀w,(convert e Z (.int k Y)).run P w=.ok src w)/\VR M v src:=by
 cases a<;>simp only[vp] at h<;>(try exact h.elim)
 case int f=>
  refine⟨.int f (f.wrap Y),λw=>by simp[convert,Zza hs,Zza b,Conv.intToInt],?_⟩;cases X with
  | true=>
   have⟨c,g,h1⟩:=af.1 (h);cases ai.1 h1;have:=bu.1 g;rw[gQ,jC] at this;subst this;exact .num (cu _ _)
  | false=>cases ai.1 (h);exact .int (cu _ _)
 case string=>
  cases ai.1 h;refine⟨.string (Utf8.encode Y),λw=>by simp[convert,Zza hs,Zza b,Conv.intToString],?_⟩;have hl:(Utf8.encode Y).data.toList.length<=9223372036854775807:=by
   grind [Utf8.encode]
  exact .str hl
theorem uf:∀(l':List Value) (r:List UInt8) (s0:ByteArray),l'.length=r.length->(∀(i:Nat) (v:Value),l'[i]?=some v->∃m:Nat,v=.int .u8 m/\r[i]?=some (UInt8.ofNat m))->∀w,
  ((forIn l' s0 λc (s:ByteArray)=>(match c with
   | .int .u8 n=>Pure.pure (ForInStep.yield (s.push (UInt8.ofNat n.toNat)))
   | _=>do
    stuck "bytesToString: byte expected"
    Pure.pure (ForInStep.yield s):Sem (ForInStep ByteArray)):Sem ByteArray)).run P w=.ok ⟨⟨s0.data.toList++r⟩⟩ w
 | [],r,s0,hl,_,w=>by
  have:r=[]:=Zap (by grind);simp_all
 | v::l',r,s0,hl,h,w=>by
  cases r with
  | nil=>simp at hl
  | cons b r=>
   obtain⟨m,rfl,e⟩:=h 0 v rfl;have eb:b=UInt8.ofNat m:=by grind
   have ih:=uf l' r (s0.push (UInt8.ofNat m)) (by grind) (λi v hv=>h (i+1) v (by assumption)) w;simp_all
theorem GC {xs:List (D.E o)} {a:MI} {H:Hp D} {r:Nat×Nat} (b:ey M H w) (n:H m=some (.arr o xs e false)) (i:M.pl m=some a) (k:a.real) (h1:a.je=1) (t:w.heap[a.bN]?=some (.cells G e r)) (cI:G.size=a.qE) (lo:Nat):
  cL H M w H M (w.freeze ⟨a.bN,G.size,none⟩ 1) lo lo:=by
 have⟨u,g,hl,q,p⟩:=b.obj m _ n;rw[i] at g;cases g;have⟨A,s,k1,k2,k3,k4,k5⟩:=p k;rw[t] at k1;cases k1;have hk:∀x,x≠a.bN->(w.freeze ⟨a.bN,G.size,none⟩ 1).heap[x]?=w.heap[x]?:=λx B=>by
  grind [World.freeze]
 have hw:∃d:Nat×Nat,(w.freeze ⟨a.bN,G.size,none⟩ 1).heap[a.bN]?=some (.cells G e d)/\a.qE<=d.1:=by
  grind [World.freeze]
 have⟨d,y,z⟩:=hw;have f:∀j,M.sg a.bN j=none:=λj=>b.sep m _ a n rfl i k j trivial
 have:=cL.upon (M1:=M) (sg1:=M.sg) (b0:=m) (b1:=m) (o1:=.arr o xs e false) (BC:=a) (w':=w.freeze ⟨a.bN,G.size,none⟩ 1) (lo:=lo) (hi:=lo) b n rfl i k k rfl (by
   cases M with
   | mk pl sg=>
    congr 1;funext o;by_cases e:o=m
    ·rw[Zac e,e];exact i
    ·rw[Zaa e]) (.inl ⟨rfl,rfl,rfl⟩) (λ_ _ _ h=>h) (λ_ _ h=>.inl h) (by grind [World.freeze]) hk (by rfl) (by rfl) (by rfl)
  ⟨hl,q,λ_=>⟨G,d,y,cI,k3,k4,λ_=>.inr ⟨z,h1⟩⟩⟩
  (λc v h=>by grind) (λ_ j _=>f j) (λo xs e h=>by cases h)
 have e2:(λl=>if l=m then some (.arr o xs e false) else if l=m then none else H l)=H:=by
  grind
 grind
theorem GD (p:aP D) (h:(O5 P D cd X s e Z v).H (c,s')) (J:VR M v b) (L:ey M s.h.get w) (hf:bR M s.nx s'.nx):vw s M w ((convert e Z b).run P w) c s':=by
 have⟨ds,j,h1⟩:=af.1 h;have⟨dst,g,m⟩:=af.1 h1;rw[gR] at j g
 
 have sl:∀{y:AV D.E},y=v->(Gm P D cd s ds dst y).H (c,s')->(∀l,b≠.string l)->vw s M w ((convert e Z b).run P w) c s':=by
  intro y hy o hns;subst hy;have⟨src,R,A⟩:=af.1 o;have U:P.underlying e=some (.slice src):=by cases ds<;>first | (cases ai.1 R;exact j) | exact R.elim
  cases dst<;>simp only at A<;>(try exact A.elim)
  case string=>
   have⟨de,f,N⟩:=af.1 A;have⟨hu,O⟩:=bm.1 N;have⟨x,Q,h7⟩:=af.1 O;have⟨hcb,h8⟩:=bm.1 h7;have⟨t,hys,h9⟩:=af.1 h8;cases ai.1 h9;rw[gR,GB hu] at f;have⟨news,r⟩:=nv (P:=P) p hys J L;have F:=ud p r.lr;have hbl:=p.bl t;have d:=r.cells t.length (Zah _) w rfl;have hnl:news.length=t.length:=by grind
   rw[p.b1,Zb8,<-hnl,ZaM] at d;have hlen:=r.len w;have q:=uf (P:=P) news (D.yL t) ByteArray.empty ω (λi c W=>by
    rw[F,Zbk] at W;cases hq:(D.yL t)[i]? with
    | none=>rw[hq] at W;cases W
    | some Y=>rw[hq] at W;cases W;exact⟨Y.toNat,rfl,by simp⟩) w
   have K:(D.yL t).length<=9223372036854775807:=by
    rw[hbl];exact r.max
   refine vw.pure L (v':=.string ⟨⟨D.yL t⟩⟩) ?_ (.str K)
   
   cases b<;>simp only[Builtin.lenOf] at hlen<;>(try (simp at hlen;done))
   case string l=>exact absurd rfl (hns l)
   case slice ad n cap=>
    have hn:n=t.length:=by simp_all
    subst hn;cases ad with
    | none=>
     simp only[Builtin.firstCells,Zzc,Result.ok.injEq] at d;have h20:news=[]:=by
      grind
     have h21:D.yL t=[]:=by
      grind
     rw[h21];simp[convert,Zza U,Zza g,Zza f];rfl
    | some a0=>
     simp only[Builtin.firstCells] at d;simp only[convert,Zza U,Zza g,Zza f,Conv.bytesToString,Zzd,Zzb];simp_all
 cases v<;>simp only at m<;>(try (refine sl rfl m (λl src=>?_);subst src;cases J;done))
 case own Y k n=>
  rcases im.1 m with⟨_,o⟩ | ⟨_,o⟩
  ·have⟨e0,S,A⟩:=af.1 o;have⟨src,R,N⟩:=af.1 A;have⟨G,O⟩:=bm.1 N;have⟨hk1,h7⟩:=bm.1 O;have⟨de,f,h8⟩:=af.1 h7;have⟨hu,h9⟩:=bm.1 h8;have⟨ar,har,h10⟩:=af.1 h9;rcases im.1 h10 with⟨_,z⟩ | ⟨hro,z⟩
   ·exact z.elim
   have⟨hn,h12⟩:=cN.1 z;cases ai.1 h12;have V:P.underlying e=some (.slice e0):=by cases ds<;>first | (cases ai.1 S;exact j) | exact S.elim
   have hd1:P.underlying Z=some (.slice src):=by cases dst<;>first | (cases ai.1 R;exact g) | exact R.elim
   rw[gR,GB hu] at f;have G:=aF.1 G;subst G;have q:=jw har;rw[hro] at q;cases J with
   | l5 h hk hr B hl=>rw[B] at hn;exact absurd hn (by decide)
   | own h hk hr B hm0 Q ht=>
    rename_i cap mu
    have⟨Mc,T,_,_,hcl⟩:=L.obj Y _ q;rw[h] at T;cases T;have⟨C,fz,k1,k2,_⟩:=hcl hr;refine⟨M,.slice (some ⟨mu.bN,mu.sh,none⟩) mu.len cap,w.freeze ⟨mu.bN,C.size,none⟩ 1,?_,.own h hk hr B hm0 Q ht,GC L q h hr (hk.trans (aF.1 hk1)) k1 k2 _⟩;have hsh:w.shape? mu.bN=some (ar.e,C.size):=by unfold World.shape?;rw[k1]
    simp[convert,Zza V,markStringish];cases V.symm.trans hd1;simp[Zza f,hsh]
  ·refine sl rfl o (λl src=>?_);subst src;cases J
 case int k n=>
  have⟨v2,I,o⟩:=af.1 m;cases ai.1 o;cases J;have⟨v',k1,k2⟩:=ue (M:=M) (k:=k) I j g;grind [vw.pure]
 case num k n=>
  have⟨v2,I,o⟩:=af.1 m;cases ai.1 o;cases J;have⟨v',k1,k2⟩:=ue (M:=M) (k:=k) I j g;grind [vw.pure]
 case str l=>
  cases J with
  | str hl=>
  replace m:=(bm.1 m).2;cases dst<;>simp only at m<;>(try exact m.elim)
  case string=>
   cases ai.1 m;refine vw.pure L (v':=.string ⟨⟨l⟩⟩) ?_ (.str hl);cases ds<;>simp[convert,Zza j,Zza g]
  case slice src=>
   have⟨de,f,o⟩:=af.1 m;have⟨hu,A⟩:=bm.1 o;have⟨x,Q,N⟩:=af.1 A;have⟨xs,hxs,O⟩:=af.1 N;obtain⟨rfl,hq⟩:=cC hxs;cases hq;rw[gR,GB hu] at f;have hbs:(⟨⟨l⟩⟩:ByteArray).size=l.length:=rfl;have hol:(D.ofB l).length=l.length:=by rw[<-p.bl,p.bo]
   have hge:=grownCap_ge w l.length 0 src;have hCs:(Lib.bytesCells w src ⟨⟨l⟩⟩).size=grownCap w l.length 0 src:=by
    grind [Lib.bytesCells]
   have⟨M',k1,k2⟩:=nu (w:=w) (w':=Lib.bytesWorld w src ⟨⟨l⟩⟩) (C:=Lib.bytesCells w src ⟨⟨l⟩⟩) (cap:=grownCap w l.length 0 src) p O L hf (by rw[Lib.bytesWorld_size];omega) (λx Q=>Lib.bytesWorld_at_old w src _ x Q) (Lib.bytesWorld_at_new w src _) (.inr ⟨Zah _,p.b1⟩) rfl rfl rfl
    (λi u hu=>by
     rw[qM p,p.bo,Zbk] at hu;cases q:l[i]? with
     | none=>rw[q] at hu;cases hu
     | some Y=>
      rw[q] at hu;cases hu;have hi:=(Zam.1 q).1;refine⟨.int .u8 Y.toNat,?_,.int (rM Y)⟩;unfold Lib.bytesCells;rw[ZbT (by grind),Zdg];show(l.toArray[i]?).map _=_
      rw[Zc0,q];rfl) (by rw[hCs,p.b1,Zb8]) ω ω
   refine⟨M',_,_,(Lib.run_convert_string_bytes (P:=P) w e Z src ⟨⟨l⟩⟩ j g f),?_,k2⟩;grind
end
end sx
end Go.Proofs.YtadfknojfbmjgaaGreat
