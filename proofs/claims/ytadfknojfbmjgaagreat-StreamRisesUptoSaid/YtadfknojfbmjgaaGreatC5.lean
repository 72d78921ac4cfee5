/- StreamRises: a part of the proof. -/
import Derived.Test.YtadfknojfbmjgaaGreatC4
import Derived.Laws.StructEq
set_option linter.all false
namespace Go.Proofs.YtadfknojfbmjgaaGreat
namespace sx
open Go Go.RowKit
section
variable {P:Program} {D:Data} {cd:TypeId->Option Nat} {M M':Pm D} {φ:T (AV D.E)} {a:Act} {N:Nat} {w w':World} {H:Hp D} {s s':St D.E}
variable {m y l:Nat} {e d F:Option Value} {x X W:Option (AV D.E)} {Z U:TypeId} {Y v L:AV D.E} {z:Value} {h V:Int} {O:Option Addr}
variable {K J:Nat}
def Mh (M:Pm D) (x:Option (AV D.E)) (b:Option Value):Prop:=(x=none/\b=none)\/∃u a,x=some u/\b=some a/\VR M u a
theorem Mh.map {v:Option Operand} (h:(evO P D φ v).H x) (b:FR M φ a N):Mh M x (v.map a.eval):=by
 cases v with
 | none=>cases ai.1 (h);exact .inl ⟨rfl,rfl⟩
 | some y=>
  have⟨u,hu,h1⟩:=af.1 (h);cases ai.1 h1;exact .inr ⟨u,_,rfl,rfl,dW hu b⟩
theorem cO {k:IntKind} (h:m<=y) (code:BoundsCode) (w:World):(Instr.sliceBound (.int k (m:Int)) y code).run P w=.ok m w:=by
 grind [Instr.sliceBound,asIntOf,Sem.run_pure]
theorem eH {b:Bool} (c:(F=none/\J=y)\/∃k,F=some (.int k (J:Int))/\J<=y)
  (a:(d=none/\F=none/\K=m)\/∃k,d=some (.int k (K:Int))/\K<=J) (hl:(e=none/\l=0)\/∃k,e=some (.int k (l:Int))/\l<=K) (w:World):
  (Instr.sliceBounds b m y e d F).run P w=.ok (l,K,J) w:=by
 rcases c with⟨rfl,rfl⟩ | ⟨k1,rfl,c⟩<;>rcases a with⟨rfl,h0,rfl⟩ | ⟨k2,rfl,a⟩<;>rcases hl with⟨rfl,rfl⟩ | ⟨k3,rfl,hl⟩
 all_goals first
  | (cases h0;done)
  | (simp only[Instr.sliceBounds,Zzd,Zzc,Zzb,cO c,cO a,cO hl])
  | (simp only[Instr.sliceBounds,Zzd,Zzc,Zzb,cO c,cO a])
  | (simp only[Instr.sliceBounds,Zzd,Zzc,Zzb,cO a,cO hl])
  | (simp only[Instr.sliceBounds,Zzd,Zzc,Zzb,cO a])
  | (simp only[Instr.sliceBounds,Zzd,Zzc,Zzb,cO hl])
  | (simp only[Instr.sliceBounds,Zzd,Zzc,Zzb])
theorem gp {size:Nat} (ht:P.underlying Z=some (.slice U)) (hs:uI P U=some m)
  (a:∀w,(Instr.sliceBounds true y l e d F).run P w=.ok (K,J,size) w) (w:World):
  (Instr.sliceAt Z (.slice O y l) e d F).run P w=.ok (.slice (if size=K then O else O.map (·.add (K*m))) (J-K) (size-K)) w:=by
 simp only[Instr.sliceAt,Zzd,Zza ht,Zzb,Instr.slice,a,cy hs,Zzc]
theorem wJ {α:Type} {xs r:List α} (h:(L' D xs x X W).H r) (G:Mh M x e) (C:Mh M X d) (I:Mh M W F):∃l a:Nat,l<=a/\a<=xs.length/\r=(xs.take a).drop l/\
  ∀cap,xs.length<=cap->∃m,a<=m/\m<=cap/\∀(b:Bool) (w:World),(Instr.sliceBounds b xs.length cap e d F).run P w=.ok (l,a,m) w:=by
 have⟨_,h1,U⟩:=af.1 h;have⟨S,N,O⟩:=af.1 U
 
 obtain⟨a,hle,rfl,s⟩:∃a:Nat,a<=xs.length/\S=xs.take a/\((X=none/\d=none/\a=xs.length)\/∃k u,X=some u/\d=some (.int k ↑a)/\∀k2 v,(cT u).H (k2,v)->v=a):=by
  rcases C with⟨rfl,rfl⟩ | ⟨u,R,rfl,rfl,hu⟩
  ·cases ai.1 (N);simp_all
  ·have⟨k,n,i,j⟩:=bh.1 (show(aI (cT u) λ_ h=>ask (aC zI h) (ask (aC h (ab xs)) (.ret (bW xs h)))).H S from N);have⟨g,o⟩:=cN.1 j;have⟨p,c⟩:=cN.1 o;cases ai.1 c;obtain⟨rfl,_⟩:=iE i hu;have A:0<=n:=ZaH g;have B:n<=↑xs.length:=ZaH p;grind [bW,Qg5]
 obtain⟨l,t,rfl,f⟩:∃l:Nat,l<=a/\r=(xs.take a).drop l/\((e=none/\l=0)\/∃k,e=some (.int k ↑l)/\l<=a):=by
  have hlen:(xs.take a).length=a:=by grind
  rcases G with⟨rfl,rfl⟩ | ⟨u,R,rfl,rfl,hu⟩
  ·cases ai.1 (O);simp_all
  ·have⟨k,n,i,j⟩:=bh.1 (show(aI (cT u) λ_ l=>ask (aC zI l) (ask (aC l (ab (xs.take a))) (.ret (wg (xs.take a) l)))).H r from O);have⟨g,o⟩:=cN.1 j;have⟨p,c⟩:=cN.1 o;cases ai.1 c;obtain⟨rfl,_⟩:=iE i hu;have A:0<=n:=ZaH g;have B:n<=((xs.take a).length:Int):=ZaH p;grind [wg]
 refine⟨l,a,t,hle,rfl,λcap Q=>?_⟩;rcases I with⟨rfl,rfl⟩ | ⟨u,R,rfl,rfl,hu⟩
 ·refine⟨cap,ω,Zah _,λb w=>eH (.inl ⟨rfl,rfl⟩) ?_ f w⟩;grind
 ·have⟨k,m,i,j⟩:=bh.1 (show(aI (cT u) λ_ m=>av (cE X) λX=>aI (cT X) λ_ h=>ask (aC h m) (ask (aC m (ab xs)) (.ret ()))).H _ from h1);have⟨mx,g,o⟩:=af.1 j;have⟨k2,v,p,c⟩:=bh.1 o;have⟨lo,y⟩:=cN.1 c;have⟨z,_⟩:=cN.1 y;obtain⟨rfl,_⟩:=iE i hu;have L:m<=↑xs.length:=ZaH z;have K:=ZaH lo;rcases s with⟨J,_⟩ | ⟨k3,hi,J,e2,T⟩
  ·grind [bu]
  ·rw[ J] at g;cases g;have:=T k2 v p;subst this;obtain⟨V,rfl⟩:∃q:Nat,m=q:=⟨m.toNat,ω⟩;exact⟨V,ω,ω,λb w=>eH (.inr ⟨k,rfl,ω⟩) (.inr ⟨k3,e2,ω⟩) f w⟩
theorem wK {m:Int} (d:(iz D x h V).H m) (l:Mh M x e):(x=none/\e=none/\m=h)\/∃(k:IntKind) (q:Nat),m=q/\e=some (.int k (q:Int))/\m<=V:=by
 rcases l with⟨rfl,rfl⟩ | ⟨u,p,rfl,rfl,hu⟩
 ·cases ai.1 (d);exact .inl ⟨rfl,rfl,rfl⟩
 ·have⟨k,n,c,b⟩:=bh.1 (show(aI (cT u) λ_ m=>ask (aC zI m) (ask (aC m V) (.ret m))).H m from d);have⟨f,i⟩:=cN.1 b;have⟨j,a⟩:=cN.1 i;cases ai.1 a;obtain⟨rfl,_⟩:=iE c hu;have g:0<=m:=ZaH f;obtain⟨o,rfl⟩:∃q:Nat,m=q:=⟨m.toNat,ω⟩;exact .inr ⟨k,o,rfl,rfl,ZaH j⟩
theorem dd (h:(oK D x m y).H l) (b:Mh M x e):(x=none/\e=none/\l=m)\/∃k,e=some (.int k (l:Int))/\l<=y/\x≠none:=by
 rcases b with⟨rfl,rfl⟩ | ⟨u,a,rfl,rfl,hu⟩
 ·cases ai.1 (h);exact .inl ⟨rfl,rfl,rfl⟩
 ·have⟨n,c,h1⟩:=af.1 (h);grind [bm,ai,Gz,b9]
theorem Dt {Qg8:Option Value} (l:OZ D x) (b:(iz D x zI V).H h):h=0:=by
 cases x with
 | none=>exact(ai.1 (b)).symm
 | some v=>
  have⟨k,n,c,d⟩:=bh.1 (show(aI (cT v) λ_ m=>ask (aC zI m) (ask (aC m V) (.ret m))).H h from b);have⟨_,e⟩:=cN.1 d;have⟨_,a⟩:=cN.1 e;cases ai.1 a;cases v<;>simp only[OZ] at l<;>(try cases l)
  case num k2 f=>
   cases ai.1 c;rw[qL] at l;simpa [zI] using l
theorem oT:(some (⟨m,y,none⟩:Addr)).map (·.add l)=some ⟨m,y+l,none⟩:=by grind [Pw]
theorem BI {len cap:Nat} {base:Option Addr} (ht:P.underlying Z=some (.slice U)) (hs:uI P U=some m) (k:Mh M W F) (v:W=none) (y:(iz D X (len:Int) (len:Int)).H h) (hl:(iz D x zI h).H V)
  (j:Mh M x e) (r:Mh M X d) (o:len<=cap):∃b a:Nat,h=b/\V=a/\a<=b/\b<=len/\∀w,(Instr.sliceAt Z (.slice base len cap) e d F).run P w=.ok (.slice (if cap=a then base else base.map (·.add (a*m))) (b-a) (cap-a)) w:=by
 have g:F=none:=by rcases k with⟨_,U⟩ | ⟨u,z,U,_⟩;exact U;rw[v] at U;cases U
 subst g;obtain⟨b,rfl,n,p⟩:∃b:Nat,h=b/\b<=len/\((d=none/\b=len)\/∃q,d=some (.int q ↑b)):=by
  grind [wK]
 obtain⟨a,rfl,i,s⟩:∃a:Nat,V=a/\a<=b/\((e=none/\a=0)\/∃q,e=some (.int q ↑a)/\a<=b):=by
  rcases wK hl j with⟨_,e2,rfl⟩ | ⟨q,a,rfl,e2,lo⟩
  ·exact⟨0,rfl,Zaj _,.inl ⟨e2,rfl⟩⟩
  ·grind
 refine⟨b,a,rfl,rfl,i,n,λw=>?_⟩;grind [gp,eH]
theorem GF (_hD:aP D) (h:(O0 P D Z Y x X W).H v) (hx:VR M Y z) (J:Mh M x e) (I:Mh M X d) (C:Mh M W F):
  ∃S,(∀w,(Instr.sliceAt Z z e d F).run P w=.ok S w)/\VR M v S:=by
 have⟨G,hd,h1⟩:=af.1 h;rw[gR] at hd;cases G<;>simp only at h1<;>(try exact h1.elim)
 case string=>
  have⟨A,U⟩:=bm.1 h1;have⟨l,hl,K⟩:=af.1 U;have⟨r,x',L⟩:=af.1 K;cases ai.1 L;obtain⟨rfl,QuZ⟩:=mE hl hx;obtain⟨y,f,hln,Q,rfl,t⟩:=wJ (P:=P) x' J I C;have⟨m,_,_,hi⟩:=t l.length (Zah _);have O:F=none:=by
   rcases C with⟨_,B⟩ | ⟨u,u',B,_⟩
   all_goals grind
  subst O;refine⟨.string ⟨⟨(l.take f).drop y⟩⟩,λw=>?_,.str (by grind)⟩;have cI:(⟨⟨l⟩⟩:ByteArray).size=l.length:=rfl;simp only[Instr.sliceAt,Zzd,Zza hd,Zzb,Instr.slice,Option.isSome_none,ZaE,Za0,cI,hi,Zzc,ub ⟨⟨l⟩⟩ y f hln Q];grind [List.drop_take]
 case slice B=>
  have⟨k,hk,U⟩:=af.1 h1;rw[s7] at hk
  
  have lst:∀{c b o cap:Nat} {xs r:List (D.E c)},k=D.size c->(L' D xs x X W).H r->ck M b o c xs->xs.length<=9223372036854775807->xs.length<=cap->∃S,(∀w,(Instr.sliceAt Z (.slice (some ⟨b,o,none⟩) xs.length cap) e d F).run P w=.ok S w)/\VR M (.list c r) S:=by
   intro c b o cap xs r hkc x' rB V T;obtain⟨y,f,hln,Q,rfl,t⟩:=wJ (P:=P) x' J I C;have⟨m,hm1,hm2,hi⟩:=t cap T;refine⟨_,λw=>gp hd hk (hi true) w,?_⟩;have hlen:((xs.take f).drop y).length=f-y:=by grind
   by_cases hml:m=y
   ·have h0:f-y=0:=ω;have he:(xs.take f).drop y=[]:=Zap ω;rw[he,h0];exact .fh
   ·rw[Zaa hml,oT,<-hlen];refine .list (λi X j u hu=>?_) ω ω;have hi2:y+i<xs.length:=ω;have hg:((xs.take f).drop y)[i]=xs[y+i]:=by simp
    rw[hg] at hu;have:=rB (y+i) hi2 j u hu;grind
  have emp:∀{c cap:Nat} {ad:Option Addr} {r:List (D.E c)},(L' D ([]:List (D.E c)) x X W).H r->∃S,(∀w,(Instr.sliceAt Z (.slice ad 0 cap) e d F).run P w=.ok S w)/\VR M (.list c r) S:=by
   intro c cap ad r x';obtain⟨y,f,hln,Q,rfl,t⟩:=wJ (P:=P) x' J I C;have⟨m,hm1,hm2,hi⟩:=t cap (Zaj _);refine⟨_,λw=>gp hd hk (hi true) w,?_⟩;have h0:f-y=0:=by grind
   rw[h0];simp only[Zdl,List.drop_nil];exact .fh
  
  have Qg9:∀{b:Nat} {len cap:Nat} {s:MI} {h0 mx:Int},M.pl b=some s->s.je=k->s.real->len<=s.len->s.len<=9223372036854775807->s.len<=cap->s.sh+cap*s.je=s.qE->Option.isNone W->(iz D X ↑len ↑len).H h0->(iz D x zI h0).H mx->
    ∃S,(∀w,(Instr.sliceAt Z (.slice (some ⟨s.bN,s.sh,none⟩) len cap) e d F).run P w=.ok S w)/\VR M (zr D b k mx h0 (OZ D x)) S:=by
   intro b len cap s h0 mx g p x' hlen h64 hcap htot A N hl;obtain⟨f,y,rfl,rfl,hll,Q,R⟩:=BI (P:=P) (base:=some ⟨s.bN,s.sh,none⟩) (cap:=cap) hd hk C (by simpa using A) N hl J I ω;refine⟨_,R,?_⟩;unfold zr;cases hz:OZ D x with
   | true=>
    have:=Dt (Qg8:=e) hz hl;have hl0:y=0:=ω;subst hl0;have QnE:(if cap=0 then some (⟨s.bN,s.sh,none⟩:Addr) else(some (⟨s.bN,s.sh,none⟩:Addr)).map (·.add (0*k)))=some ⟨s.bN,s.sh,none⟩:=by
     split
     ·rfl
     ·rw[oT];simp
    rw[QnE];exact .pre g p x' rfl h64 ω hcap htot
   | false=>
    show VR M (.part b k ↑y ((f:Int) -↑y)) _
    have hsub:((f:Int) -↑y)=((f-y:Nat):Int):=ω;by_cases hcl:cap=y
    ·rw[Zac hcl];have h1:f-y=0:=ω;rw[hsub,h1];exact .jB g p rfl ω
    ·rw[ oT];have:=VR.part (M:=M) (b:=b) (k:=k) (l:=f-y) (cap:=cap-y) (o:=↑y) (n:=((f-y:Nat):Int)) g p x' rfl ω ω h64 ω;grind
  have Qha:∀{b:Nat} {s:MI} {h0 mx:Int},M.pl b=some s->s.je=k->s.real=false->s.len=0->Option.isNone W->(iz D X (0:Int) (0:Int)).H h0->(iz D x zI h0).H mx->
    ∃S,(∀w,(Instr.sliceAt Z (.slice none 0 0) e d F).run P w=.ok S w)/\VR M (zr D b k mx h0 (OZ D x)) S:=by
   intro b s h0 mx g p x' hlen A N hl;obtain⟨f,y,rfl,rfl,hll,Q,R⟩:=BI (P:=P) (len:=0) (base:=none) (cap:=0) hd hk C (by simpa using A) N hl J I (Zah _);refine⟨_,R,?_⟩;obtain rfl:f=0:=ω;obtain rfl:y=0:=ω;unfold zr;cases hz:OZ D x with
   | true=>exact .oP g p x' rfl hlen
   | false=>exact .jB g p (by simp) (by simp)
  cases Y<;>simp only at U<;>(try exact U.elim)
  case list c xs=>
   have⟨hkc,K⟩:=bm.1 U;have⟨r,x',L⟩:=af.1 K;cases ai.1 L;cases hx with
   | list hs V T=>exact lst (aF.1 hkc) x' hs V T
   | fh=>exact emp x'
  case grow c xs b=>
   have⟨hkc,K⟩:=bm.1 U;have⟨r,x',L⟩:=af.1 K;cases ai.1 L;cases hx with
   | grow g hr2 hl hz hs V T ht=>exact lst (aF.1 hkc) x' hs V T
   | j5 g hr2=>exact emp x'
  case cF=>
   cases hx;have⟨m,V,K⟩:=af.1 U;have⟨f,N,L⟩:=af.1 K;have⟨l,hl,lo⟩:=af.1 L;have hmh:Bool.and (Option.isSome W) (Option.isNone X)=false/\v=.cF:=by
    rcases im.1 lo with⟨_,h9⟩ | ⟨h8,h9⟩
    ·exact h9.elim
    ·grind [ai]
   obtain⟨hmh,rfl⟩:=hmh;have rm:=dd V C;have rh:=dd N I;have rl:=dd hl J;have m0:m=0:=ω;have h0:f=0:=ω;have mx:l=0:=ω;subst m0 h0 mx;have hi:∀w,(Instr.sliceBounds true 0 0 e d F).run P w=.ok (0,0,0) w:=λw=>eH (by
     rcases rm with⟨_,e2,_⟩ | ⟨q,e2,_⟩
     ·exact .inl ⟨e2,rfl⟩
     ·exact .inr ⟨q,e2,Zah _⟩) (by
     rcases rh with⟨e1,e2,_⟩ | ⟨q,e2,_⟩
     ·refine .inl ⟨e2,?_,rfl⟩;rcases C with⟨_,B⟩ | ⟨u,u',B,_⟩
      ·exact B
      ·rw[B,e1] at hmh;cases hmh
     ·exact .inr ⟨q,e2,Zah _⟩) (by
     rcases rl with⟨_,e2,_⟩ | ⟨q,e2,_⟩
     ·exact .inl ⟨e2,rfl⟩
     ·exact .inr ⟨q,e2,Zah _⟩) w
   refine⟨_,λw=>gp hd hk hi w,?_⟩;simp;exact .cF
  case own b k' n=>
   have⟨hq,K⟩:=bm.1 U;rw[iD,aF] at hq;obtain⟨rfl,A⟩:=hq;have⟨h0,N,L⟩:=af.1 K;have⟨mx,hl,lo⟩:=af.1 L;cases ai.1 lo;cases hx with
   | own g p x' f V T ht=>subst f;exact Qg9 g p x' (Zah _) V T ht A N hl
   | l5 g p x' f hlz=>subst f;exact Qha g p x' hlz A N hl
  case pre b k' n=>
   have⟨hq,K⟩:=bm.1 U;rw[iD,aF] at hq;obtain⟨rfl,A⟩:=hq;have⟨h0,N,L⟩:=af.1 K;have⟨mx,hl,lo⟩:=af.1 L;cases ai.1 lo;cases hx with
   | pre g p x' f V hle T ht=>subst f;exact Qg9 g p x' hle V T ht A N hl
   | oP g p x' f hlz=>subst f;exact Qha g p x' hlz A N hl
  case part b k' o n=>
   have⟨hq,K⟩:=bm.1 U;rw[iD,aF] at hq;obtain⟨rfl,A⟩:=hq;have⟨h0,N,L⟩:=af.1 K;have⟨mx,hl,lo⟩:=af.1 L;cases ai.1 lo;have key:∀{len cap:Nat} {base:Option Addr} {s:MI},n=↑len->M.pl b=some s->s.je=k'->0<=o->len<=cap->s.len<=9223372036854775807\/len=0->(len≠0->s.real/\o.toNat+len<=s.len/\base=some ⟨s.bN,s.sh+o.toNat*s.je,none⟩)->
     ∃S,(∀w,(Instr.sliceAt Z (.slice base len cap) e d F).run P w=.ok S w)/\VR M (Gk D b k' o mx h0 (OZ D x)) S:=by
    intro len cap base s f g p ho hcap h64 hne;subst f;obtain⟨f,y,rfl,rfl,hll,Q,R⟩:=BI (P:=P) (base:=base) (cap:=cap) hd hk C (by simpa using A) N hl J I hcap;refine⟨_,R,?_⟩;unfold Gk;have hsub:((f:Int) -↑y)=((f-y:Nat):Int):=ω;cases hz:OZ D x with
    | true=>
     have:=Dt (Qg8:=e) hz hl;have hl0:y=0:=ω;subst hl0;show VR M (.part b k' o ↑f) _
     by_cases hz0:f=0
     ·subst hz0;exact .jB g p rfl ho
     ·obtain⟨x',hle,rfl⟩:=hne ω;rw[Zaa ω,ZbS];exact .part g p x' rfl ho ω ω ω
    | false=>
     show VR M (.part b k' (o+↑y) ((f:Int) -↑y)) _
     rw[hsub];by_cases hz0:f-y=0
     ·rw[hz0];exact .jB g p rfl ω
     ·obtain⟨x',hle,rfl⟩:=hne ω;rw[ oT];have ht:(o+↑y).toNat=o.toNat+y:=ω;have:=VR.part (M:=M) (b:=b) (k:=k') (l:=f-y) (cap:=cap-y) (o:=o+↑y) (n:=((f-y:Nat):Int)) g p x' rfl ω ω ω ω;rw[ht,ZbL,<-Za4] at this;grind
   cases hx with
   | part g p x' f ho hle V T=>exact key f g p ho T (.inl V) λ_=>⟨x',hle,rfl⟩
   | jB g p f ho=>exact key (len:=0) f g p ho (Zaj _) (.inr rfl) λh=>absurd rfl h
  case sub b o n=>
   have⟨f,N,K⟩:=af.1 U;have⟨l,hl,L⟩:=af.1 K;have⟨QdK,lo⟩:=bm.1 L;rw[iD,aF] at QdK;obtain⟨rfl,A⟩:=QdK;cases ai.1 lo;have O:F=none:=by
    rcases C with⟨_,B⟩ | ⟨u,u',B,_⟩
    all_goals grind
   subst O;have rh:=dd N I;have rl:=dd hl J;have Q:f<=n:=ω;have hll:l<=f:=ω;have hi:∀cap,n<=cap->∀w,(Instr.sliceBounds true n cap e d none).run P w=.ok (l,f,cap) w:=λcap T w=>eH (.inl ⟨rfl,rfl⟩) (by
     rcases rh with⟨e1,e2,e3⟩ | ⟨q,e2,_⟩
     ·exact .inl ⟨e2,rfl,e3⟩
     ·exact .inr ⟨q,e2,ω⟩) (by
     rcases rl with⟨_,e2,e3⟩ | ⟨q,e2,_⟩
     ·exact .inl ⟨e2,e3⟩
     ·exact .inr ⟨q,e2,ω⟩) w
   cases hx with
   | @sub _ _ _ cap s g x' T V=>
    refine⟨_,λw=>gp hd hk (hi cap T) w,?_⟩;by_cases hcl:cap=l
    ·have h1:f-l=0:=ω;rw[Zac hcl,show Nat.sub f l=f-l from rfl,h1];exact .oQ
    ·rw[ oT];have:=VR.sub (M:=M) (b:=b) (o:=o+l) (n:=f-l) (cap:=cap-l) g x' ω ω;grind
   | @oQ _ _ cap ad=>
    refine⟨_,λw=>gp hd hk (hi cap (Zaj _)) w,?_⟩;have h1:f-l=0:=ω;rw[show Nat.sub f l=f-l from rfl,h1];split
    ·exact .oQ
    ·rw[Zcp];exact .oQ
 case array n B=>
  cases Y<;>simp only at h1<;>(try exact h1.elim)
  case ptr b o=>
   have⟨k,hk,U⟩:=af.1 h1;rw[s7] at hk;have⟨hk1,K⟩:=bm.1 U;rw[aF] at hk1;subst hk1;have⟨hq,L⟩:=bm.1 K;rw[iD,b9] at hq;have⟨QnF,A⟩:=hq;have⟨f,N,lo⟩:=af.1 L;have⟨l,hl,h6⟩:=af.1 lo;cases ai.1 h6;have Quv:=QnF;have O:F=none:=by
    rcases C with⟨_,B⟩ | ⟨u,u',B,_⟩
    all_goals grind
   subst O;have rh:=dd N I;have rl:=dd hl J;have Q:f<=n:=ω;have hll:l<=f:=ω;have hi:∀w,(Instr.sliceBounds false n n e d none).run P w=.ok (l,f,n) w:=λw=>eH (.inl ⟨rfl,rfl⟩) (by
     rcases rh with⟨e1,e2,e3⟩ | ⟨q,e2,_⟩
     ·exact .inl ⟨e2,rfl,e3⟩
     ·exact .inr ⟨q,e2,ω⟩) (by
     rcases rl with⟨_,e2,e3⟩ | ⟨q,e2,_⟩
     ·exact .inl ⟨e2,e3⟩
     ·exact .inr ⟨q,e2,ω⟩) w
   cases hx with
   | @ptr _ _ s g x'=>
    refine⟨.slice (some (if n=l then⟨s.bN,s.sh+o,none⟩ else⟨s.bN,s.sh+o+l*1,none⟩)) (f-l) (n-l),λw=>?_,?_⟩
    ·simp only[Instr.sliceAt,Zzd,Zza hd,Zzb,Instr.sureAddr,Zzc,hi,cy hk,Pw]
    ·by_cases hcl:n=l
     ·have h1:f-l=0:=ω;rw[ show Nat.sub f l=f-l from rfl,h1];exact .oQ
     ·rw[Zaa hcl];have:=VR.sub (M:=M) (b:=b) (o:=o+l) (n:=f-l) (cap:=n-l) g x' ω ω;grind
theorem uM (h:(tY P D Z Y m).H v) (n:VR M Y z):∃u,(∀w,(Instr.fieldAt Z z m).run P w=.ok u w)/\VR M v u:=by
 have⟨d,s,h1⟩:=af.1 h;have⟨I,f,B⟩:=af.1 h1;have⟨fd,a,C⟩:=af.1 B;have⟨k,hk,F⟩:=af.1 C;have⟨G,l⟩:=bm.1 F;rw[gR] at s;rw[s7] at hk;rw[bu] at a;have p:¬k=0:=by grind [b9]
 cases d<;>first | exact f.elim | skip
 rename_i A
 cases ai.1 f;rw[fe,ZaL] at a;have run:∀(b o:Nat) (w:World),(Instr.fieldAt Z (.pointer (some ⟨b,o,none⟩)) m).run P w=.ok (.pointer (some ⟨b,o+fd.offset,none⟩)) w:=λb o w=>by
  simp only[Instr.fieldAt,Zzd,Zza s,Zzb,a,Instr.sureAddr,Zzc,fieldPlace,cy hk,Zaa p,Pw]
 cases Y<;>simp only at l<;>(try exact l.elim)
 case ptr b o=>
  cases ai.1 l;cases n with
  | ptr e r=>exact⟨_,run _ _,by rw[Za4];exact .ptr e r⟩
 case kD g o=>
  cases ai.1 l;cases n<;>exact⟨_,run _ _,.kD _ _⟩
 case mj b k2 i j=>
  cases ai.1 l;cases n with
  | mj e r q hi=>exact⟨_,run _ _,by rw[Za4];exact .mj e r q hi⟩
 case nr c y j=>
  cases ai.1 l;cases n with
  | nr hs=>exact⟨_,run _ _,by rw[Za4];exact .nr hs⟩
def Du (h:(JQ P D Z Y m).H v) (o:VR M Y z):∃c,(∀w,(Instr.field Z z m).run P w=.ok c w)/\VR M v c:=by
 have⟨d,e,h1⟩:=af.1 h;have⟨q,b,i⟩:=af.1 h1;have⟨cs,l,j⟩:=af.1 i;have⟨fd,a,k⟩:=af.1 j;rw[gR] at e;rw[bu] at a;obtain⟨p,rfl,hl⟩:=mF l o;cases d<;>first | exact b.elim | skip
 cases ai.1 b;rw[fe,ZaL] at a;have⟨c,f,n⟩:=kt k hl;exact⟨c,λw=>by simp only[Instr.field,Zzd,Zza e,Zzb,a,Go.asAgg,Zzc,f],n⟩
theorem yV {x i:AV D.E} {i':Value} (h:(zu P D Z x i).H L) (R:VR M x z) (hi:VR M i i'):∃J,(∀w,(Instr.indexAt Z z i').run P w=.ok J w)/\VR M L J:=by
 have⟨d,Y,h1⟩:=af.1 h;rw[gR] at Y;cases d<;>simp only at h1<;>(try exact h1.elim)
 case slice e=>
  have⟨k,hk,X⟩:=af.1 h1;have⟨T,n,Q,K⟩:=bh.1 X;rw[s7] at hk;obtain⟨rfl,_⟩:=iE Q hi;have run:∀(b o len cap q:Nat) (w:World),n=↑q->q<len->(Instr.indexAt Z (.slice (some ⟨b,o,none⟩) len cap) (.int T n)).run P w=.ok (.pointer (some ⟨b,o+q*k,none⟩)) w:=λb o len cap q w S O=>by
   subst S;have s:0<=(q:Int)/\(q:Int)<↑len:=⟨ω,ω⟩;simp only[Instr.indexAt,asIntOf,Zzd,Zzc,Zza Y,Zzb,Zac s,cy hk,Pw,Zad]
  
  have U:∀{c b o cap:Nat} {xs:List (D.E c)},k=D.size c->aC zI n->ax n (ab xs)->ck M b o c xs->∃J,(∀w,(Instr.indexAt Z (.slice (some ⟨b,o,none⟩) xs.length cap) (.int T n)).run P w=.ok J w)/\VR M (.nr c (gt (D.W8 c) xs n.toNat) 0) J:=by
   intro c b o cap xs g r F hs;have C:0<=n:=ZaH r;have h6':n<↑xs.length:=ZaH F;obtain⟨q,rfl⟩:∃q:Nat,n=q:=⟨n.toNat,ω⟩;have S:q<xs.length:=ω;refine⟨_,λw=>run b o xs.length cap q w rfl S,?_⟩;rw[Zad,BG S,g];have:=VR.nr (M:=M) (j:=0) (x:=xs[q]) (b:=b) (o:=o+q*D.size c) (λj u e=>hs q S j u e);assumption
  have I:∀{b q:Nat} {A:MI} {len cap o:Nat},M.pl b=some A->A.real->A.je=k->n=↑q->q<len->o+len<=A.len->∃J,(∀w,(Instr.indexAt Z (.slice (some ⟨A.bN,A.sh+o*A.je,none⟩) len cap) (.int T n)).run P w=.ok J w)/\VR M (.mj b k (o+q) 0) J:=by
   intro b q A len cap o f x' p S O hle;refine⟨_,λw=>run _ _ _ _ q w S O,?_⟩;have:=VR.mj (M:=M) (b:=b) (k:=k) (i:=o+q) (j:=0) f x' p ω;grind
  cases x<;>simp only at K<;>(try exact K.elim)
  case list c xs=>
   have⟨g,B⟩:=bm.1 K;have⟨r,F⟩:=cN.1 B;have⟨G,N⟩:=cN.1 F;cases ai.1 N;cases R with
   | list hs W V=>exact U (aF.1 g) r G hs
   | fh=>exfalso;have C:0<=n:=ZaH r;have v:n<0:=ZaH G;omega
  case grow c xs b=>
   have⟨g,B⟩:=bm.1 K;have⟨r,F⟩:=cN.1 B;have⟨G,N⟩:=cN.1 F;cases ai.1 N;cases R with
   | grow f x' hl hz hs W V ht=>exact U (aF.1 g) r G hs
   | j5=>exfalso;have C:0<=n:=ZaH r;have v:n<0:=ZaH G;omega
  case own b k' m=>
   have⟨g,B⟩:=bm.1 K;have⟨r,F⟩:=cN.1 B;have⟨G,N⟩:=cN.1 F;cases ai.1 N;rw[aF] at g;subst g;have C:0<=n:=ZaH r;have v:=ZaH G;obtain⟨q,rfl⟩:∃q:Nat,n=q:=⟨n.toNat,ω⟩;cases R with
   | @own _ _ cap _ A f p x' Q W V ht=>
    have⟨J,k1,k2⟩:=I (q:=q) (o:=0) (len:=A.len) (cap:=cap) f x' p rfl ω ω;grind
   | l5 f p x' Q t=>exfalso;omega
  case pre b k' m=>
   have⟨g,B⟩:=bm.1 K;have⟨r,F⟩:=cN.1 B;have⟨G,N⟩:=cN.1 F;cases ai.1 N;rw[aF] at g;subst g;have C:0<=n:=ZaH r;have v:=ZaH G;obtain⟨q,rfl⟩:∃q:Nat,n=q:=⟨n.toNat,ω⟩;cases R with
   | @pre _ _ l cap _ A f p x' Q W hle V ht=>
    have⟨J,k1,k2⟩:=I (q:=q) (o:=0) (len:=l) (cap:=cap) f x' p rfl ω ω;grind
   | oP f p x' Q t=>exfalso;omega
  case part b k' o m=>
   have⟨g,B⟩:=bm.1 K;have⟨r,F⟩:=cN.1 B;have⟨G,N⟩:=cN.1 F;cases ai.1 N;rw[aF] at g;subst g;have C:0<=n:=ZaH r;have v:=ZaH G;obtain⟨q,rfl⟩:∃q:Nat,n=q:=⟨n.toNat,ω⟩;cases R with
   | @part _ _ l cap _ _ A f p x' Q ho hle W V=>
    have⟨J,k1,k2⟩:=I (q:=q) (o:=o.toNat) (len:=l) (cap:=cap) f x' p rfl ω hle;grind
   | jB f p Q ho=>exfalso;omega
 case array len e=>
  have⟨k,hk,X⟩:=af.1 h1;have⟨hk1,K⟩:=bm.1 X;have⟨n,Q,B⟩:=af.1 K;have⟨O,r⟩:=bm.1 B;rw[s7] at hk;have hlt':=b9.1 O;obtain⟨T,rfl⟩:=Gz Q hi;have run:∀(b o:Nat) (w:World),(Instr.indexAt Z (.pointer (some ⟨b,o,none⟩)) (.int T ↑n)).run P w=.ok (.pointer (some ⟨b,o+n*k,none⟩)) w:=λb o w=>by
   have s:0<=(n:Int)/\(n:Int)<↑len:=⟨ω,ω⟩;simp only[Instr.indexAt,asIntOf,Zzd,Zzc,Zza Y,Zzb,Instr.sureAddr,Zac s,cy hk,Pw,Zad]
  cases x<;>simp only at r<;>(try exact r.elim)
  case ptr b o=>
   cases ai.1 r;cases R with
   | ptr f x'=>exact⟨_,run _ _,by rw[Za4];exact .ptr f x'⟩
  case mj b k2 i j=>
   cases ai.1 r;cases R with
   | mj f x' p hi=>exact⟨_,run _ _,by rw[Za4];exact .mj f x' p hi⟩
  case nr c y j=>
   cases ai.1 r;cases R with
   | nr hs=>exact⟨_,run _ _,by rw[Za4];exact .nr hs⟩
theorem Dv {u:Value} (h:(JR P D Z Y v).H L) (s:VR M Y z) (hi:VR M v u):∃b,(∀w,(Instr.index Z z u).run P w=.ok b w)/\VR M L b:=by
 have⟨d,m,h1⟩:=af.1 h;rw[gR] at m;cases d<;>simp only at h1<;>(try exact h1.elim)
 case string=>
  have⟨i,n,p,c⟩:=bh.1 h1;have⟨l,hl,f⟩:=af.1 c;have⟨g,j⟩:=cN.1 f;have⟨A,C⟩:=cN.1 j;cases ai.1 C;obtain⟨rfl,_⟩:=iE p hi;obtain⟨rfl,_⟩:=mE hl s;have y:0<=n:=ZaH g;have B:n<↑l.length:=ZaH A;obtain⟨q,rfl⟩:∃q:Nat,n=q:=⟨n.toNat,ω⟩;have I:q<l.length:=ω;have F:(⟨⟨l⟩⟩:ByteArray)[q]?=some l[q]:=by
   rw[getElem?_pos (⟨⟨l⟩⟩:ByteArray) q I];rfl
  refine⟨.int .u8 (l[q].toNat:Int),λw=>by simp[Instr.index,asIntOf,Zza m,F],?_⟩;have e:sat l ↑q=(l[q].toNat:Int):=by
   grind [sat]
  rw[e];exact .int (rM _)
 case array len e=>
  have⟨k,hk,c⟩:=af.1 h1;have⟨n,p,f⟩:=af.1 c;have⟨cs,G,g⟩:=af.1 f;have⟨o,j⟩:=bm.1 g;rw[s7] at hk;obtain⟨i,rfl⟩:=Gz p hi;obtain⟨N,rfl,hl⟩:=mF G s;have r:=b9.1 o;have⟨b,J,K⟩:=kt j hl;have a:0<=(n:Int)/\(n:Int)<↑len:=⟨ω,ω⟩;refine⟨b,λw=>?_,K⟩;simp only[Instr.index,asIntOf,Zzd,Zzc,Zza m,Zzb,Zac a,cy hk];exact J w
def yW (h:(zv D Y m).H v) (f:VR M Y z):∃a,(∀w,(Instr.extract z m).run P w=.ok a w)/\VR M v a:=by
 have⟨l,hl,h1⟩:=af.1 h;obtain⟨g,rfl,b⟩:=Py hl f;rw[bu,fe] at h1;have⟨a,c,e⟩:=b.get h1;rw[ZaL] at c;exact⟨a,λw=>by simp[Instr.extract,c],e⟩
end
section
variable {P:Program} {D:Data} {cd:TypeId->Option Nat} {M M':Pm D} {φ:T (AV D.E)} {a:Act} {N:Nat} {w w':World} {H:Hp D} {s s':St D.E}
variable {v z:Value} {x y X:AV D.E} {e:TypeId} {b c:Bool} {Z:BinOp} {Y W:Operand} {d:TypeDesc}
def QnG (v:Value):Option Bool:=match v with
 | .pointer a=>some a.isNone
 | .map a=>some a.isNone
 | .slice a _ _=>some a.isNone
 | .nilIface=>some true
 | .iface _ _=>some false
 | .nilFunc=>some true
 | .func _ _ _=>some false
 | _=>none
def ug (v:Value):Nat:=match v with
 | .pointer _=>1 | .slice _ _ _=>2 | .map _=>3 | .nilFunc=>4 | .func _ _ _=>4 | .nilIface=>5 | .iface _ _=>5
 | _=>0
def zS (h:(Bm D x).H b) (c:VR M x v):QnG v=some b/\ug v=Gh D x:=by
 cases c<;>simp only[Bm] at h<;>first | (exact h.elim) | (cases ai.1 h;exact⟨rfl,rfl⟩) | (obtain⟨h0,h1⟩:=cN.1 h;first | (cases ai.1 h1;exact⟨rfl,rfl⟩) | (simp[ax,ab] at h0))
def Qbz (h:ug v=1):∃a,v=.pointer a:=by cases v<;>first | exact⟨_,rfl⟩ | cases h
def QbA (h:ug v=2):∃a l c,v=.slice a l c:=by cases v<;>first | exact⟨_,_,_,rfl⟩ | cases h
def QbB (h:ug v=3):∃a,v=.map a:=by cases v<;>first | exact⟨_,rfl⟩ | cases h
def QbC (h:ug v=4):v=.nilFunc\/∃f a b,v=.func f a b:=by cases v<;>first | exact .inl rfl | exact .inr ⟨_,_,_,rfl⟩ | cases h
def QbD (h:ug v=5):v=.nilIface\/∃t u,v=.iface t u:=by cases v<;>first | exact .inl rfl | exact .inr ⟨_,_,rfl⟩ | cases h
def Qhb:ug v≠6:=by cases v<;>simp[ug]
theorem Mi (h:(Qbp D d x y).H (b,c)) (i:P.underlying e=some d) (s:VR M x v) (u:VR M y z) (n:Nat) (w:World):(Op.equalIn (n+1) e v z).run P w=.ok b w:=by
 obtain⟨r,h1⟩:=bm.1 h;obtain⟨f,m⟩:=bm.1 h1;obtain⟨b1,l,o⟩:=af.1 m;obtain⟨j,e2,p⟩:=af.1 o;obtain⟨g1,k1⟩:=zS l s;obtain⟨g2,k2⟩:=zS e2 u;rw[aF,<-k1] at r;rw[aF,<-k2] at f;have A:b=(b1&&j)/\(b1||j):=by
  rcases im.1 p with⟨B,q⟩ | ⟨_,q⟩
  ·grind [ai]
  ·exact q.elim
 obtain⟨rfl,a⟩:=A;clear h h1 m o p l e2 k1 k2 s u;cases d with
 | pointer t=>
  obtain⟨g,rfl⟩:=Qbz r;obtain⟨a2,rfl⟩:=Qbz f;cases g<;>cases a2<;>cases g1<;>cases g2<;>first | (cases a;done) | simp[Op.equalIn,Zza i]
 | slice t=>
  obtain⟨g,C,c1,rfl⟩:=QbA r;obtain⟨a2,F,c2,rfl⟩:=QbA f;cases g<;>cases a2<;>cases g1<;>cases g2<;>first | (cases a;done) | simp[Op.equalIn,Zza i]
 | map k t=>
  obtain⟨g,rfl⟩:=QbB r;obtain⟨a2,rfl⟩:=QbB f;cases g<;>cases a2<;>cases g1<;>cases g2<;>first | (cases a;done) | simp[Op.equalIn,Zza i]
 | func G rs I=>
  rcases QbC r with rfl | ⟨_,_,_,rfl⟩<;>rcases QbC f with rfl | ⟨_,_,_,rfl⟩<;>cases g1<;>cases g2<;>first | (cases a;done) | simp[Op.equalIn,Zza i]
 | interface ms=>
  rcases QbD r with rfl | ⟨_,_,rfl⟩<;>rcases QbD f with rfl | ⟨_,_,rfl⟩<;>cases g1<;>cases g2<;>first | (cases a;done) | simp[Op.equalIn,Zza i]
 | _=>exact absurd r Qhb
theorem Mj (h:(JL D x y).H (b,c)) (g:VR M x v) (f:VR M y z):∃k a r,v=.int k a/\z=.int k r/\b=decide (a=r):=by
 cases x<;>simp only[JL] at h<;>(try exact h.elim)
 case int k a=>
  obtain⟨i,r,h1,m⟩:=bh.1 h;obtain⟨d,e⟩:=bm.1 m;obtain rfl:=fT.1 d;cases ai.1 e;cases g;obtain⟨rfl,_⟩:=iE h1 f;exact⟨_,_,_,rfl,rfl,rfl⟩
 case num k a=>
  cases g;cases y<;>simp only at h<;>(try exact h.elim)
  case int i r=>
   obtain⟨d,e⟩:=bm.1 h;obtain rfl:=fT.1 d;cases ai.1 e;cases f;exact⟨_,_,_,rfl,rfl,rfl⟩
  case num i r=>
   obtain⟨d,e⟩:=bm.1 h;obtain rfl:=fT.1 d;cases ai.1 e;cases f;grind [qL]
theorem GG (h:(Gi D d x y).H (b,c)) (l:P.underlying e=some d) (f:VR M x v) (g:VR M y z) (n:Nat) (w:World):(Op.equalIn (n+1) e v z).run P w=.ok b w:=by
 cases d with
 | bool=>
  obtain⟨a,p,i,h1⟩:=bh.1 (show(aI (yR x) λa p=>aI (yR y) λr q=>.ret (sX a r,Bool.and p q)).H (b,c) from h);obtain⟨r,q,j,t⟩:=bh.1 h1;have t:=ai.1 t;simp only[Zbx] at t;obtain⟨rfl,_⟩:=t;obtain rfl:=GA i f;obtain rfl:=GA j g;cases a<;>cases r<;>simp[Op.equalIn,Zza l,sX]
 | int k0=>
  obtain⟨k,a,r,rfl,rfl,rfl⟩:=Mj (show(JL D x y).H (b,c) from h) f g;simp only[Op.equalIn,Zza l,Zzd,Zzb];simp
  try rfl
 | string=>
  obtain⟨a,i,h1⟩:=af.1 (show(av (hZ x) λa=>av (hZ y) λr=>.ret (seq a r,false)).H (b,c) from h);obtain⟨r,j,t⟩:=af.1 h1;have t:=ai.1 t;simp only[Zbx] at t;obtain⟨rfl,_⟩:=t;obtain⟨rfl,_⟩:=mE i f;obtain⟨rfl,_⟩:=mE j g;grind [run_equalIn_string,ByteArray.toList_eq,seq]
 | _=>exact Mi h l f g n w
def zT (a b:Bool×Bool):(C8 a b).1=(a.1&&b.1):=by
 obtain⟨x,p⟩:=a;obtain⟨y,q⟩:=b;cases x<;>cases p<;>cases y<;>cases q<;>rfl
theorem rV {ih:TypeId->AV D.E->AV D.E->C (Bool×Bool)} {n:Nat} {xs ys:List (AV D.E)} {X Y:Array Value} (hX:LR M xs X.toList) (hY:LR M ys Y.toList)
  (hih:∀(t:TypeId) (x y:AV D.E) (x' y':Value) (r:Bool×Bool),(ih t x y).H r->VR M x x'->VR M y y'->∀w,(Op.equalIn n t x' y').run P w=.ok r.1 w):∀{fs:List Field} {r:Bool×Bool},(eqFields P D ih xs ys fs).H r->∀w,
  (forIn fs ((none,()):Option Bool×Unit) λf __s=>(if f.name≠ "_" then do
    let __do_lift <-part f.type X f.offset
    let oU <-part f.type Y f.offset
    let __do_lift <-Op.equalIn n f.type __do_lift oU
    if (!__do_lift)=true then Pure.pure (ForInStep.done (some false,())) else Pure.pure (ForInStep.yield (none,()))
   else Pure.pure (ForInStep.yield (none,())):Sem (ForInStep (Option Bool×Unit)))).run P w=.ok (if r.1 then(none,()) else(some false,())) w
 | [],r,h,w=>by cases ai.1 (show(C.ret (true,true)).H r from h);simp
 | f::fs,r,h,w=>by
  obtain⟨hn,h1⟩:decide (f.name= "_")=false/\(av (j3 P D f.type xs f.offset) λx=>av (j3 P D f.type ys f.offset) λy=>av (ih f.type x y) λr=>av (eqFields P D ih xs ys fs) λr'=>.ret (C8 r r')).H r:=by
   rcases im.1 (show(bE (decide (f.name= "_")) .fail _).H r from h) with⟨_,h9⟩ | ⟨h8,h9⟩
   ·exact h9.elim
   ·exact⟨h8,h9⟩
  have hn':f.name≠ "_" :=by grind
  obtain⟨x,hx,h2⟩:=af.1 h1;obtain⟨y,hy,h3⟩:=af.1 h2;obtain⟨q,hq,h4⟩:=af.1 h3;obtain⟨q2,hq2,h5⟩:=af.1 h4;cases ai.1 h5;obtain⟨x',rx,vx⟩:=kt hx hX;obtain⟨y',ry,vy⟩:=kt hy hY;have he:=hih _ _ _ _ _ _ hq vx vy w;have ihf:=rV hX hY hih hq2 w;rw[ZdJ,zT];cases hq1:q.1 with
  | true=>
   rw[hq1] at he;simp only[Zac hn',Zzd,rx,ry,he,Zzb,ZcF,ZaE,Za0,Zzc,ZbI];exact ihf
  | false=>
   rw[hq1] at he;simp only[Zac hn',Zzd,rx,ry,he,Zzb,Bool.not_false,Zbv,Zzc,ZaE,Za0,Zcw]
theorem uh {d:TypeId->AV D.E->AV D.E->C (Bool×Bool)} {n k:Nat} {xs f:List (AV D.E)} {X Y:Array Value} (p:LR M xs X.toList) (s:LR M f Y.toList)
  (a:∀(t:TypeId) (x y:AV D.E) (l o:Value) (r:Bool×Bool),(d t x y).H r->VR M x l->VR M y o->∀w,(Op.equalIn n t l o).run P w=.ok r.1 w):∀{m i:Nat} {r:Bool×Bool},(vk P D d e k xs f m i).H r->∀w,
  (forIn (List.range' i m) ((none,()):Option Bool×Unit) λi v=>(do
    let __do_lift <-part e X (i*k)
    let oU <-part e Y (i*k)
    let __do_lift <-Op.equalIn n e __do_lift oU
    if (!__do_lift)=true then Pure.pure (ForInStep.done (some false,())) else Pure.pure (ForInStep.yield (none,())):Sem (ForInStep (Option Bool×Unit)))).run P w=.ok (if r.1 then(none,()) else(some false,())) w
 | 0,i,r,h,w=>by cases ai.1 (show(C.ret (true,true)).H r from h);simp
 | m+1,i,r,h,w=>by
  obtain⟨x,I,z⟩:=af.1 (show(av (j3 P D e xs (i*k)) λx=>av (j3 P D e f (i*k)) λy=>av (d e x y) λr=>av (vk P D d e k xs f m (i+1)) λK=>.ret (C8 r K)).H r from h);obtain⟨y,J,A⟩:=af.1 z;obtain⟨q,G,B⟩:=af.1 A;obtain⟨O,g,F⟩:=af.1 B;cases ai.1 F;obtain⟨l,rx,L⟩:=kt I p;obtain⟨o,u,N⟩:=kt J s;have c:=a _ _ _ _ _ _ G L N w;have j:=uh p s a g w;rw[List.range'_succ,ZdJ,zT];cases b:q.1 with
  | true=>
   rw[b] at c;simp only[Zzd,rx,u,c,Zzb,ZcF,ZaE,Za0,Zzc,ZbI];exact j
  | false=>
   rw[b] at c;simp only[Zzd,rx,u,c,Zzb,Bool.not_false,Zbv,Zzc,ZaE,Za0,Zcw]
theorem J_:∀(m:Nat) (n:Nat) (t:TypeId) (x y:AV D.E) (f g:Value) (r:Bool×Bool),(OC P D m t x y).H r->VR M x f->VR M y g->∀w,(Op.equalIn (n+m) t f g).run P w=.ok r.1 w
 | 0,n,t,x,y,f,g,r,h,_,_,w=>(h:False).elim
 | m+1,n,t,x,y,f,g,r,h,l,o,w=>by
  obtain⟨d,p,h1⟩:=af.1 (show(av (uJ P t) λd=>eqD P D (OC P D m) t d x y).H r from h);rw[gR] at p;have j:=λt x y f g r h l o w=>J_ m n t x y f g r h l o w
  have base:∀q,q=d->(Gi D q x y).H r->(Op.equalIn (n+(m+1)) t f g).run P w=.ok r.1 w:=λq e G=>GG (c:=r.2) G (e▸p) l o (n+m) w
  cases d with
  | struct C=>
   obtain⟨xs,a,s⟩:=af.1 (show(av (asAgg x) λxs=>av (asAgg y) λi=>bE (P.stoodInHeld t) .fail (eqFields P D (OC P D m) xs i C.toList)).H r from h1);obtain⟨i,b,u⟩:=af.1 s;obtain⟨B,v⟩:P.stoodInHeld t=false/\(eqFields P D (OC P D m) xs i C.toList).H r:=by
    rcases im.1 u with⟨_,F⟩ | ⟨I,F⟩
    ·exact F.elim
    ·grind
   obtain⟨X,rfl,z⟩:=mF a l;obtain⟨Y,rfl,A⟩:=mF b o;have hl:=rV z A j v w;rw[Nat.add_succ];unfold Op.equalIn;simp only[Zzd,Zza p,Zzb,program,Sem.run,B,ZaE,Za0];rw[<-Array.forIn_toList];rw[hl];cases r.1<;>simp
  | array len e=>
   obtain⟨xs,a,s⟩:=af.1 (show(av (asAgg x) λxs=>av (asAgg y) λi=>av (sz P e) λk=>vk P D (OC P D m) e k xs i len 0).H r from h1);obtain⟨i,b,u⟩:=af.1 s;obtain⟨k,hk,v⟩:=af.1 u;rw[s7] at hk;obtain⟨X,rfl,z⟩:=mF a l;obtain⟨Y,rfl,A⟩:=mF b o;have hl:=uh z A j v w;rw[Nat.add_succ];unfold Op.equalIn;simp only[Zzd,Zza p,Zzb,cy hk];rw[Std.Legacy.Range.forIn_eq_forIn_range'];simp only[Std.Legacy.Range.size];rw[show(len-0+1-1) / 1=len by simp,hl];cases r.1<;>simp
  | _=>exact base _ rfl h1
def Xn (x y:Value):Bool:=match x with
 | .agg _=>match y with
  | .agg _=>false
  | _=>true
 | .nilIface=>match y with
  | .nilIface=>false
  | _=>true
 | _=>true
def gS (op:BinOp) (t:TypeId) (a b:Operand) (x y:Value) (h:Xn x y) (w:World):(eqGuard op t a b x y).run P w=.ok () w:=by
 cases op<;>first | rfl | (cases x<;>first | rfl | (cases y<;>first | rfl | cases h))
def zU {r:Bool×Bool} (h:(OV P D e x y).H r) (f:VR M x v) (l:VR M y z) (op:BinOp) (c d:Operand) (w:World):(Op.equal e v z).run P w=.ok r.1 w/\(eqGuard op e c d v z).run P w=.ok () w:=by
 have a:(OC P D 4 e x y).H r->(Op.equal e v z).run P w=.ok r.1 w:=λh=>J_ 4 9996 e x y v z r h f l w
 by_cases h1:∃cs,x=.agg cs
 ·obtain⟨cs,rfl⟩:=h1;rcases im.1 (show(bE (P.eqGuardType P.depth e) .fail (OC P D 4 e (.agg cs) y)).H r from h) with⟨_,k⟩ | ⟨m,k⟩
  ·exact k.elim
  ·refine⟨a k,?_⟩;cases f;cases z<;>first | exact run_eqGuard_agg w op e c d _ _ m | exact gS op e c d _ _ rfl w
 ·by_cases g:x=.nilIface
  ·subst g;by_cases i:y=.nilIface
   ·subst i;exact(h:False).elim
   ·have j:(OC P D 4 e .nilIface y).H r:=by
     cases y<;>first | exact h | exact absurd rfl i
    refine⟨a j,gS op e c d _ _ ?_ w⟩;cases f;cases l<;>first | rfl | exact absurd rfl i
  ·have j:(OC P D 4 e x y).H r:=by
    cases x<;>first | exact h | exact absurd ⟨_,rfl⟩ h1 | exact absurd rfl g
   refine⟨a j,gS op e c d _ _ ?_ w⟩;cases f<;>first | rfl | exact absurd ⟨_,rfl⟩ h1 | exact absurd rfl g
def GH (b c:Bool):VR M (mkT D b c) (.bool b):=by
 cases c
 ·exact .bool b
 ·exact .lit b
theorem PB (h:(QgO P D Z e x y).H X) (q:VR M x v) (n:VR M y z) (l m:Operand) (w:World):
  ∃d,(do eqGuard Z e l m v z;binOp Z e v z:Sem Value).run P w=.ok d w/\VR M X d:=by
 have eqs:∀(s:∀(j:Value),(binOp .eql e v j)=(do Pure.pure (.bool (<-Op.equal e v j)))/\(binOp .neq e v j)=(do Pure.pure (.bool (!(<-Op.equal e v j))))),(OW P D Z e x y).H X->
   ∃d,(do eqGuard Z e l m v z;binOp Z e v z:Sem Value).run P w=.ok d w/\VR M X d:=by
  intro s h1;cases Z<;>simp only[OW] at h1<;>(try exact h1.elim)
  ·obtain⟨r,c,p,f⟩:=bh.1 h1;cases ai.1 f;obtain⟨o,e2⟩:=zU p q n .eql l m w;exact⟨.bool r,by simp_all,GH r c⟩
  ·obtain⟨r,c,p,f⟩:=bh.1 h1;cases ai.1 f;obtain⟨o,e2⟩:=zU p q n .neq l m w;exact⟨.bool (!r),by simp_all,GH (!r) c⟩
 have ints:∀{k i:IntKind} {a b:Int},v=.int k a->z=.int i b->(∃d,(∀w,(binOp Z e (.int k a) (.int i b)).run P w=.ok d w)/\VR M X d)->∃d,(do eqGuard Z e l m v z;binOp Z e v z:Sem Value).run P w=.ok d w/\VR M X d:=by
  rintro k i a b rfl rfl ⟨d,h1,f⟩;exact⟨d,by simp only[Zzd,gS Z e l m (.int k a) (.int i b) rfl w,Zzb,h1],f⟩
 cases q with
 | @int k a g=>
  obtain⟨i,b,h1,f⟩:=bh.1 (show(aI (cT y) λi b=>Xa D Z k i a b).H X from h);obtain⟨rfl,_⟩:=iE h1 n;exact ints rfl rfl (Di f g e)
 | num g=>
  cases y<;>first | exact(h:False).elim | skip
  case int i b=>
   cases n;exact ints rfl rfl (Di h g e)
  case num i b=>
   cases n;obtain⟨u,h1,f⟩:=af.1 h;cases ai.1 f;obtain⟨o,e2⟩:=Gv (P:=P) (bu.1 h1) g e;exact ints rfl rfl ⟨_,o,Qg6 e2⟩
 | @str a hl=>
  obtain⟨b,h1,f⟩:=af.1 (show(av (hZ y) λb=>Bl D Z a b).H X from h);obtain⟨rfl,_⟩:=mE h1 n;obtain⟨d,o,e2⟩:=Gx (P:=P) (M:=M) f e;exact⟨d,by simp only[Zzd,gS Z e l m (.string ⟨⟨a⟩⟩) (.string ⟨⟨b⟩⟩) rfl w,Zzb,o],e2⟩
 | _=>exact eqs (λj=>⟨rfl,rfl⟩) h
def Xo {op:UnOp} (h:(unA D op x).H y) (d:VR M x v):∃f,(∀w,(Op.unary op v).run P w=.ok f w)/\VR M y f:=by
 cases op<;>simp only[unA] at h<;>(try exact h.elim)
 case neg=>
  cases x<;>simp only at h<;>(try exact h.elim)
  case int k n=>
   cases ai.1 h;cases d;refine⟨.int k (k.wrap (0-n)),λw=>by rfl,?_⟩;rw[Int.zero_sub];exact .int (cu _ _)
  case num k n=>
   obtain⟨c,a,h1⟩:=af.1 h;cases ai.1 h1;have a:=bu.1 a;rw[gQ,jC] at a;subst a;cases d;refine⟨.int k (k.wrap (0-n)),λw=>by rfl,?_⟩;rw[Int.zero_sub];exact .num (cu _ _)
 case xor=>
  have e:∀(k:IntKind) (n:Int),(BitVec.ofInt k.bits (if k.signed then-1 else k.max) ^^^ BitVec.ofInt k.bits n).toNat=Nat.xor (uH k-1) (C4 k n):=λk n=>by
   rw[Zdu,<-kH,<-kH];congr 1;cases k<;>rfl
  cases x<;>simp only at h<;>(try exact h.elim)
  case int k n=>
   cases ai.1 h;cases d;exact⟨_,λw=>by rfl,by rw[e];exact .int (cu _ _)⟩
  case num k n=>
   obtain⟨c,a,h1⟩:=af.1 h;cases ai.1 h1;have a:=pI (bu.1 a);subst a;cases d;exact⟨_,λw=>by rfl,by rw[e];exact .num (cu _ _)⟩
 case not=>
  obtain⟨b,c,h1,i⟩:=bh.1 h;cases ai.1 i;obtain rfl:=GA h1 d;exact⟨.bool (!b),λw=>by rfl,GH (!b) c⟩
theorem BJ (h:isConst Y):∃v,Y=.const v:=by
 cases Y<;>first | exact⟨_,rfl⟩ | cases(show false=true from h)
def zV (h:Qdy D x):x=.nilIface:=by
 cases x<;>first | rfl | cases(show false=true from h)
def PC (c:(∃v,Y=.const v)\/(∃v,W=.const v)) (w:World):(eqGuard Z e Y W .nilIface .nilIface).run P w=.ok () w:=by
 rcases c with⟨v,rfl⟩ | ⟨v,rfl⟩
 ·cases Z<;>rfl
 ·cases Y<;>cases Z<;>rfl
theorem PD (h:(QgQ P D Z e Y W x y).H X) (l:VR M x v) (m:VR M y z) (w:World):
  ∃n,(do eqGuard Z e Y W v z;binOp Z e v z:Sem Value).run P w=.ok n w/\VR M X n:=by
 rcases im.1 h with⟨h1,c⟩ | ⟨_,c⟩
 ·obtain⟨A,o⟩:=l4 h1;obtain⟨p,q⟩:=l4 o;obtain rfl:=zV p;obtain rfl:=zV q;have k:(∃X,Y=.const X)\/(∃X,W=.const X):=by
   grind [BJ]
  obtain⟨d,i,r⟩:=af.1 c;obtain⟨s,f⟩:=bm.1 r;have i:P.underlying e=some d:=bu.1 i;cases l;cases m;have t:(Op.equal e .nilIface .nilIface).run P w=.ok true w:=by
   cases d<;>first | (cases(show false=true from s);done) | skip
   show(Op.equalIn (9999+1) e _ _).run P w=_
   unfold Op.equalIn;simp only[Zzd,Zza i,Zzb,Zzc]
  have g:(eqGuard Z e Y W .nilIface .nilIface).run P w=.ok () w:=PC k w;cases Z<;>first | exact(show False from f).elim | skip
  ·cases ai.1 f;have u:binOp .eql e .nilIface .nilIface=(do Pure.pure (.bool (<-Op.equal e .nilIface .nilIface))):=rfl;exact⟨.bool true,by simp_all,.lit true⟩
  ·cases ai.1 f;have u:binOp .neq e .nilIface .nilIface=(do Pure.pure (.bool (!(<-Op.equal e .nilIface .nilIface)))):=rfl;exact⟨.bool false,by simp_all,.lit false⟩
 ·exact PB c l m Y W w
end
end sx
end Go.Proofs.YtadfknojfbmjgaaGreat
