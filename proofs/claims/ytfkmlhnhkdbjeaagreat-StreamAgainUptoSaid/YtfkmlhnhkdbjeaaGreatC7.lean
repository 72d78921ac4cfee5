/- StreamAgain: a part of the proof. -/
import Derived.Test.YtfkmlhnhkdbjeaaGreatC6
import Derived.Test.YtfkmlhnhkdbjeaaGreatC4
import Derived.Test.YtfkmlhnhkdbjeaaGreatC5
set_option linter.all false
namespace Go.Proofs.YtfkmlhnhkdbjeaaGreat
open Go.Proofs.Tryz
set_option maxRecDepth 100000
set_option maxHeartbeats 4000000
namespace sx
noncomputable section
open Go Go.RowKit cls syn
variable {a:Nat} {o s:List Int}
theorem JV {α:Type} {i b:List α} {d:α} (h:i.length<=a):(i++b).getD a d=b.getD (a-i.length) d:=by
 grind
def MR (o:List Int) (a:Nat):k_ o a []=o:=by simp[k_]
theorem MS (h:a+s.length<=o.length):(k_ o a s).length=o.length:=by
 grind [k_]
theorem MT {b:Nat} {t:List Int} (h:a+s.length<=o.length) (d:b=a+s.length):k_ (k_ o a s) b t=k_ o a (s++t):=by
 subst d;unfold k_;have c:(o.take a++s++o.drop (a+s.length)).take (a+s.length)=o.take a++s:=ZdF (by grind);have e2:(o.take a++s++o.drop (a+s.length)).drop (a+s.length+t.length)=o.drop (a+s.length+t.length):=by
  rw[<-ZbZ,List.drop_left' (by simp;omega),ZbZ]
 rw[c,e2,Zab,<-Za4];simp
theorem MU (v:Int) (h:a<o.length):(k_ o (a+1) s).set a v=k_ o a (v::s):=by
 unfold k_;have b:o.take (a+1)=o.take a++[o[a]]:=by simp_all
 have e2:(o.take a).length=a:=by grind
 rw[b,ZaD,ZaD,ZbY _ _ ω,e2,Zb3];grind
theorem Qhi {i:Nat} (h:a<=o.length) (hi:i<s.length):(k_ o a s).getD (a+i) 0=s.getD i 0:=by
 grind [k_]
theorem ss (t:ah):kn t=fq (bw t)::gA t.af:=by cases t;rw[kn,bw];rfl
def size_eq (t:ah):bw t=qo t.op t.mn t.mx t.af.length (aR t.af):=by cases t;rw[bw];rfl
theorem JW (t:ah) (a:Nat):rJ t a=((a+(aH t).length:Nat):Int)::lM t.af (a+1):=by
 rw[b6];cases t with
 | mk op r mn mx lz cap nk b=>rw[rJ];simp[ah.af];omega
mutual
theorem Gn:∀t:ah,(kn t).length=(aH t).length
 | .mk op r mn mx lz cap nk ks=>by rw[kn,aH,Zae,Zae,lN ks]
theorem lN:∀l:List ah,(gA l).length=(aC l).length
 | []=>by simp[gA,aC]
 | t::l=>by rw[gA,aC,Zab,Zab,Gn t,lN l]
end
mutual
theorem Gp:∀(t:ah) (a:Nat),(rJ t a).length=(aH t).length
 | .mk op r mn mx lz cap nk ks,a=>by rw[rJ,aH,Zae,Zae,qp ks]
theorem qp:∀(l:List ah) (a:Nat),(lM l a).length=(aC l).length
 | [],a=>by simp[lM,aC]
 | t::l,a=>by rw[lM,aC,Zab,Zab,Gp t,qp l]
end
variable {Z:ah} {l Y:List Nd} {a:Nat}
theorem tJ (a b:List ah):gA (a++b)=gA a++gA b:=by
 induction a with
 | nil=>simp[gA]
 | cons x a c=>simp[gA,c]
theorem uQ (a b:List ah):aR (a++b)=aR a+aR b:=by
 induction a with
 | nil=>simp[aR]
 | cons x a c=>simp[aR,c];omega
theorem yV:∀(l m:List ah) (a:Nat),lM (l++m) a=lM l a++lM m (a+(aC l).length)
 | [],m,a=>by rfl
 | t::l,m,a=>by
  rw[Za1,lM,yV l m,lM,aC,Zab,ZaD,Za4]
theorem Wf (h:kZ Z) (r:List Nd):cw (aH Z++r)=(Z,r):=by
 grind [cw,az,uP]
theorem kQ {r:List Nd} (h:kZ Z) (e:l.drop a=aH Z++r):lk (cw (l.drop a)).1=Z:=by
 rw[az,e,Wf h]
theorem wW {x:Nat} (e:l.drop a=aH Z++Y) (d:x<Z.af.length):l.drop (a+1+(aC (Z.af.take x)).length)=aH (Z.af.getD x bI)++(aC (Z.af.drop (x+1))++Y):=by
 have c:Z.af=Z.af.take x++(Z.af.getD x bI::Z.af.drop (x+1)):=by
  simp_all
 have b:aC Z.af=aC (Z.af.take x)++(aH (Z.af.getD x bI)++aC (Z.af.drop (x+1))):=by
  grind [cU,aC]
 rw[show a+1+(aC (Z.af.take x)).length=a+(1+(aC (Z.af.take x)).length) by omega,<-ZbZ,e,b6,b,Za1,ZaD];grind
theorem rk (e:l.drop a=aH Z++Y):a<l.length/\l.getD a (nd 0)=⟨Z.op,Z.r,Z.mn,Z.mx,Z.lz,Z.cap,Z.af.length⟩/\a+(aH Z).length<=l.length:=by
 grind [b6,List.length_append,List.drop_eq_getElem_cons]
theorem JX (n:Nat):0<=fq n/\fq n<=401:=by grind [fq]
theorem lO (a b:Int):gu a b=min a b:=by grind [gu]
theorem Qa6 (s u:Nat):gu (ay .i64 (fq s) (fq u)) 401=fq (s+u):=by
 grind [lO,fq]
theorem MV (s k:Nat) (hk:k<=1000):gu (ay .i64 (fq s) (k:Int)) 401=fq (s+k):=by
 grind [lO,fq]
theorem Wg {mn:Int} (s:Nat) (h0:0<=mn) (h1:mn<=30):gu (ay .i64 (ay .i64 (jx .i64 mn (fq s)) (fq s)) 2) 401=fq (mn.toNat*s+s+2):=by
 obtain⟨m,rfl⟩:=Zau h0;by_cases hs:s<=401
 ·have a:m*s<=30*401:=Zci ω hs;grind [lO,fq]
 ·grind [fq,lO]
theorem Qa7 {mn mx:Int} (s:Nat) (h0:0<=mn) (h1:mn<=mx) (f:mx<=30):gu (ay .i64 (jx .i64 mn (fq s)) (jx .i64 (dE .i64 mx mn) (ay .i64 (fq s) 1))) 401=fq (mn.toNat*s+(mx.toNat-mn.toNat)*(s+1)):=by
 obtain⟨m,rfl⟩:=Zau h0;have⟨d,i⟩:=Zau (show 0<=mx-m by omega);have c:mx=((m+d:Nat):Int):=ω;subst c;have e:=JX s;rw[ye ω ω,show((m+d:Nat):Int) -(m:Int)=(d:Int) by omega,Zad,Zad,ZcN,bA (a:=fq s) (b:=1) ω ω];by_cases hs:s<=401
 ·have g:m*s<=30*401:=Zci ω hs;have h:d*(s+1)<=30*402:=Zci ω ω;grind [lO,fq]
 ·have g1:m*402<=m*s:=Zci ω ω;have g2:d*403<=d*(s+1):=Zci ω ω;grind [lO,fq]
theorem PI.out {y:od} (h:PI y):∃(a:Nat) (r:List Nd),y.a=a/\kZ y.t/\y.l.drop a=aH y.t++r/\y.o.length=y.l.length/\y.l.length<=480/\y.n=(aH y.t).length:=by
 have⟨h0,h1,b,t,r,c,d⟩:=h;grind [od.t,kQ,od.n,az]
theorem szH (y:od) (P:szC.pre y):Qhe y:=by
 have⟨a,r,B,hw,n,O,hl,W⟩:=PI.out P;have⟨l,o,U⟩:=y;simp only at B n O hl;subst B;have⟨Z,Q,n3⟩:=rk n;have s:=(jq _).mp hw;have J:lk (cw (List.drop a l)).1=od.t ⟨l,o,a⟩:=rfl;have E:∀k,QZ ⟨l,o,a⟩ k=((a+1+(aC ((od.t ⟨l,o,a⟩).af.take k)).length:Nat):Int):=λk=>by grind [QZ,az]
 have G:∀k,szK ⟨l,o,a⟩ k=k_ o (a+1) (gA ((od.t ⟨l,o,a⟩).af.take k)):=λk=>by grind [szK,az]
 have H:∀k,szM ⟨l,o,a⟩ k=fq (aR ((od.t ⟨l,o,a⟩).af.take k)):=λk=>by unfold szM;rw[az]
 have I:HE ⟨l,o,a⟩=k_ o a (kn (od.t ⟨l,o,a⟩)):=by grind [HE,az]
 unfold Qhe;simp only[Zad,J];rw[I];generalize od.t ⟨l,o,a⟩=t at*
 have K:=b6 t;have L:(aH t).length=(aC t.af).length+1:=by grind
 have p:gt (Nd.mk 0 [] 0 0 false 0 0) l a=⟨t.op,t.r,t.mn,t.mx,t.lz,t.cap,t.af.length⟩:=Q;have C:∀k,(aC (t.af.take k)).length<=(aC t.af).length:=λk=>by
  grind [List.take_append_drop,cU]
 have N:t.af.length<=(aC t.af).length:=by
  have key:∀l:List ah,l.length<=(aC l).length:=λl=>by
   induction l with
   | nil=>simp
   | cons x l Y=>simp only[aC,Zab,Zae];rw[b6];simp;omega
  exact key _
 have hlen:∀k,(k_ o (a+1) (gA (t.af.take k))).length=o.length:=λk=>MS (by grind [lN])
 rw[p];simp only[E,G,H];simp only[bN,bj,aw,dL,Zad,hlen,az];refine⟨ω,ω,⟨0,by grind [aC],by rfl,rfl,by simp[gA,MR],Zaj _⟩,λx X=>⟨λe=>?_,λe=>?_⟩⟩
 ·have b:x<t.af.length:=ω;have hk:=wW n b;have u:kZ (t.af.getD x bI):=by grind [rj]
  have ht:=cy bI b;have⟨m1,_,m3⟩:=rk hk;have w:PI ⟨l,k_ o (a+1) (gA (t.af.take x)),((a+1+(aC (t.af.take x)).length:Nat):Int)⟩:=⟨by grind,by grind,hl,_,_,u,by assumption⟩;have q:(cw (List.drop (a+1+(aC (t.af.take x)).length) l)).1=t.af.getD x bI:=by grind [az,kQ]
  have i:HE ⟨l,k_ o (a+1) (gA (t.af.take x)),((a+1+(aC (t.af.take x)).length:Nat):Int)⟩=k_ o (a+1) (gA (t.af.take (x+1))):=by
   unfold HE od.t;grind [az,MT,lN,tJ,gA]
  have F:(k_ o (a+1) (gA (t.af.take (x+1)))).getD (a+1+(aC (t.af.take x)).length) 0=fq (bw (t.af.getD x bI)):=by
   rw[ht,tJ,gA,gA,Zaw,<-lN,Qhi ω (by rw[ss];simp),JV ω,Zb3,ss];rfl
  rw[i,F,q];refine⟨⟨w,jo b⟩,ω,ω,x+1,?_,?_,bR ω,rfl,ω,ω⟩
  ·grind [cU,aC]
  ·grind [uQ,aR,Qa6]
 ·have b:x=t.af.length:=ω;subst b;rw[ZaM];have c:((a+1+(aC t.af).length:Nat):Int)=(a:Int)+(((aH t).length:Nat):Int):=ω;have fin:∀v,v=fq (bw t)->dh (k_ o (a+1) (gA t.af)) a v=k_ o a (kn t):=λv D=>by
   show(k_ o (a+1) (gA t.af)).set a v=_
   grind [MU,ss]
  have dF:=size_eq t;unfold qo at dF;have all:∀v,v=fq (bw t)->(0:Int)<=a/\(a:Int)<(o.length:Int)/\((a+1+(aC t.af).length:Nat):Int)=(a:Int)+(((aH t).length:Nat):Int)/\dh (k_ o (a+1) (gA t.af)) a v=k_ o a (kn t):=λv D=>⟨ω,ω,c,fin v D⟩
  have one:t.op=2\/t.op=7\/t.op=8->gu 1 401=fq (bw t):=λh=>by rw[dF,Zac h];decide
  have wf:=s.1;have rest:¬(t.op=2\/t.op=7\/t.op=8)->((t.op=4->(0:Int)<=a/\(a:Int)<(o.length:Int)/\((a+1+(aC t.af).length:Nat):Int)=(a:Int)+(((aH t).length:Nat):Int)/\dh (k_ o (a+1) (gA t.af)) a (gu (ay .i64 (fq (aR t.af)) (jx .i64 2 (dE .i64 (t.af.length:Int) 1))) 401)=k_ o a (kn t))/\
    (t.op≠4->(t.op=6->(0:Int)<=a/\(a:Int)<(o.length:Int)/\((a+1+(aC t.af).length:Nat):Int)=(a:Int)+(((aH t).length:Nat):Int)/\dh (k_ o (a+1) (gA t.af)) a (gu (ay .i64 (fq (aR t.af)) 2) 401)=k_ o a (kn t))/\
    (t.op≠6->(t.op=5->(t.mx= -1->(0:Int)<=a/\(a:Int)<(o.length:Int)/\((a+1+(aC t.af).length:Nat):Int)=(a:Int)+(((aH t).length:Nat):Int)/\dh (k_ o (a+1) (gA t.af)) a (gu (ay .i64 (ay .i64 (jx .i64 t.mn (fq (aR t.af))) (fq (aR t.af))) 2) 401)=k_ o a (kn t))/\
     (t.mx≠-1->(0:Int)<=a/\(a:Int)<(o.length:Int)/\((a+1+(aC t.af).length:Nat):Int)=(a:Int)+(((aH t).length:Nat):Int)/\dh (k_ o (a+1) (gA t.af)) a (gu (ay .i64 (jx .i64 t.mn (fq (aR t.af))) (jx .i64 (dE .i64 t.mx t.mn) (ay .i64 (fq (aR t.af)) 1))) 401)=k_ o a (kn t)))/\
    (t.op≠5->(0:Int)<=a/\(a:Int)<(o.length:Int)/\((a+1+(aC t.af).length:Nat):Int)=(a:Int)+(((aH t).length:Nat):Int)/\dh (k_ o (a+1) (gA t.af)) a (gu (fq (aR t.af)) 401)=k_ o a (kn t))))):=λh=>by
   rw[Zaa h] at dF;refine⟨λd=>all _ ?_,λd=>⟨λz=>all _ ?_,λz=>⟨λf=>⟨λR=>all _ ?_,λR=>all _ ?_⟩,λf=>all _ ?_⟩⟩⟩
   ·rw[Zac d] at dF;have M:1<=t.af.length:=by
     have⟨g,V⟩:=wf;grind [bP]
    rw[dF,Br ω ω,CX ω ω];have:=MV (aR t.af) (2*(t.af.length-1)) ω;assumption
   ·rw[Zaa d,Zac z] at dF;rw[dF];exact MV _ 2 ω
   ·have⟨_,S,T,_⟩:=wf.rep f;grind [Wg]
   ·have⟨_,S,T,w4⟩:=wf.rep f;grind [Qa7]
   ·rw[Zaa d,Zaa z,Zaa f] at dF;rw[dF,lO];have:=JX (aR t.af);omega
  refine⟨λj=>⟨λ_=>all _ (one (.inl j)),λh=>absurd j h⟩,λj=>⟨λm=>⟨λ_=>all _ (one (.inr (.inl m))),λh=>absurd m h⟩,λm=>⟨λA=>all _ (one (.inr (.inr A))),λA=>rest ω⟩⟩⟩
def QuZ:Ok szC:=QY (λy=>dI y.t) Qhf trivial szH
theorem enH (y:od) (A:enC.pre y):Qhg y:=by
 have⟨a,r,j,hw,d,w,hl,E⟩:=PI.out A;have⟨l,o,C⟩:=y;simp only at j d w hl;subst j;have⟨H,B,I⟩:=rk d;have z:=(jq _).mp hw;have q:lk (cw (List.drop a l)).1=od.t ⟨l,o,a⟩:=rfl;have n:∀k,QZ ⟨l,o,a⟩ k=((a+1+(aC ((od.t ⟨l,o,a⟩).af.take k)).length:Nat):Int):=λk=>by grind [QZ,az]
 have p:∀k,enK ⟨l,o,a⟩ k=k_ o (a+1) (lM ((od.t ⟨l,o,a⟩).af.take k) (a+1)):=λk=>by grind [enK,az]
 have D:JU ⟨l,o,a⟩=k_ o a (rJ (od.t ⟨l,o,a⟩) a):=by grind [JU,az]
 unfold Qhg;simp only[Zad,q];generalize od.t ⟨l,o,a⟩=t at*
 have s:=b6 t;have u:(aH t).length=(aC t.af).length+1:=by grind
 have f:gt (Nd.mk 0 [] 0 0 false 0 0) l a=⟨t.op,t.r,t.mn,t.mx,t.lz,t.cap,t.af.length⟩:=B;have m:∀k,(aC (t.af.take k)).length<=(aC t.af).length:=λk=>by
  grind [List.take_append_drop,cU]
 have v:t.af.length<=(aC t.af).length:=by
  have key:∀l:List ah,l.length<=(aC l).length:=λl=>by
   induction l with
   | nil=>simp
   | cons x l G=>simp only[aC,Zab,Zae];rw[b6];simp;omega
  exact key _
 have hlen:∀k,(k_ o (a+1) (lM (t.af.take k) (a+1))).length=o.length:=λk=>MS (by grind [qp])
 rw[f];simp only[n,p];simp only[bN,bj,aw,dL,Zad,hlen,az];refine⟨ω,ω,⟨0,by grind [aC],rfl,by simp[lM,MR],Zaj _⟩,λx F=>⟨λe=>?_,λe=>?_⟩⟩
 ·have b:x<t.af.length:=ω;have hk:=wW d b;have h:kZ (t.af.getD x bI):=by grind [rj]
  have ht:=cy bI b;have i:PI ⟨l,k_ o (a+1) (lM (t.af.take x) (a+1)),((a+1+(aC (t.af.take x)).length:Nat):Int)⟩:=⟨by grind,by grind,hl,_,_,h,by assumption⟩;have g:(cw (List.drop (a+1+(aC (t.af.take x)).length) l)).1=t.af.getD x bI:=by grind [az,kQ]
  have c:JU ⟨l,k_ o (a+1) (lM (t.af.take x) (a+1)),((a+1+(aC (t.af.take x)).length:Nat):Int)⟩=k_ o (a+1) (lM (t.af.take (x+1)) (a+1)):=by
   unfold JU od.t;grind [az,MT,qp,yV,lM]
  rw[c,g];refine⟨⟨i,jo b⟩,x+1,?_,bR ω,rfl,ω,ω⟩;grind [cU,aC]
 ·have b:x=t.af.length:=ω;subst b;rw[ZaM];refine⟨ω,ω,ω,?_⟩;show(k_ o (a+1) _).set a _=_
  grind [MU,JW]
def Qu0:Ok enC:=QY (λy=>dI y.t) Qhh trivial enH
def in0:a8:=⟨0,0,0,[]⟩
def iK (f:Nat->List a8) (sz:Nat):Nat->Nat->List a8
 | 0,_=>[]
 | n+1,b=>f b++iK f sz n (b+sz)
def fN (g:Nat->a8) (f:Nat->List a8) (sz:Nat):Nat->Nat->List a8
 | 0,_=>[]
 | n+1,b=>g b::(f (b+1)++fN g f sz n (b+1+sz))
def iD (lz:Bool) (b out:Nat):a8:=if lz=true then⟨2,out,(b+1:Nat),[]⟩ else⟨2,(b+1:Nat),out,[]⟩
def lP (mn mx:Int):Nat:=mx.toNat-mn.toNat
def JY (f:Nat->List a8) (sz:Nat) (mn mx:Int) (lz:Bool) (b:Nat):List a8:=
 iK f sz mn.toNat b++(if mx= -1 then iD lz (b+mn.toNat*sz) (b+mn.toNat*sz+sz+2)::(f (b+mn.toNat*sz+1)++[⟨3,(b+mn.toNat*sz:Nat),0,[]⟩])
  else fN (λi=>iD lz i (b+mn.toNat*sz+lP mn mx*(sz+1))) f sz (lP mn mx) (b+mn.toNat*sz))
mutual
def bY:ah->Nat->List a8
 | .mk op r mn mx lz cap _ ks,b=>
  if op=2 then[⟨1,0,0,r⟩] else if op=7 then[⟨5,0,0,[]⟩] else if op=8 then[⟨6,0,0,[]⟩]
  else if op=3 then bx ks b
  else if op=4 then kR ks b (b+aR ks+2*(ks.length-1))
  else if op=5 then JY (λb=>bx ks b) (aR ks) mn mx lz b
  else if op=6 then⟨4,2*cap,0,[]⟩::(bx ks (b+1)++[⟨4,2*cap+1,0,[]⟩])
  else[]
def bx:List ah->Nat->List a8
 | [],_=>[]
 | t::l,b=>bY t b++bx l (b+bw t)
def kR:List ah->Nat->Nat->List a8
 | [],_,_=>[]
 | t::l,b,e=>if l.isEmpty=true then bY t b else⟨2,(b+1:Nat),(b+2+bw t:Nat),[]⟩::(bY t (b+1)++⟨3,e,0,[]⟩::kR l (b+2+bw t) e)
end
def gf:List ah->Nat->Nat->List a8
 | [],_,_=>[]
 | t::l,b,e=>⟨2,(b+1:Nat),(b+2+bw t:Nat),[]⟩::(bY t (b+1)++⟨3,e,0,[]⟩::gf l (b+2+bw t) e)
def ku:List ah->Nat->List Int
 | [],_=>[]
 | t::l,b=>(b+1+bw t:Nat)::ku l (b+2+bw t)
def ko (sz:Nat):Nat->Nat->List Int
 | 0,_=>[]
 | n+1,b=>(b:Int)::ko sz n (b+1+sz)
def lQ (e:Int) (l:List a8) (j:Int):List a8:=l.set j.toNat ⟨(l.getD j.toNat in0).op,e,(l.getD j.toNat in0).y,(l.getD j.toNat in0).bz⟩
def fT (e:Int) (lz:Bool) (l:List a8) (j:Int):List a8:=l.set j.toNat ⟨(l.getD j.toNat in0).op,if lz=true then e else j+1,if lz=true then j+1 else e,(l.getD j.toNat in0).bz⟩
structure eV where
 ag:List a8
 bG:List Nd
 cS:List Int
 aL:List Int
abbrev wc:=eV×Int
variable {Z:Nat} {Y:Nat->List a8} {x:Nd} {g:Nat->a8}
def MW (n:Nat) (y:eV) (ag:List a8):List (Nat×AO D.E):=[(0,.cells [.own n 4 (ab ag),.list 7 y.bG,.list 5 y.cS,.list 5 y.aL] 140 false),(n,.arr 8 ag 146 false)]
def Qhk (v:AV D.E) (s:St D.E):C eV:=match v with
 | .ptr b _=>aB (dg (s.h.get b)) λo=>match o with
  | .cells cs _ _=>match cs with
   | [c,l,x,e]=>aB (aW D s 8 c) λc=>aB (aW D s 7 l) λl=>aB (aW D s 5 x) λx=>aB (aW D s 5 e) λe=>.ret ⟨c,l,x,e⟩
   | _=>.fail
  | _=>.fail
 | _=>.fail
def QeE (v:AV D.E):C a8:=aB (asAgg v) λcs=>ug D 8 cs
def we:bp D:=⟨56,eV×a8,λa s=>match a with
 | [p,i]=>aB (Qhk p s) λy=>aB (QeE i) λi=>.ret (y,i)
 | _=>.fail,λy=>y.1.ag.length<=1000,λy=>[.ptr 0 0,.agg (D.bm 8 y.2)],λy=>MW 1 y.1 y.1.ag,λy=>Qyy y.1.ag.length,λy=>MW 2 y.1 (y.1.ag++[y.2]),2,3⟩
def Qu1 (_:we.Y):dj D:=⟨[],[],[],[],1,[]⟩
def Gq:bp D:=⟨127,eV×Int×Int×Bool,λa s=>match a with
 | [p,i,o,b]=>aB (Qhk p s) λy=>aP (cQ i) λ_ i=>aP (cQ o) λ_ o=>aP (xg b) λb _=>.ret (y,i,o,b)
 | _=>.fail,λy=>y.1.ag.length<=1000/\0<=y.2.1/\y.2.1<y.1.ag.length,λy=>[.ptr 0 0,Qyy y.2.1,Qyy y.2.2.1,.bool y.2.2.2],λy=>MW 1 y.1 y.1.ag,λ_=>.tuple [],λy=>MW 1 y.1 (fT y.2.2.1 y.2.2.2 y.1.ag y.2.1),2,2⟩
def eV.t (y:wc):ah:=lk (cw (y.1.bG.drop y.2.toNat)).1
def lS (y:wc):Prop:=0<=y.2/\y.1.bG.length<=480/\(∀x∈y.1.bG,jl x)/\∃t,kZ t/\y.1.ag.length+bw t<=400/\(∃r,y.1.bG.drop y.2.toNat=aH t++r)/\(∃r,y.1.cS.drop y.2.toNat=kn t++r)/\∃r,y.1.aL.drop y.2.toNat=rJ t y.2.toNat++r
def Qu4 (a:List (AV D.E)) (s:St D.E):C wc:=match a with
 | [p,i]=>aB (Qhk p s) λy=>aP (cQ i) λ_ i=>.ret (y,i)
 | _=>.fail
def iL (y:wc):List a8:=lk (y.1.ag++bY (eV.t y) y.1.ag.length)
def Qhl (f:FuncId) (pre:wc->Prop):bp D:=⟨f,wc,Qu4,pre,λy=>[.ptr 0 0,Qyy y.2],λy=>MW 1 y.1 y.1.ag,λ_=>.tuple [],λy=>MW 2 y.1 (iL y),2,3⟩
def JZ:bp D:=Qhl 57 lS
def Qhm (y:wc):Prop:=lS y/\(eV.t y).op=4
def Qhn (y:wc):Prop:=lS y/\(eV.t y).op=5
def PJ:bp D:=Qhl 93 Qhm
def PK:bp D:=Qhl 94 Qhn
def fnM (y:wc) (n:Nat):vU:=[JZ.under (λy=>2*dI (eV.t y)+1) n,PJ.under (λy=>2*dI (eV.t y)) n,PK.under (λy=>2*dI (eV.t y)) n]
def wg (y:wc) (k:Nat):Int:=lk (y.2+1+(aC ((eV.t y).af.take k)).length)
def Gs (y:wc) (k:Nat):List a8:=lk (y.1.ag++bx ((eV.t y).af.take k) y.1.ag.length)
def Qmr (y:JZ.Y):dj D:=⟨[],[],[(30710,⟨Nat,[0,38],λk=>[(4,.ptr 2 0),(5,Qyy (wg y k)),(39,Qyy k)],[2],λk=>MW 3 y.1 (Gs y k),4,λk=>k<=(eV.t y).af.length,λk=>(eV.t y).af.length-k⟩)],[],1,[]⟩
def Qu6 (y:JZ.Y):Prop:=vc (fnM y (2*dI (eV.t y)+1)++[we]) f57 JZ Qmr y
def Gu (y:wc) (k:Nat):List a8:=lk (y.1.ag++gf ((eV.t y).af.take k) y.1.ag.length 0)
def Gv (y:wc) (k:Nat):List Int:=lk (ku ((eV.t y).af.take k) y.1.ag.length)
def Dl (y:wc):List a8:=lk (y.1.ag++kR (eV.t y).af y.1.ag.length 0)
def Dm (y:wc):List Int:=lk (ku (eV.t y).af.dropLast y.1.ag.length)
def Gx (y:wc) (j:Nat):List a8:=lk (((Dm y).take j).foldl (lQ (iL y).length) (Dl y))
def wi (n:Nat):Nat×AO D.E:=(n,.tok 5 3)
def Qms (y:PJ.Y):dj D:=⟨[],[],[
 (58,⟨Nat,[0,1,19],λk=>[(4,.grow 5 (Gv y k) 3),(5,Qyy (wg y k)),(20,Qyy k)],[],λk=>MW 2 y.1 (Gu y k)++[wi 3],4,λk=>k+1<=(eV.t y).af.length,λk=>(eV.t y).af.length-k⟩),
 (62,⟨Nat,[0,66],λj=>[(65,.grow 5 (Dm y) 3),(67,Qyy j)],[],λj=>MW 2 y.1 (Gx y j)++[wi 3],4,λj=>j<=(Dm y).length,λj=>(Dm y).length-j⟩)],
 [(7,⟨Unit,[0],λ_=>[(4,.grow 5 (Dm y) 3)],[],λ_=>MW 2 y.1 (Dl y)++[wi 3],4,λ_=>True,λ_=>0⟩)],1,[]⟩
def Qu7 (y:PJ.Y):Prop:=vc (fnM y (2*dI (eV.t y))++[we,Gq]) f93 PJ Qms y
def ndO (n:Nat) (x:ah):Nat×AO D.E:=(n,.cells [.int .i64 x.op,.list 6 x.r,.int .i64 x.mn,.int .i64 x.mx,.bool x.lz,.int .i64 x.cap,.int .i64 x.nk] 149 false)
def tK (y:wc) (k:Nat):List a8:=lk (y.1.ag++iK (bx (eV.t y).af) (aR (eV.t y).af) k y.1.ag.length)
def PL (y:wc):Nat:=lk (tK y (eV.t y).mn.toNat).length
def Al (y:wc) (k:Nat):List a8:=lk (tK y (eV.t y).mn.toNat++fN (λ_=>⟨2,0,0,[]⟩) (bx (eV.t y).af) (aR (eV.t y).af) k (PL y))
def wj (y:wc) (k:Nat):List Int:=lk (ko (aR (eV.t y).af) k (PL y))
def ma (y:wc):Nat:=lk (lP (eV.t y).mn (eV.t y).mx)
def Gy (y:wc) (j:Nat):List a8:=lk (((wj y (ma y)).take j).foldl (fT (iL y).length (eV.t y).lz) (Al y (ma y)))
def Qmt (y:PK.Y):dj D:=⟨[],[],[
 (106,⟨Nat,[0,5,28],λk=>[(4,.ptr 2 0),(29,Qyy k)],[],λk=>MW 3 y.1 (tK y k)++[ndO 2 (eV.t y)],4,λk=>k<=(eV.t y).mn.toNat,λk=>(eV.t y).mn.toNat-k⟩),
 (250,⟨Nat,[0,5,62],λk=>[(4,.ptr 2 0),(7,.grow 5 (wj y k) 4),(63,Qyy k)],[],λk=>MW 3 y.1 (Al y k)++[ndO 2 (eV.t y),wi 4],5,λk=>k<=ma y,λk=>ma y-k⟩),
 (254,⟨Nat,[0,76],λj=>[(4,.ptr 2 0),(75,.grow 5 (wj y (ma y)) 4),(77,Qyy j)],[],λj=>MW 3 y.1 (Gy y j)++[ndO 2 (eV.t y),wi 4],5,λj=>j<=ma y,λj=>ma y-j⟩)],
 [(3,⟨Unit,[0,5],λ_=>[(4,.ptr 2 0)],[],λ_=>MW 3 y.1 (tK y (eV.t y).mn.toNat)++[ndO 2 (eV.t y)],4,λ_=>True,λ_=>0⟩)],1,[]⟩
def Qu8 (y:PK.Y):Prop:=vc (fnM y (2*dI (eV.t y))++[we,Gq]) f94 PK Qmt y
def Wh (y:eV×a8):Prop:=let a:=([y.2]:List a8);let q1:=ab (bn y.1.ag a);ba q1 48/\RAS (ab y.1.ag) y.2.op y.2.x y.2.y y.2.bz (dE .i64 q1 1=(y.1.ag.length:Int)/\q1=ab (y.1.ag++a)/\aa [y.1.bG] (aa [y.1.cS,y.1.aL] (bn y.1.ag a=(y.1.ag++a)/\True)))
abbrev RA3 (v:eV) (p:Prop):Prop:=aa [v.bG] (aa [v.cS] (aa [v.aL] p))
def Wi (y:eV×Int×Int×Bool):Prop:=let a:=ab y.1.ag;let q1:=y.2.1.toNat;let i:=ay .i64 y.2.1 1;let e:=gt (a8.mk 0 0 0 []) y.1.ag q1;let d:=fT y.2.2.1 y.2.2.2 y.1.ag y.2.1;let j:=dh y.1.ag q1 (a8.mk e.op i e.y e.bz);let f:=gt (a8.mk 0 0 0 []) j q1;let g:=dh j q1 (a8.mk f.op f.x y.2.2.1 f.bz);let h:=gt (a8.mk 0 0 0 []) g q1;let k:=dh g q1 (a8.mk h.op y.2.2.1 h.y h.bz);let b:=gt (a8.mk 0 0 0 []) k q1;let c:=λp:Prop=>RA3 y.1 p;aM 0 y.2.1=true/\aD y.2.1 a=true/\aM 0 y.2.1=true/\aD y.2.1 a=true/\RAP a a (aj y.2.2.2 (aM 0 y.2.1=true/\aD y.2.1 a=true/\aM 0 y.2.1=true/\aD y.2.1 a=true/\aa [a,a] (a=ab d/\c (dh k q1 (a8.mk b.op b.x i b.bz)=d/\True))) (a=ab d/\c (g=d/\True)))
def Wj (y:eV×Int):Prop:=let f:=iL y;let q1:=ab f;let h:=ab y.1.ag;let o:=ay .i64 y.2 1;let q:=(y.1,y.2);let i:=lk (cw (List.drop y.2.toNat y.1.bG)).1;let a:=gt (Nd.mk 0 [] 0 0 false 0 0) y.1.bG y.2.toNat;let l:=i.af.length;let m:=jx .i64 2 a.cap;let u:=ay .i64 m 1;let B:=y.1.ag++[a8.mk 4 m 0 []];let s:=ab B;let j:=(eV.mk B y.1.bG y.1.cS y.1.aL,o);let d:=iL j;let b:=λp:Prop=>RA3 y.1 p;let n:=λp:Prop=>RA5 a p;let k:Prop:=(RAP y.2 h (RA3 y.1 (RAO y.1.ag (ab (iL q)=q1/\b (iL q=f/\True)))));let A:=y.1.ag++[a8.mk 1 0 0 a.r];let F:=y.1.ag++[a8.mk 5 0 0 []];let G:=y.1.ag++[a8.mk 6 0 0 []];aM 0 y.2/\aD y.2 (ab y.1.bG)/\aj (aE a.op 2) (ba (ab a.r) 8/\Iv (y.1.ag.length<=1000)/\aa ([1,0,0]:List Int) (RAP a.r h (RA3 y.1 (RAO y.1.ag (ab A=q1/\b (A=f/\True)))))) (aj (aE a.op 7) (Iv (y.1.ag.length<=1000)/\aa ([5,0,0]:List Int) (RAH (RAO h (RA3 y.1 (RAO y.1.ag (ab F=q1/\b (F=f/\True))))))) (aj (aE a.op 8) (Iv (y.1.ag.length<=1000)/\aa ([6,0,0]:List Int) (RAH (RAO h (RA3 y.1 (RAO y.1.ag (ab G=q1/\b (G=f/\True))))))) (aj (aE a.op 3) ((∃z:Nat,RAO a.af (o=wg y z/\0=(z:Int)/\n (h=ab (Gs y z)/\b (y.1.ag=Gs y z/\(Iv (z<=l))))))/\(∀x:Nat,let c:=wg y x;let e:=Gs y x;let g:=(eV.mk e y.1.bG y.1.cS y.1.aL,c);let t:=aD (x:Int) a.af;(Iv (x<=l))->aj t (Iv (lS g/\((2*dI (lk (cw (List.drop c.toNat y.1.bG)).1))+1)<((2*dI i)+1))/\aa [c,ab e] (RA3 y.1 (RAO e (aM 0 c/\aD c (ab y.1.aL)/\∃z:Nat,aa [a.af] (gt 0 y.1.aL c.toNat=wg y z/\ay .i64 (x:Int) 1=(z:Int)/\n (ab (iL g)=ab (Gs y z)/\b (iL g=Gs y z/\(Iv (z<=l/\(l-z)<(l-x)))))))))) (ab e=q1/\b (e=f/\True)))) (aj (aE a.op 4) (Iv (Qhm q/\(2*dI i)<((2*dI i)+1))/\k) (aj (aE a.op 5) (Iv (Qhn q/\(2*dI i)<((2*dI i)+1))/\k) (aj (aE a.op 6) (Iv (y.1.ag.length<=1000)/\aa ([4,m,0]:List Int) (RAH (RAO h (RA3 y.1 (RAO y.1.ag (Iv (lS j/\((2*dI (lk (cw (List.drop o.toNat y.1.bG)).1))+1)<((2*dI i)+1))/\aa [o,s] (aa [y.1.bG] (aa [y.1.cS,y.1.aL] (aa [y.1.ag++[a8.mk 4 m 0 []]] (Iv (d.length<=1000)/\aa ([4,u,0]:List Int) (aa ([[]]:List (List (Int×Int))) (aa [ab d] (aa [y.1.bG] (aa [y.1.cS,y.1.aL] (aa [d] (ab (d++[a8.mk 4 u 0 []])=q1/\b ((d++[a8.mk 4 u 0 []])=f/\True))))))))))))))))) (h=q1/\b (y.1.ag=f/\True))))))))
def Qba:∀y,Wj y=Qu6 y:=λy=>by kernel_rfl
def Wl (y:eV×Int):Prop:=let d:=Dm y;let q1:=ab (Dl y);let w:=lk (cw (List.drop y.2.toNat y.1.bG)).1;let r:=w.af.length;let F:=gt (Nd.mk 0 [] 0 0 false 0 0) y.1.bG y.2.toNat;let B:=λp:Prop=>RAP y.2 F.af p;let k:=λp:Prop=>RA3 y.1 p;(aM 0 y.2/\aD y.2 (ab y.1.bG)/\(∃z:Nat,B ([]=Gv y z/\ay .i64 y.2 1=wg y z/\0=(z:Int)/\ab y.1.ag=ab (Gu y z)/\k (y.1.ag=Gu y z/\(Iv ((z+1)<=r)))))/\(∀x:Nat,let h:=wg y x;let c:=Gu y x;let s:=(c.length:Int);let A:=(eV.mk c y.1.bG y.1.cS y.1.aL,h);let t:=ab (c++[a8.mk 2 0 0 []]);let u:=aD (x:Int) F.af;let v:=aE (x:Int) (dE .i64 F.af 1);let l:=(eV.mk (c++[a8.mk 2 0 0 []]) y.1.bG y.1.cS y.1.aL,h);let a:=iL l;let m:=bn (Gv y x) [(a.length:Int)];let i:=ab (a++[a8.mk 3 0 0 []]);let n:=(a++[a8.mk 3 0 0 []]).length;let o:=fT i false (a++[a8.mk 3 0 0 []]) s;(Iv ((x+1)<=r))->aj u (aM 0 y.2/\aD y.2 (ab y.1.bG)/\aj v (Iv (lS A/\((2*dI (lk (cw (List.drop h.toNat y.1.bG)).1))+1)<(2*dI w))/\aa [h,ab c] (RA3 y.1 (RAO c (∃z:Unit,Gv y x=d/\ab (iL A)=q1/\k (iL A=Dl y/\(Iv True)))))) (Iv (c.length<=1000)/\aa ([2,0,0]:List Int) (RAH (aa [ab c] (RA3 y.1 (RAO c (Iv (lS l/\((2*dI (lk (cw (List.drop h.toNat y.1.bG)).1))+1)<(2*dI w))/\aa [h,t] (aa [y.1.bG] (aa [y.1.cS,y.1.aL] (aa [c++[a8.mk 2 0 0 []]] (Iv (a.length<=1000)/\aa ([3,0,0]:List Int) (aa ([[]]:List (List (Int×Int))) (aa [ab a] (aa [y.1.bG] (aa [y.1.cS,y.1.aL] (aa [a] (ba (ab m) 8/\Iv (n<=1000/\0<=s/\s<(n:Int))/\aa [s,i] (false=false/\aa [i] (aa [y.1.bG] (aa [y.1.cS,y.1.aL] (aa [a++[a8.mk 3 0 0 []]] (aM 0 h/\aD h (ab y.1.aL)/\∃z:Nat,B (m=Gv y z/\gt 0 y.1.aL h.toNat=wg y z/\ay .i64 (x:Int) 1=(z:Int)/\ab o=ab (Gu y z)/\k (o=Gu y z/\(Iv ((z+1)<=r/\(r-z)<(r-x))))))))))))))))))))))))))) (∃z:Unit,Gv y x=d/\ab c=q1/\k (c=Dl y/\(Iv True)))))/\(∀x:Unit,(Iv True)->(∃z:Nat,RAP (ab d) d (0=(z:Int)/\q1=ab (Gx y z)/\k (Dl y=Gx y z/\(Iv (z<=d.length)))))/\(∀x1:Nat,let e:=Gx y x1;let f:=d.length;let b:=ab e;let q:=aD (x1:Int) (ab d);let g:=gt 0 d (x1:Int).toNat;let j:=gt (a8.mk 0 0 0 []) e g.toNat;(Iv (x1<=f))->aj q (aM 0 (x1:Int)/\q/\aM 0 g/\aD g b/\RAP b b (∃z:Nat,aa [ab d] (aa [d] (ay .i64 (x1:Int) 1=(z:Int)/\b=ab (Gx y z)/\k (dh e g.toNat (a8.mk j.op b j.y j.bz)=Gx y z/\(Iv (z<=f/\(f-z)<(f-x1)))))))) (b=ab (iL y)/\k (e=iL y/\True))))
def Qbb:∀y,Wl y=Qu7 y:=λy=>by kernel_rfl
abbrev RAW {T0 T1 T2 T3 T4 T5 T6 T7:Type} (a:T0) (b:T1) (c:T2) (d:T3) (e:T4) (f:T5) (g:T6) (h:T7) (p:Prop):Prop:=aa [a] (aa [b] (aa [c] (aa [d] (aa [e] (aa [f] (aa [g] (aa [h] p)))))))
def Wm (y:eV×Int):Prop:=let D:=wj y (ma y);let q1:=ay .i64 y.2 1;let a:=lk (cw (List.drop y.2.toNat y.1.bG)).1;let J:=aD 0 (gt 0 y.1.cS q1.toNat);let d:=gt (Nd.mk 0 [] 0 0 false 0 0) y.1.bG y.2.toNat;let u:=a.mn.toNat;let j:=tK y u;let E:=ab j;let m:=(j.length:Int);let K:=ab (j++[a8.mk 2 0 0 []]);let o:=dE .i64 a.mx a.mn;let v:=(eV.mk (j++[a8.mk 2 0 0 []]) y.1.bG y.1.cS y.1.aL,q1);let e:=iL v;let k:=ab (e++[a8.mk 3 m 0 []]);let w:=(e++[a8.mk 3 m 0 []]).length;let A:=fT k a.lz (e++[a8.mk 3 m 0 []]) m;let b:=λp:Prop=>RA3 y.1 p;let i:=λp:Prop=>RAV a.op a.r a.mn a.mx a.lz a.cap a.nk p;let N:=((2*dI (lk (cw (List.drop q1.toNat y.1.bG)).1))+1)<(2*dI a);aM 0 y.2=true/\aD y.2 (ab y.1.bG)=true/\(aM 0 q1=true/\aD q1 (ab y.1.cS)=true/\aj J ((∃z:Nat,RAP q1 d.mn (0=(z:Int)/\d.op=a.op/\d.r=a.r/\d.mn=a.mn/\d.mx=a.mx/\d.lz=a.lz/\d.cap=a.cap/\d.af=a.nk/\ab y.1.ag=ab (tK y z)/\b (y.1.ag=tK y z/\(Iv (z<=u)))))/\(∀x:Nat,let g:=tK y x;let q:=(eV.mk g y.1.bG y.1.cS y.1.aL,q1);let F:=aD (x:Int) d.mn;(Iv (x<=u))->aj F (Iv (lS q/\N)/\aa [q1,ab g] (RA3 y.1 (RAO g (∃z:Nat,aa [q1,d.mn] (ay .i64 (x:Int) 1=(z:Int)/\i (ab (iL q)=ab (tK y z)/\b (iL q=tK y z/\(Iv (z<=u/\(u-z)<(u-x)))))))))) (∃z:Unit,RAW q1 a.op a.r a.mn a.mx a.lz a.cap a.nk (ab g=E/\b (g=j/\(Iv True)))))) (∃z:Unit,RAO q1 (d.op=a.op/\d.r=a.r/\d.mn=a.mn/\d.mx=a.mx/\d.lz=a.lz/\d.cap=a.cap/\d.af=a.nk/\ab y.1.ag=E/\b (y.1.ag=j/\(Iv True)))))/\(∀x:Unit,(Iv True)->aj (aE a.mx (-1)) (Iv (j.length<=1000)/\aa ([2,0,0]:List Int) (RAH (RAO E (RA3 y.1 (RAO j (Iv (lS v/\N)/\aa [q1,K] (aa [y.1.bG] (aa [y.1.cS,y.1.aL] (aa [j++[a8.mk 2 0 0 []]] (Iv (e.length<=1000)/\aa ([3,m,0]:List Int) (aa ([[]]:List (List (Int×Int))) (aa [ab e] (aa [y.1.bG] (aa [y.1.cS,y.1.aL] (aa [e] (Iv (w<=1000/\0<=m/\m<(w:Int))/\aa [m,k] (aa [a.lz] (aa [k] (aa [y.1.bG] (aa [y.1.cS,y.1.aL] (aa [e++[a8.mk 3 m 0 []]] (aa [k] (aa [a.lz] (ab A=ab (iL y)/\b (A=iL y/\True))))))))))))))))))))))))) ((∃z:Nat,RAP q1 o ([]=wj y z/\0=(z:Int)/\i (E=ab (Al y z)/\b (j=Al y z/\(Iv (z<=ma y))))))/\(∀x1:Nat,let c:=Al y x1;let s:=ab (wj y x1);let B:=bn (wj y x1) [(c.length:Int)];let G:=ab (c++[a8.mk 2 0 0 []]);let t:=(eV.mk (c++[a8.mk 2 0 0 []]) y.1.bG y.1.cS y.1.aL,q1);let H:=aD (x1:Int) o;(Iv (x1<=ma y))->aj H (Iv (c.length<=1000)/\aa ([2,0,0]:List Int) (RAH (aa [ab c] (RA3 y.1 (RAO c (ba (ab B) 8=true/\Iv (lS t/\N)/\aa [q1,G] (aa [y.1.bG] (aa [y.1.cS,y.1.aL] (aa [c++[a8.mk 2 0 0 []]] (∃z:Nat,aa [q1,o] (B=wj y z/\ay .i64 (x1:Int) 1=(z:Int)/\i (ab (iL t)=ab (Al y z)/\b (iL t=Al y z/\(Iv (z<=ma y/\(ma y-z)<(ma y-x1)))))))))))))))) ((∃z:Nat,RAO s (wj y x1=D/\0=(z:Int)/\i (ab c=ab (Gy y z)/\b (c=Gy y z/\(Iv (z<=ma y))))))/\(∀n:Nat,let f:=Gy y n;let h:=ab f;let I:=aD (n:Int) s;let l:=gt 0 D (n:Int).toNat;let C:=fT h a.lz f l;(Iv (n<=ma y))->aj I (aM 0 (n:Int)=true/\aD (n:Int) (ab D)=true/\Iv (f.length<=1000/\0<=l/\l<(f.length:Int))/\RAR l h a.lz h (RA3 y.1 (RAQ f h a.lz (∃z:Nat,aa [s] (aa [D] (ay .i64 (n:Int) 1=(z:Int)/\i (ab C=ab (Gy y z)/\b (C=Gy y z/\(Iv (z<=ma y/\(ma y-z)<(ma y-n))))))))))) (h=ab (iL y)/\b (f=iL y/\True)))))))
def Qbc:∀y,Wm y=Qu8 y:=λy=>by kernel_rfl
def lT (t:ah) (b:Nat):bY t b=if t.op=2 then[⟨1,0,0,t.r⟩] else if t.op=7 then[⟨5,0,0,[]⟩] else if t.op=8 then[⟨6,0,0,[]⟩]
  else if t.op=3 then bx t.af b
  else if t.op=4 then kR t.af b (b+aR t.af+2*(t.af.length-1))
  else if t.op=5 then JY (λb=>bx t.af b) (aR t.af) t.mn t.mx t.lz b
  else if t.op=6 then⟨4,2*t.cap,0,[]⟩::(bx t.af (b+1)++[⟨4,2*t.cap+1,0,[]⟩])
  else[]:=by cases t;rw[bY];rfl
theorem qq (a:∀b,(Y b).length=Z):∀(n b:Nat),(iK Y Z n b).length=n*Z
 | 0,b=>by simp[iK]
 | n+1,b=>by rw[iK,Zab,a,qq a n,ZaV,Zc1]
theorem qt (a:∀b,(Y b).length=Z):∀(n b:Nat),(fN g Y Z n b).length=n*(Z+1)
 | 0,b=>by simp[fN]
 | n+1,b=>by rw[fN,Zae,Zab,a,qt a n,ZaV];omega
theorem BK:∀(n b:Nat),iK Y Z (n+1) b=iK Y Z n b++Y (b+n*Z)
 | 0,b=>by simp[iK]
 | n+1,b=>by
  rw[iK,BK n,iK,ZaD,ZaV];congr 3;omega
theorem BL:∀(n b:Nat),fN g Y Z (n+1) b=fN g Y Z n b++(g (b+n*(Z+1))::Y (b+n*(Z+1)+1))
 | 0,b=>by simp[fN]
 | n+1,b=>by
  rw[fN,BL n,fN,Za1,ZaD,ZaV,show b+1+Z+n*(Z+1)=b+(n*(Z+1)+(Z+1)) by omega]
theorem BM:∀(n b:Nat),ko Z (n+1) b=ko Z n b++[((b+n*(Z+1):Nat):Int)]
 | 0,b=>by simp[ko]
 | n+1,b=>by
  rw[ko,BM n,ko,Za1,ZaV,show b+1+Z+n*(Z+1)=b+(n*(Z+1)+(Z+1)) by omega]
theorem Gz:∀(n b:Nat),(ko Z n b).length=n
 | 0,b=>rfl
 | n+1,b=>by rw[ko,Zae,Gz n]
theorem PH.op (h:PH x) (h1:x.op≠1):x.op=2\/x.op=7\/x.op=8\/x.op=3\/x.op=4\/x.op=5\/x.op=6:=by
 have⟨g,h⟩:=h;grind [bP]
theorem PH.none (h:PH x) (h1:x.op=1):x.af=0:=by
 have⟨g,h⟩:=h;grind [bP]
theorem PH.ax (h:PH x) (h1:x.op=4):2<=x.af:=by
 obtain⟨g,h⟩:=h;grind [bP]
theorem PH.vZ (h:PH x) (h1:x.op=6):x.af=1/\1<=x.cap/\x.cap<=4:=by
 have⟨g,h⟩:=h;grind [bP]
mutual
theorem jr:∀(t:ah) (b:Nat),kZ t->(bY t b).length=bw t
 | .mk op r mn mx lz cap nk ks,b,h=>by
  rw[kZ] at h
  have hl:=λb=>nV ks b h.2.2
  have ha:=λb e=>lU ks b e h.2.2
  rw[bY,bw]
  unfold qo
  by_cases h1:op=1
  ·have h0:(ks.length:Int)=0:=h.1.none h1
   have:ks=[]:=Zap ω
   subst this
   subst h1
   simp[aR]
  ·by_cases h2:op=2
   ·simp[h2]
   ·by_cases h7:op=7
    ·simp[h7]
    ·by_cases h8:op=8
     ·simp[h8]
     ·by_cases h3:op=3
      ·simp[h3,hl]
      ·by_cases h4:op=4
       ·simp[h4,ha]
       ·by_cases h5:op=5
        ·simp only[h5]
         simp only[show ¬((5:Int)=2) by decide,show ¬((5:Int)=7) by decide,show ¬((5:Int)=8) by decide,show ¬((5:Int)=3) by decide,show ¬((5:Int)=4) by decide,show ¬((5:Int)=6) by decide,Za0,Zbv,or_self]
         unfold JY
         rw[Zab,qq hl]
         split
         ·simp[hl];omega
         ·rw[qt hl];rfl
        ·have h6:op=6:=by
          have:=h.1.op h1
          simp only at this
          omega
         simp[h6,hl]
theorem nV:∀(l:List ah) (b:Nat),nU l->(bx l b).length=aR l
 | [],b,_=>by simp[bx,aR]
 | t::l,b,h=>by
  rw[nU] at h
  rw[bx,aR,Zab,jr t b h.1,nV l _ h.2]
theorem lU:∀(l:List ah) (b e:Nat),nU l->(kR l b e).length=aR l+2*(l.length-1)
 | [],b,e,_=>by simp[kR,aR]
 | t::l,b,e,h=>by
  rw[nU] at h
  have h1:=λb=>jr t b h.1
  have h2:=λb=>lU l b e h.2
  rw[kR,aR]
  cases l with
  | nil=>simp[h1,aR]
  | cons u l=>
   simp only[List.isEmpty_cons,ZaE,Za0,Zae,Zab,h1,h2]
   omega
end
variable {b:Nat} {l:List ah} {p q:List a8}
theorem nU.mem (h:nU l) (a:b<l.length):kZ (l.getD b bI):=by grind [rj]
theorem nU.take (h:nU l) (n:Nat):nU (l.take n):=by grind [rj]
theorem Qbd (h:nU l) (b e:Nat):(gf l b e).length=aR l+2*l.length:=by
 induction l generalizing b with
 | nil=>simp[gf,aR]
 | cons t l a=>
  grind [nU,gf,jr,aR]
theorem J0 (l:List ah) (t:ah) (b:Nat):bx (l++[t]) b=bx l b++bY t (b+aR l):=by
 induction l generalizing b with
 | nil=>simp[bx,aR]
 | cons a l c=>rw[Za1,bx,c,bx,aR,ZaD,Za4]
theorem PM (l:List ah) (t:ah) (b e:Nat):gf (l++[t]) b e=gf l b e++(⟨2,(b+(aR l+2*l.length)+1:Nat),(b+(aR l+2*l.length)+2+bw t:Nat),[]⟩::(bY t (b+(aR l+2*l.length)+1)++[⟨3,e,0,[]⟩])):=by
 induction l generalizing b with
 | nil=>simp[gf,aR]
 | cons a l c=>
  rw[Za1,gf,c,gf,aR,Zae,Za1,ZaD,Za1,show b+2+bw a+(aR l+2*l.length)=b+(bw a+aR l+2*(l.length+1)) by omega]
theorem PN (l:List ah) (t:ah) (b:Nat):ku (l++[t]) b=ku l b++[((b+(aR l+2*l.length)+1+bw t:Nat):Int)]:=by
 induction l generalizing b with
 | nil=>simp[ku,aR]
 | cons a l c=>
  rw[Za1,ku,c,ku,aR,Zae,Za1,show b+2+bw a+(aR l+2*l.length)=b+(bw a+aR l+2*(l.length+1)) by omega]
theorem GA (l:List ah) (b:Nat):(ku l b).length=l.length:=by
 induction l generalizing b with
 | nil=>rfl
 | cons a l c=>rw[ku,Zae,c,Zae]
theorem rp (l:List ah) (t:ah) (b e:Nat):kR (l++[t]) b e=gf l b e++bY t (b+(aR l+2*l.length)):=by
 induction l generalizing b with
 | nil=>simp[kR,gf,aR]
 | cons a l c=>
  grind [kR,gf,aR,List.length_cons]
theorem Wn {x:a8} {e:Int} (a:p.length=b):lQ e (p++x::q) (b:Int)=p++⟨x.op,e,x.y,x.bz⟩::q:=by
 grind [lQ]
theorem tL {x:a8} {e:Int} {lz:Bool} (a:p.length=b):fT e lz (p++x::q) (b:Int)=p++⟨x.op,if lz=true then e else(b:Int)+1,if lz=true then(b:Int)+1 else e,x.bz⟩::q:=by
 grind [fT]
theorem js (e:Int) (l:List a8) (j:Int):(lQ e l j).length=l.length:=by grind [lQ]
theorem eH (e:Int) (lz:Bool) (l:List a8) (j:Int):(fT e lz l j).length=l.length:=by grind [fT]
theorem BN (e:Int):∀(a:List Int) (l:List a8),(a.foldl (lQ e) l).length=l.length
 | [],l=>rfl
 | j::a,l=>by rw[Zb2,BN e a,js]
theorem BO (e:Int) (lz:Bool):∀(a:List Int) (l:List a8),(a.foldl (fT e lz) l).length=l.length
 | [],l=>rfl
 | j::a,l=>by rw[Zb2,BO e lz a,eH]
theorem Dp {e:Nat}:∀(l:List ah) (p q:List a8) (b:Nat),nU l->p.length=b->(ku l b).foldl (lQ e) (p++(gf l b 0++q))=p++(gf l b e++q)
 | [],p,q,b,_,_=>by rfl
 | t::l,p,q,b,h,hb=>by
  have h1:=jr t (b+1) h.1;rw[ku,gf,gf,Zb2];have a:p++((⟨2,(b+1:Nat),(b+2+bw t:Nat),[]⟩::(bY t (b+1)++⟨3,(0:Nat),0,[]⟩::gf l (b+2+bw t) 0))++q)=(p++(⟨2,(b+1:Nat),(b+2+bw t:Nat),[]⟩::bY t (b+1)))++(⟨3,(0:Nat),0,[]⟩::(gf l (b+2+bw t) 0++q)):=by simp
  rw[a,Wn (by grind)];have e2:∀x:a8,(p++(⟨2,(b+1:Nat),(b+2+bw t:Nat),[]⟩::bY t (b+1)))++(x::(gf l (b+2+bw t) 0++q))=((p++(⟨2,(b+1:Nat),(b+2+bw t:Nat),[]⟩::bY t (b+1)))++[x])++(gf l (b+2+bw t) 0++q):=λx=>by simp
  rw[e2,Dp l _ q (b+2+bw t) h.2 (by simp;omega)];simp
theorem Dq {lz:Bool} {f:Nat->List a8} {sz:Nat} (c:∀e,(f e).length=sz):∀(n:Nat) (p:List a8) (e:Nat),p.length=e->(ko sz n e).foldl (fT b lz) (p++fN (λ_=>⟨2,0,0,[]⟩) f sz n e)=p++fN (λi=>iD lz i b) f sz n e
 | 0,p,e,_=>by rfl
 | n+1,p,e,a=>by
  rw[ko,fN,fN,Zb2,tL a];have e2:∀x:a8,p++x::(f (e+1)++fN (λ_=>⟨2,0,0,[]⟩) f sz n (e+1+sz))=(p++x::f (e+1))++fN (λ_=>⟨2,0,0,[]⟩) f sz n (e+1+sz):=λx=>by simp
  rw[e2,Dq c n _ (e+1+sz) (by grind)];grind [iD]
theorem Qu9 (y:eV×a8) (a:we.pre y):Wh y:=by
 have h:y.1.ag.length<=1000:=a;grind [Wh]
def MX:Ok we:=okZ [] f56 Qu1 trivial Qu9
theorem Dr {α:Type} {l:List α} {v d:α} (h:b<l.length):gt d (dh l b v) b=v:=by
 grind [dh]
theorem uR {α:Type} (l:List α) (i:Nat) (a b:α):dh (dh l i a) i b=dh l i b:=by grind [dh,List.set_set]
def Qva (y:eV×Int×Int×Bool) (f:Gq.pre y):Wi y:=by
 have⟨m,a,o,lz⟩:=y;obtain⟨h1,b,c⟩:m.ag.length<=1000/\0<=a/\a<m.ag.length:=f;have hi:a.toNat<m.ag.length:=ω;unfold Wi;simp only[bj,gg,gF,aw,eH,Dr hi,uR];have e:ay .i64 a 1=a+1:=bA ω ω;have d:gt (a8.mk 0 0 0 []) m.ag a.toNat=m.ag.getD a.toNat in0:=rfl;refine⟨b,c,b,c,λh=>⟨b,c,b,c,?_⟩,λh=>?_⟩
 ·simp only[e,d,h,fT,Zbv];rfl
 ·simp only[e,d,h,fT,ZaE,Za0];rfl
def QeF:Ok Gq:=okZ [] f127 (λ_=>dk ()) trivial Qva
structure AtK (m:eV) (a:Nat) (t:ah):Prop where
 len:m.bG.length<=480
 nds:∀x∈m.bG,jl x
 wf:kZ t
 fit:m.ag.length+bw t<=400
 nd:∃r,m.bG.drop a=aH t++r
 sz:∃r,m.cS.drop a=kn t++r
 en:∃r,m.aL.drop a=rJ t a++r
variable {a x:Nat} {Z:ah} {m:eV}
theorem lS.out {i:Int} (h:lS (m,i)):∃a:Nat,i=a/\AtK m a (eV.t (m,i)):=by
 have⟨h0,h1,b,t,c,d,⟨r,f⟩,g,j⟩:=h;obtain⟨a,rfl⟩:=Zau h0;have e:eV.t (m,(a:Int))=t:=by grind [eV.t,kQ]
 exact⟨a,rfl,by rw[e];exact⟨h1,b,c,d,⟨r,f⟩,g,j⟩⟩
theorem AtK.t (h:AtK m a Z):eV.t (m,(a:Int))=Z:=by
 have⟨r,b⟩:=h.nd;exact kQ h.wf b
def AtK.nda (h:AtK m a Z):lS (m,(a:Int)):=
 ⟨ω,h.len,h.nds,Z,h.wf,h.fit,by simp only[Zad];exact h.nd,by simp only[Zad];exact h.sz,by simp only[Zad];exact h.en⟩
def AtK.cod (h:AtK m a Z):iL (m,(a:Int))=m.ag++bY Z m.ag.length:=by
 unfold iL;rw[az,h.t]
def gi (t:ah) (a x:Nat):Nat:=a+1+(aC (t.af.take x)).length
theorem BP (l:List ah) (x:Nat) (a:x<l.length):aR l=aR (l.take x)+bw (l.getD x bI)+aR (l.drop (x+1)):=by
 grind [List.drop_eq_getElem_cons,List.take_append_drop,uQ,aR]
theorem yW {α:Type} {l:List α} {b:Nat} {u v w r:List α} (h:l.drop a=(u++(v++w))++r) (c:b=a+u.length):l.drop b=v++(w++r):=by
 subst c;rw[<-ZbZ,h];simp
theorem AtK.Wo (h:AtK m a Z) (b:x<Z.af.length) (c:List a8) (d:c.length+bw (Z.af.getD x bI)<=400):AtK ⟨c,m.bG,m.cS,m.aL⟩ (gi Z a x) (Z.af.getD x bI):=by
 have⟨r,h1⟩:=h.nd;have⟨g,j⟩:=h.sz;have⟨i,k⟩:=h.en;have e:Z.af=Z.af.take x++(Z.af.getD x bI::Z.af.drop (x+1)):=by
  simp_all
 have hk:=wW h1 b;refine⟨h.len,h.nds,((jq _).mp h.wf).2.2.mem b,d,⟨_,hk⟩,⟨gA (Z.af.drop (x+1))++g,?_⟩,lM (Z.af.drop (x+1)) (gi Z a x+(aH (Z.af.getD x bI)).length)++i,?_⟩
 ·have f:kn Z=(fq (bw Z)::gA (Z.af.take x))++(kn (Z.af.getD x bI)++gA (Z.af.drop (x+1))):=by
   grind [ss,tJ,gA]
  grind [yW,gi,lN]
 ·have f:rJ Z a=(((a+(aH Z).length:Nat):Int)::lM (Z.af.take x) (a+1))++(rJ (Z.af.getD x bI) (gi Z a x)++lM (Z.af.drop (x+1)) (gi Z a x+(aH (Z.af.getD x bI)).length)):=by
   rw[JW]
   conv=>lhs;rw[e]
   rw[yV,lM];rfl
  grind [yW,gi,qp]
theorem BQ (b:x<Z.af.length):gi Z a (x+1)=gi Z a x+(aH (Z.af.getD x bI)).length:=by
 grind [gi,cy,cU,aC]
theorem MY {α:Type} {l r:List α} {x d:α} (h:l.drop a=x::r):a<l.length/\l.getD a d=x:=by
 grind [List.drop_of_length_le,List.drop_eq_getElem_cons]
theorem AtK.enx (h:AtK m a Z):a<m.aL.length/\m.aL.getD a 0=((a+(aH Z).length:Nat):Int):=by
 have⟨r,b⟩:=h.en;grind [JW,MY]
theorem AtK.ndx (h:AtK m a Z):a<m.bG.length/\gt (Nd.mk 0 [] 0 0 false 0 0) m.bG a=⟨Z.op,Z.r,Z.mn,Z.mx,Z.lz,Z.cap,Z.af.length⟩:=by
 have⟨r,b⟩:=h.nd;grind [rk]
theorem AtK.num (h:AtK m a Z):a<=480/\Z.af.length<=480:=by
 have⟨r,h1⟩:=h.nd;have b:=rk h1;have c:=h.len;have key:∀l:List ah,l.length<=(aC l).length:=λl=>by
  induction l with
  | nil=>simp
  | cons x l d=>simp only[aC,Zab,Zae];rw[b6];simp;omega
 grind [b6]
def MZ (h:AtK m a Z) (k:Nat):wg (m,(a:Int)) k=(gi Z a k:Nat):=by
 unfold wg gi;rw[az,h.t];omega
theorem la (t:ah) (a:Nat):gi t a 0=a+1:=by rfl
def Wp (h:a<Z.af.length):2*dI (Z.af.getD a bI)+1<2*dI Z:=by have:=jo h;omega
def AtK.go (h:AtK m a Z) (b:x<Z.af.length) (c:List a8) (e:c.length+bw (Z.af.getD x bI)<=400):
  lS (⟨c,m.bG,m.cS,m.aL⟩,(gi Z a x:Nat))/\eV.t (⟨c,m.bG,m.cS,m.aL⟩,(gi Z a x:Nat))=Z.af.getD x bI/\iL (⟨c,m.bG,m.cS,m.aL⟩,(gi Z a x:Nat))=c++bY (Z.af.getD x bI) c.length/\(bY (Z.af.getD x bI) c.length).length=bw (Z.af.getD x bI)/\(gi Z a x:Nat)<m.aL.length/\m.aL.getD (gi Z a x) 0=(gi Z a (x+1):Nat):=by
 have hk:=h.Wo b c e;have⟨d,e2⟩:=hk.enx;exact⟨hk.nda,hk.t,hk.cod,jr _ _ hk.wf,d,by rw[e2,BQ b]⟩
theorem Qvd (y:wc) (l:JZ.pre y):Wj y:=by
 have⟨m,i⟩:=y;obtain⟨a,rfl,h⟩:=lS.out l;have d:lS (m,(a:Int)):=l;have C:lk (cw (List.drop a m.bG)).1=eV.t (m,(a:Int)):=rfl;have z:=h.cod;have A:∀k,Gs (m,(a:Int)) k=m.ag++bx ((eV.t (m,(a:Int))).af.take k) m.ag.length:=λk=>by grind [Gs,az]
 have B:∀k,wg (m,(a:Int)) k=(gi (eV.t (m,(a:Int))) a k:Nat):=MZ h;unfold Wj Qhm Qhn;simp only[Zad,C,A,B,z];generalize eV.t (m,(a:Int))=t at*
 have⟨g1,g2⟩:=h.ndx;have⟨b1,I⟩:=h.num;rw[g2];have wf:=(jq _).mp h.wf;have j:=h.fit;have f:=lT t m.ag.length;have dF:=size_eq t;unfold qo at dF;have J:t.r.length<=1000000:=by
  have⟨r,h1⟩:=h.nd;have:(⟨t.op,t.r,t.mn,t.mx,t.lz,t.cap,t.af.length⟩:Nd)∈m.bG:=Zc5 (i:=a) (by grind [b6]);exact h.nds _ this
 simp only[bN,bj,aw,dL,bq,Zad];refine⟨ω,ω,λE=>⟨ω,ω,?_⟩,λE=>⟨λG=>⟨ω,?_⟩,λG=>⟨λH=>⟨ω,?_⟩,λH=>⟨λF=>⟨⟨0,by grind [la],rfl,by simp[bx],by simp[bx],Zaj _⟩,λx K=>⟨λe=>?_,λe=>?_⟩⟩,λF=>⟨λn=>⟨⟨d,n⟩,ω⟩,λn=>⟨λo=>⟨⟨d,o⟩,ω⟩,λo=>⟨λp=>?_,λp=>?_⟩⟩⟩⟩⟩⟩⟩
 ·grind
 ·grind
 ·grind
 ·have c:x<t.af.length:=ω;have g:=BP t.af x c;have hl:=nV (t.af.take x) m.ag.length (wf.2.2.take x);have⟨c1,c2,c3,c4,c5,c6⟩:=h.go c (m.ag++bx (t.af.take x) m.ag.length) (by grind);have b:lk (cw (List.drop (gi t a x) m.bG)).1=t.af.getD x bI:=c2;have ht:=cy bI c;rw[b,c3];have hs:m.ag++bx (t.af.take x) m.ag.length++bY (t.af.getD x bI) (m.ag++bx (t.af.take x) m.ag.length).length=m.ag++bx (t.af.take (x+1)) m.ag.length:=by
   grind [J0]
  exact⟨⟨c1,by have:=Wp c;omega⟩,ω,ω,x+1,c6,bR ω,by rw[hs],hs,ω,ω⟩
 ·grind
 ·have⟨q,s,u⟩:=wf.1.vZ p;have q:(t.af.length:Int)=1:=q;have s:1<=t.cap:=s;have u:t.cap<=4:=u;have c:0<t.af.length:=ω;have D:t.af=[t.af.getD 0 bI]:=by
   match hk:t.af,(show t.af.length=1 by omega) with
   | [k],_=>rfl
  have sH:aR t.af=bw (t.af.getD 0 bI):=by grind [aR]
  have e8:jx .i64 2 t.cap=2*t.cap:=CX ω ω;have w:ay .i64 (2*t.cap) 1=2*t.cap+1:=bA ω ω;have v:ay .i64 (a:Int) 1=(gi t a 0:Nat):=by grind [la]
  simp only[e8,w,v,Zad];have⟨c1,c2,c3,c4,c5,c6⟩:=h.go c (m.ag++[a8.mk 4 (2*t.cap) 0 []]) (by grind);have b:lk (cw (List.drop (gi t a 0) m.bG)).1=t.af.getD 0 bI:=c2;rw[b,c3];have hs:m.ag++[a8.mk 4 (2*t.cap) 0 []]++bY (t.af.getD 0 bI) (m.ag++[a8.mk 4 (2*t.cap) 0 []]).length++[a8.mk 4 (2*t.cap+1) 0 []]=m.ag++bY t m.ag.length:=by
   grind [bx]
  refine⟨ω,⟨c1,by have:=Wp c;omega⟩,?_,by rw[hs],hs⟩;grind
 ·grind
theorem Qve (y:wc) (hy:PJ.pre y):Wl y:=by
 have⟨m,i⟩:=y;obtain⟨B,F⟩:lS (m,i)/\(eV.t (m,i)).op=4:=hy;obtain⟨a,rfl,h⟩:=lS.out B;have T:lk (cw (List.drop a m.bG)).1=eV.t (m,(a:Int)):=rfl;have O:=h.cod;have Q:∀k,Gu (m,(a:Int)) k=m.ag++gf ((eV.t (m,(a:Int))).af.take k) m.ag.length 0:=λk=>by grind [Gu,az]
 have P:∀k,Gv (m,(a:Int)) k=ku ((eV.t (m,(a:Int))).af.take k) m.ag.length:=λk=>by grind [Gv,az]
 have S:Dl (m,(a:Int))=m.ag++kR (eV.t (m,(a:Int))).af m.ag.length 0:=by unfold Dl;rw[az]
 have N:Dm (m,(a:Int))=ku (eV.t (m,(a:Int))).af.dropLast m.ag.length:=by unfold Dm;rw[az]
 have U:∀j,Gx (m,(a:Int)) j=((Dm (m,(a:Int))).take j).foldl (lQ (iL (m,(a:Int))).length) (Dl (m,(a:Int))):=λj=>by unfold Gx;rw[az]
 have R:∀k,wg (m,(a:Int)) k=(gi (eV.t (m,(a:Int))) a k:Nat):=MZ h;unfold Wl;simp only[Zad,T,Q,P,U,R,O,S,N];generalize eV.t (m,(a:Int))=t at*
 have⟨g1,g2⟩:=h.ndx;have⟨b1,b2⟩:=h.num;rw[g2];have wf:=(jq _).mp h.wf;have J:=h.fit;have o:=lT t m.ag.length;rw[Zaa ω,Zaa ω,Zaa ω,Zaa ω,Zac F] at o;have dF:=size_eq t;unfold qo at dF;rw[Zaa ω,Zac F] at dF;have X:2<=t.af.length:=by have h:=wf.1.ax F;simp only at h;omega
 have g:t.af=t.af.dropLast++[t.af.getD (t.af.length-1) bI]:=by
  conv=>lhs;rw[<-ZaM (l:=t.af),show t.af.length=(t.af.length-1)+1 by omega]
  grind [cy]
 have r:t.af.take (t.af.length-1)=t.af.dropLast:=by grind
 have D:nU t.af.dropLast:=by rw[<-r];exact wf.2.2.take _
 simp only[bN,bj,aw,dL,bq,Zad,a_,ZaX,ZaY,ZaZ];have A:ay .i64 (a:Int) 1=(gi t a 0:Nat):=by rw[bA ω ω,la];rfl
 have K:dE .i64 (t.af.length:Int) 1=((t.af.length-1:Nat):Int):=Br ω ω;refine⟨⟨ω,ω,⟨0,by rfl,A,rfl,by simp[gf],by simp[gf],ω⟩,λx hx=>⟨λe=>?_,λe=>ω⟩⟩,⟨0,rfl,by simp,rfl,Zaj _⟩,λj hj=>⟨λe=>?_,λe=>?_⟩⟩
 ·have d:x<t.af.length:=ω;have H:=BP t.af x d;have hl:=Qbd (wf.2.2.take x) m.ag.length 0;have s:(t.af.take x).length=x:=by grind
  have c:(m.ag++gf (t.af.take x) m.ag.length 0).length=m.ag.length+(aR (t.af.take x)+2*x):=by grind
  refine⟨ω,ω,λel=>?_,λel=>?_⟩
  ·have E:x=t.af.length-1:=ω;have⟨c1,c2,c3,c4,c5,c6⟩:=h.go d (m.ag++gf (t.af.take x) m.ag.length 0) ω;have f:lk (cw (List.drop (gi t a x) m.bG)).1=t.af.getD x bI:=c2;rw[f,c3];have hs:m.ag++gf (t.af.take x) m.ag.length 0++bY (t.af.getD x bI) (m.ag++gf (t.af.take x) m.ag.length 0).length=m.ag++kR t.af m.ag.length 0:=by
    conv=>rhs;rw[g,rp]
    rw[c,E,r,ZaD,show t.af.dropLast.length=t.af.length-1 by simp]
   exact⟨⟨c1,by have:=Wp d;omega⟩,by grind,by rw[hs],hs⟩
  ·have⟨c1,c2,c3,c4,c5,c6⟩:=h.go d (m.ag++gf (t.af.take x) m.ag.length 0++[a8.mk 2 0 0 []]) (by grind);have f:lk (cw (List.drop (gi t a x) m.bG)).1=t.af.getD x bI:=c2;rw[f,c3];have hs:fT (((m.ag++gf (t.af.take x) m.ag.length 0++[a8.mk 2 0 0 []]++bY (t.af.getD x bI) (m.ag++gf (t.af.take x) m.ag.length 0++[a8.mk 2 0 0 []]).length++[a8.mk 3 0 0 []]).length:Nat):Int) false (m.ag++gf (t.af.take x) m.ag.length 0++[a8.mk 2 0 0 []]++bY (t.af.getD x bI) (m.ag++gf (t.af.take x) m.ag.length 0++[a8.mk 2 0 0 []]).length++[a8.mk 3 0 0 []]) ((m.ag++gf (t.af.take x) m.ag.length 0).length:Nat)=m.ag++gf (t.af.take (x+1)) m.ag.length 0:=by
    rw[cy bI d,PM,s];have M:∀(p:List a8) (u v:a8) (q:List a8),p++[u]++q++[v]=p++u::(q++[v]):=λp u v q=>by simp
    rw[M,tL rfl,ZaD,c];have z:(m.ag++gf (t.af.take x) m.ag.length 0++[(a8.mk 2 0 0 []:a8)]).length=m.ag.length+(aR (t.af.take x)+2*x)+1:=by grind
    rw[z];have n2:(m.ag++(gf (t.af.take x) m.ag.length 0++(a8.mk 2 0 0 []:a8)::(bY (t.af.getD x bI) (m.ag.length+(aR (t.af.take x)+2*x)+1)++[a8.mk 3 0 0 []]))).length=m.ag.length+(aR (t.af.take x)+2*x)+2+bw (t.af.getD x bI):=by
     grind
    simp only[ZaD,n2];rfl
   have n3:(m.ag++gf (t.af.take x) m.ag.length 0++[a8.mk 2 0 0 []]++bY (t.af.getD x bI) (m.ag++gf (t.af.take x) m.ag.length 0++[a8.mk 2 0 0 []]).length).length=m.ag.length+(aR (t.af.take x)+2*x)+1+bw (t.af.getD x bI):=by
    grind
   refine⟨ω,⟨c1,Wp d⟩,ω,?_,⟨?_,ω,?_⟩,ω,ω,x+1,?_,c6,bR ω,by rw[hs],hs,ω,ω⟩
   ·grind [GA]
   ·grind
   ·grind
   ·rw[cy bI d,PN,s,n3]
 ·have d:j<(ku t.af.dropLast m.ag.length).length:=ω;have L:(List.foldl (lQ ((m.ag++bY t m.ag.length).length:Nat)) (m.ag++kR t.af m.ag.length 0) ((ku t.af.dropLast m.ag.length).take j)).length=(m.ag++bY t m.ag.length).length:=by
   grind [BN,lU]
  have Y:∀(l:List ah) (b:Nat) (v:Int),v∈ku l b->0<=v/\v<(b+aR l+2*l.length:Nat):=λl=>by
   induction l with
   | nil=>intro b v w;cases w
   | cons u l ih=>
    intro b v w;rw[aR,Zae];rcases List.mem_cons.mp w with w | w
    ·omega
    ·grind
  have V:(ku t.af.dropLast m.ag.length).getD j 0∈ku t.af.dropLast m.ag.length:=by grind
  have⟨v1,v2⟩:=Y _ _ _ V;have Z:aR t.af.dropLast<=aR t.af:=by
   grind [uQ]
  have z:(m.ag++bY t m.ag.length).length=m.ag.length+(aR t.af+2*(t.af.length-1)):=by grind [lU]
  have I:t.af.dropLast.length=t.af.length-1:=by simp
  have C:∀(n:List Int) (l:List a8) (e:Int),n.take (j+1)=n.take j++[n.getD j 0]->List.foldl (lQ e) l (n.take (j+1))=lQ e (List.foldl (lQ e) l (n.take j)) (n.getD j 0):=λn l e h=>by grind
  have G:=C _ (m.ag++kR t.af m.ag.length 0) ((m.ag++bY t m.ag.length).length:Nat) (cy 0 d);have W:=GA t.af.dropLast m.ag.length;rw[L];refine⟨ω,e,v1,ω,j+1,bR ω,?_,?_,ω,ω⟩
  ·rw[G,js,L]
  ·rw[G];rfl
 ·have d:j=(ku t.af.dropLast m.ag.length).length:=ω;have hs:List.foldl (lQ ((m.ag++bY t m.ag.length).length:Nat)) (m.ag++kR t.af m.ag.length 0) (ku t.af.dropLast m.ag.length)=m.ag++bY t m.ag.length:=by
   have z:(m.ag++bY t m.ag.length).length=m.ag.length+aR t.af+2*(t.af.length-1):=by grind [lU]
   rw[z];have:=Dp (e:=m.ag.length+aR t.af+2*(t.af.length-1)) t.af.dropLast m.ag (bY (t.af.getD (t.af.length-1) bI) (m.ag.length+(aR t.af.dropLast+2*t.af.dropLast.length))) m.ag.length D rfl;grind [rp]
  grind
theorem AtK.Qvf (h:AtK m a Z) (g:x<Z.af.length):gi Z a x<m.cS.length/\m.cS.getD (gi Z a x) 0=fq (bw (Z.af.getD x bI)):=by
 have⟨i,c⟩:=h.sz;have f:Z.af=Z.af.take x++(Z.af.getD x bI::Z.af.drop (x+1)):=by
  simp_all
 have d:kn Z=(fq (bw Z)::gA (Z.af.take x))++(kn (Z.af.getD x bI)++gA (Z.af.drop (x+1))):=by
  grind [ss,tJ,gA]
 rw[d] at c;have e:=yW (b:=gi Z a x) c (by grind [gi,lN]);grind [ss,MY]
theorem Qvg (y:wc) (hy:PK.pre y):Wm y:=by
 have⟨m,i⟩:=y;obtain⟨K,R⟩:lS (m,i)/\(eV.t (m,i)).op=5:=hy;obtain⟨a,rfl,h⟩:=lS.out K;have eT:lk (cw (List.drop a m.bG)).1=eV.t (m,(a:Int)):=rfl;have Z:=h.cod;have eK:∀k,tK (m,(a:Int)) k=m.ag++iK (bx (eV.t (m,(a:Int))).af) (aR (eV.t (m,(a:Int))).af) k m.ag.length:=λk=>by grind [tK,az]
 have Y:PL (m,(a:Int))=(tK (m,(a:Int)) (eV.t (m,(a:Int))).mn.toNat).length:=by grind [PL,az]
 have eS:∀k,Al (m,(a:Int)) k=tK (m,(a:Int)) (eV.t (m,(a:Int))).mn.toNat++fN (λ_=>a8.mk 2 0 0 []) (bx (eV.t (m,(a:Int))).af) (aR (eV.t (m,(a:Int))).af) k (PL (m,(a:Int))):=λk=>by unfold Al;rw[az]
 have eJ:∀k,wj (m,(a:Int)) k=ko (aR (eV.t (m,(a:Int))).af) k (PL (m,(a:Int))):=λk=>by unfold wj;rw[az]
 have eM:ma (m,(a:Int))=lP (eV.t (m,(a:Int))).mn (eV.t (m,(a:Int))).mx:=by unfold ma;rw[az]
 have eX:∀j,Gy (m,(a:Int)) j=((wj (m,(a:Int)) (ma (m,(a:Int)))).take j).foldl (fT (iL (m,(a:Int))).length (eV.t (m,(a:Int))).lz) (Al (m,(a:Int)) (ma (m,(a:Int)))):=λj=>by unfold Gy;rw[az]
 unfold Wm;simp only[Zad,eT,eX,Z,eJ,eS,Y,eM,eK];generalize eV.t (m,(a:Int))=t at*
 have⟨g1,g2⟩:=h.ndx;have⟨b1,b2⟩:=h.num;rw[g2];have wf:=(jq _).mp h.wf;have T:=h.fit;have d:=lT t m.ag.length;rw[Zaa ω,Zaa ω,Zaa ω,Zaa ω,Zaa ω,Zac R] at d;unfold JY at d;have dF:=size_eq t;unfold qo at dF;rw[Zaa ω,Zaa ω,Zaa ω,Zac R] at dF;have⟨V,W,X,w4⟩:=wf.1.rep R;have V:(t.af.length:Int)=1:=V;have W:0<=t.mn:=W;have X:t.mn<=30:=X;have w4:t.mx= -1\/(t.mn<=t.mx/\t.mx<=30):=w4;have B:0<t.af.length:=ω;have hks:t.af=[t.af.getD 0 bI]:=by
  match hk:t.af,(show t.af.length=1 by omega) with
  | [k],_=>rfl
 have sH:aR t.af=bw (t.af.getD 0 bI):=by grind [aR]
 have hcl:∀b,bx t.af b=bY (t.af.getD 0 bI) b:=λb=>by grind [bx]
 have f:∀b,(bx t.af b).length=aR t.af:=λb=>nV _ b wf.2.2
 have hrl:=λn=>qq f n m.ag.length
 have I:ay .i64 (a:Int) 1=(gi t a 0:Nat):=by grind [la]
 have⟨s1,U⟩:=h.Qvf B;rw[<-sH] at U;have L:(t.af.length:Int)=t.nk:=wf.2.1.symm;have hk1:=la t a;have s:=Wp B;have hN:t.mn=(t.mn.toNat:Int):=ω
 
 have go:∀c:List a8,c.length+aR t.af<=400->lS (⟨c,m.bG,m.cS,m.aL⟩,(gi t a 0:Nat))/\iL (⟨c,m.bG,m.cS,m.aL⟩,(gi t a 0:Nat))=c++bx t.af c.length:=λc r=>by
  rw[sH] at r;have⟨c1,c2,c3,c4,c5,c6⟩:=h.go B c r;grind
 have c2:∀c:List a8,c.length+aR t.af<=400->lk (cw (List.drop (gi t a 0) m.bG)).1=t.af.getD 0 bI:=λc r=>by
  rw[sH] at r;exact(h.go B c r).2.1
 simp only[bN,bj,I,aw,dL,bq,Zad,a_,ZaX,ZaY,ZaZ,L,U];generalize aR t.af=sz at*
 generalize hNn:t.mn.toNat=N at*
 refine⟨ω,ω,⟨ω,ω,λe=>⟨⟨0,rfl,by simp[iK],by simp[iK],Zaj _⟩,λx hx=>⟨λE=>?_,λE=>?_⟩⟩,λe=>?_⟩,λem=>?_,λem=>?_⟩
 ·have o:x+1<=N:=ω;have hle:x*sz+sz<=N*sz:=by rw[<-ZaV];exact Zbc _ o
  have H:m.ag.length+N*sz<=400:=by grind
  have C:(m.ag++iK (bx t.af) sz x m.ag.length).length=m.ag.length+x*sz:=by grind
  have⟨z,A⟩:=go (m.ag++iK (bx t.af) sz x m.ag.length) ω;have hs:m.ag++iK (bx t.af) sz x m.ag.length++bx t.af (m.ag++iK (bx t.af) sz x m.ag.length).length=m.ag++iK (bx t.af) sz (x+1) m.ag.length:=by
   grind [BK]
  grind [bR]
 ·grind
 ·have hz:sz=0:=by unfold fq at e;omega
  grind
 ·rw[Zac em] at dF d;have C:(m.ag++iK (bx t.af) sz N m.ag.length).length=m.ag.length+N*sz:=by grind
  have F:m.ag++bY t m.ag.length=(m.ag++iK (bx t.af) sz N m.ag.length)++iD t.lz (m.ag.length+N*sz) (m.ag.length+N*sz+sz+2)::(bx t.af (m.ag.length+N*sz+1)++[⟨3,(m.ag.length+N*sz:Nat),0,[]⟩]):=by
   grind
  rw[F,<-C];generalize m.ag++iK (bx t.af) sz N m.ag.length=c0 at*
  have⟨z,A⟩:=go (c0++[a8.mk 2 0 0 []]) (by grind);have D:=c2 (c0++[a8.mk 2 0 0 []]) (by grind);have P:(c0++[a8.mk 2 0 0 []]).length=c0.length+1:=by simp
  rw[D,A,P];have Q:(c0++[a8.mk 2 0 0 []]++bx t.af (c0.length+1)++[a8.mk 3 c0.length 0 []]).length=c0.length+sz+2:=by grind
  have hs:fT ((c0++[a8.mk 2 0 0 []]++bx t.af (c0.length+1)++[a8.mk 3 c0.length 0 []]).length:Nat) t.lz (c0++[a8.mk 2 0 0 []]++bx t.af (c0.length+1)++[a8.mk 3 c0.length 0 []]) (c0.length:Nat)=c0++iD t.lz c0.length (c0.length+sz+2)::(bx t.af (c0.length+1)++[a8.mk 3 c0.length 0 []]):=by
   rw[Q];have E:∀(p:List a8) (u v:a8) (q:List a8),p++[u]++q++[v]=p++u::(q++[v]):=λp u v q=>by simp
   rw[E,tL rfl];unfold iD;cases t.lz<;>simp
  have n4:(c0++[a8.mk 2 0 0 []]++bx t.af (c0.length+1)).length=c0.length+sz+1:=by grind
  exact⟨ω,⟨z,s⟩,ω,⟨ω,ω,ω⟩,by rw[hs],hs⟩
 ·rw[Zaa em] at dF d;have C:(m.ag++iK (bx t.af) sz N m.ag.length).length=m.ag.length+N*sz:=by grind
  have F:m.ag++bY t m.ag.length=(m.ag++iK (bx t.af) sz N m.ag.length)++fN (λi=>iD t.lz i (m.ag.length+N*sz+lP t.mn t.mx*(sz+1))) (bx t.af) sz (lP t.mn t.mx) (m.ag.length+N*sz):=by
   grind
  have hM:dE .i64 t.mx t.mn=((lP t.mn t.mx:Nat):Int):=by
   grind [lP]
  have G:t.mx.toNat-N=lP t.mn t.mx:=by unfold lP;omega
  have hMb:lP t.mn t.mx<=30:=ω;rw[G] at dF;rw[F,hM,<-C];generalize lP t.mn t.mx=M at*
  generalize m.ag++iK (bx t.af) sz N m.ag.length=c0 at*
  have O:∀(g:Nat->a8) (k:Nat),(fN g (bx t.af) sz k c0.length).length=k*(sz+1):=λg k=>qt f k _
  have J:∀k,(ko sz k c0.length).length=k:=λk=>Gz k _
  refine⟨⟨0,by rfl,rfl,by simp[fN],by simp[fN],Zaj _⟩,λx hx=>⟨λe=>?_,λe=>⟨⟨0,?_,rfl,?_,?_,Zaj _⟩,λj hj=>⟨λe2=>?_,λe2=>?_⟩⟩⟩⟩
  ·have o:x+1<=M:=ω;have hle:x*(sz+1)+(sz+1)<=M*(sz+1):=by rw[<-ZaV];exact Zbc _ o
   have P:(c0++fN (λ_=>a8.mk 2 0 0 []) (bx t.af) sz x c0.length).length=c0.length+x*(sz+1):=by grind
   have Q:(c0++fN (λ_=>a8.mk 2 0 0 []) (bx t.af) sz x c0.length++[a8.mk 2 0 0 []]).length=c0.length+x*(sz+1)+1:=by grind
   have⟨z,A⟩:=go (c0++fN (λ_=>a8.mk 2 0 0 []) (bx t.af) sz x c0.length++[a8.mk 2 0 0 []]) ω;have D:=c2 (c0++fN (λ_=>a8.mk 2 0 0 []) (bx t.af) sz x c0.length++[a8.mk 2 0 0 []]) ω;have hs:c0++fN (λ_=>a8.mk 2 0 0 []) (bx t.af) sz x c0.length++[a8.mk 2 0 0 []]++bx t.af (c0++fN (λ_=>a8.mk 2 0 0 []) (bx t.af) sz x c0.length++[a8.mk 2 0 0 []]).length=c0++fN (λ_=>a8.mk 2 0 0 []) (bx t.af) sz (x+1) c0.length:=by
    rw[BL,Q];simp
   rw[D,A];refine⟨ω,?_,⟨z,s⟩,x+1,?_,bR ω,by rw[hs],hs,ω,ω⟩
   ·grind
   ·rw[BM,P]
  ·grind
  ·grind
  ·grind
  ·have w:x=M:=ω;subst w;rw[J] at e2;have e3:j<(ko sz x c0.length).length:=by grind
   have n0:(List.foldl (fT ((c0++fN (λi=>iD t.lz i (c0.length+x*(sz+1))) (bx t.af) sz x c0.length).length:Nat) t.lz) (c0++fN (λ_=>a8.mk 2 0 0 []) (bx t.af) sz x c0.length) ((ko sz x c0.length).take j)).length=c0.length+x*(sz+1):=by grind [BO]
   have n5:(c0++fN (λi=>iD t.lz i (c0.length+x*(sz+1))) (bx t.af) sz x c0.length).length=c0.length+x*(sz+1):=by grind
   have hp:∀(k b:Nat) (v:Int),v∈ko sz k b->0<=v/\v<(b+k*(sz+1):Nat):=λk=>by
    induction k with
    | zero=>intro b v hv;cases hv
    | succ k ih=>
     grind [ko]
   have⟨v1,v2⟩:=hp _ _ _ (show(ko sz x c0.length).getD j 0∈ko sz x c0.length by grind);have S:∀(l:List a8) (e:Int),List.foldl (fT e t.lz) l ((ko sz x c0.length).take (j+1))=fT e t.lz (List.foldl (fT e t.lz) l ((ko sz x c0.length).take j)) ((ko sz x c0.length).getD j 0):=λl e=>by grind [cy]
   rw[n0];rw[n5] at*
   refine⟨ω,ω,⟨ω,v1,v2⟩,j+1,bR ω,?_,?_,ω,ω⟩
   ·rw[S,eH]
   ·rw[S]
  ·have w:x=M:=ω;have hs:List.foldl (fT ((c0++fN (λi=>iD t.lz i (c0.length+j*(sz+1))) (bx t.af) sz j c0.length).length:Nat) t.lz) (c0++fN (λ_=>a8.mk 2 0 0 []) (bx t.af) sz j c0.length) ((ko sz j c0.length).take j)=c0++fN (λi=>iD t.lz i (c0.length+j*(sz+1))) (bx t.af) sz j c0.length:=by
    rw[ZaA (by grind),Zab,O];exact Dq f j c0 c0.length rfl
   grind
def oQ (l:List Nd):ah:=lk (cw l).1
def rK (t:ah) (r b:Nat):List a8:=⟨4,0,0,[]⟩::(bY t (b+1)++[⟨4,1,0,[]⟩,⟨7,r,0,[]⟩])
def lV:List (List Nd)->Nat->List a8->List Int->(List a8×List Int)×Int×Int
 | [],_,c,s=>((c,s),0,0)
 | l::ls,r,c,s=>if dG l=false then(([],[]),1,r) else if 400<c.length+bw (oQ l)+3 then(([],[]),12,r) else lV ls (r+1) (c++rK (oQ l) r c.length) (s++[(c.length:Int)])
def Dt (y:List (List Nd)):(List a8×List Int)×Int×Int:=if 8<y.length then(([],[]),13,8) else lV y 0 [] []
def bZ (y:List (List Nd)):(List a8×List Int)×Int×Int:=lk (Dt y)
def Qmu (args:List (AV D.E)) (s:St D.E):C (List (List Nd)):=match args with
 | [a]=>aB (aW D s 9 a) λl=>.ret (l:List (List Nd))
 | _=>.fail
def qu (y:List (List Nd)):Prop:=y.length<=1000000/\∀l∈y,∀x∈l,jl x
def J3:bp D:=cq 24 (List (List Nd)) Qmu qu (λy=>[.list 9 y]) λy=>.tuple [.agg [.list 8 (bZ y).1.1,.list 5 (bZ y).1.2],Qyy (bZ y).2.1,Qyy (bZ y).2.2]
structure CmX where
 c:List a8
 s:List Int
 n:List Nd
 z:List Int
 e:List Int
 r:Nat
def Qbe (y:List (List Nd)) (x:CmX):Prop:=x.r<=y.length/\y.length<=8/\x.c.length<=400/\x.s.length=x.r/\lV (y.drop x.r) x.r x.c x.s=bZ y
def Qvh (y:J3.Y):dj D:=⟨[],[],[(250,⟨CmX,[15,16],λx=>[(2,.ptr 0 0),(3,.num .i64 0),(4,.num .i64 0),(5,.ptr 1 0),(6,.grow 5 x.s 3),(17,Qyy x.r)],[],λx=>[(0,.cells [.dc,.dc] 69 false),(1,.cells [.own 2 4 (ab x.c),.list 7 x.n,.list 5 x.z,.list 5 x.e] 140 false),(2,.arr 8 x.c 146 false),(3,.tok 5 3)],4,Qbe y,λx=>y.length-x.r⟩)],[],1,[]⟩
def Wq (y:List (List Nd)):Prop:=let k:=(bZ y).2.2;let q1:=(bZ y).2.1;aj (aD 8 (ab y)) ([]=(bZ y).1.1/\[]=(bZ y).1.2/\13=q1/\8=k/\True) ((∃z:CmX,aa [y] (aa [ab y] ([]=z.s/\0=((z.r:Nat):Int)/\0=ab z.c/\[]=z.n/\[]=z.z/\[]=z.e/\[]=z.c/\(Iv (Qbe y z)))))/\(∀x:CmX,let f:=((x.r:Nat):Int);let d:=gt [] y f.toNat;let g:=ab d;let o:=bn x.s [(x.c.length:Int)];let i:=pq g 0;let b:=od.mk d i 0;let t:=ab (x.c++[a8.mk 4 0 0 []]);let q:=gt 0 (HE b) 0;let l:=aD 400 (ay .i64 (ay .i64 (ab x.c) q) 3);let h:=(eV.mk (x.c++[a8.mk 4 0 0 []]) d (HE b) (JU b),(0:Int));let a:=iL h;let m:=ab (a++[a8.mk 4 1 0 []]);let j:=λp:Prop=>aa [d] (aa ([ab i,0]:List Int) (aa [i] p));(Iv (Qbe y x))->aj (aD f (ab y)) (aM 0 f/\aD f (ab y)/\Iv (cR d)/\aa [d] (aj (!(dG d)) ([]=(bZ y).1.1/\[]=(bZ y).1.2/\1=q1/\f=k/\True) (aM 0 g/\aM g g/\ba g 8/\aM 0 g/\aM g g/\ba g 8/\Iv (PI b)/\j (Iv (PI b)/\j (Tt 1 (aD 0 (ab i)/\aa [ab x.c,ab i,q] (aj l ([]=(bZ y).1.1/\[]=(bZ y).1.2/\12=q1/\f=k/\True) (Iv (x.c.length<=1000)/\aa ([4,0,0]:List Int) (aa ([[]]:List (List (Int×Int))) (aa [ab x.c] (aa [d] (aa [HE b,JU b] (aa [x.c] (ba (ab o) 8/\Iv (lS h)/\aa ([0,t]:List Int) (aa [d] (aa [HE b,JU b] (aa [x.c++[a8.mk 4 0 0 []]] (Iv (a.length<=1000)/\aa ([4,1,0]:List Int) (aa ([[]]:List (List (Int×Int))) (aa [ab a] (aa [d] (aa [HE b,JU b] (aa [a] (Iv ((a++[a8.mk 4 1 0 []]).length<=1000)/\aa ([7,f,0]:List Int) (aa ([[]]:List (List (Int×Int))) (aa [m] (aa [d] (aa [HE b,JU b] (aa [a++[a8.mk 4 1 0 []]] (∃z:CmX,aa [y] (aa [ab y] (o=z.s/\ay .i64 f 1=((z.r:Nat):Int)/\ab ((a++[a8.mk 4 1 0 []])++[a8.mk 7 f 0 []])=ab z.c/\d=z.n/\HE b=z.z/\JU b=z.e/\((a++[a8.mk 4 1 0 []])++[a8.mk 7 f 0 []])=z.c/\(Iv (Qbe y z/\(y.length-z.r)<(y.length-x.r))))))))))))))))))))))))))))))))))) (x.c=(bZ y).1.1/\x.s=(bZ y).1.2/\0=q1/\0=k/\True)))
inductive Fk where
 | n | a | r
noncomputable section
def fkC:Fk->bp D
 | .n=>JZ | .a=>PJ | .r=>PK
def Qvj:∀i,(fkC i).Y->Nat
 | .n=>λy=>2*dI (eV.t y)+1 | .a=>λy=>2*dI (eV.t y) | .r=>λy=>2*dI (eV.t y)
def fkF:Fk->Func
 | .n=>f57 | .a=>f93 | .r=>f94
def Qmw:Fk->vU
 | .n=>[we] | .a=>[we,Gq] | .r=>[we,Gq]
def fkO:∀i,(fkC i).Y->dj D
 | .n=>Qmr | .a=>Qms | .r=>Qmt
def Qvk:∀i,Ok (fkC i):=
 yb [.n,.a,.r] fkC Qvj (fn:=fkF) (tab:=Qmw) (jE:=fkO)
  (λi=>match i with
   | .n=>MX | .a=>⟨MX,QeF⟩ | .r=>⟨MX,QeF⟩)
  (λi=>match i with
   | .n=>by kernel_rfl | .a=>by kernel_rfl | .r=>by kernel_rfl)
  (λi=>match i with
   | .n=>by kernel_rfl | .a=>by kernel_rfl | .r=>by kernel_rfl)
  λi=>match i with
   | .n=>λy b=>Eq.mp (Qba y) (Qvd y b) | .a=>λy b=>Eq.mp (Qbb y) (Qve y b) | .r=>λy b=>Eq.mp (Qbc y) (Qvg y b)
end
theorem Qvl (y:List (List Nd)) (J:J3.pre y):Wq y:=by
 obtain⟨h1,v⟩:y.length<=1000000/\∀l∈y,∀x∈l,jl x:=J;have i:bZ y=Dt y:=by grind [bZ,az]
 unfold Wq;simp only[bN,bj,aw,dL,bq,Zad,a_,Zan,Zao,Zah,ZaQ,ZaF];unfold Dt at i;refine⟨λe=>?_,λe=>?_⟩
 ·grind
 ·rw[Zaa ω] at i;refine⟨⟨⟨[],[],[],[],[],0⟩,rfl,rfl,rfl,rfl,rfl,rfl,rfl,Zaj _,ω,Zaj _,rfl,i.symm⟩,λx I=>?_⟩;obtain⟨c,s,n,z,en,r⟩:=x;obtain⟨i1,i2,i3,i4,i5⟩:=I;simp only at i1 i3 i4 i5 ⊢;refine⟨λe2=>?_,λe2=>?_⟩
  ·have M:r<y.length:=ω;have D:y.drop r=y.getD r []::y.drop (r+1):=by simp_all
   have d:cR (y.getD r []):=v _ (by grind);rw[D,lV] at i5;generalize y.getD r []=l at*
   refine⟨e2,d,λq=>?_,λq=>?_⟩
   ·grind
   ·rw[Zaa (by grind)] at i5;obtain⟨t,h,L,u⟩:=jU q;have ht:oQ l=t:=by
     have:=kQ (a:=0) (r:=[]) h (show l.drop 0=aH t++[] by grind);assumption
    have f:(pq (l.length:Int) (0:Int)).length=l.length:=by simp[pq]
    have g:PI ⟨l,pq (l.length:Int) 0,0⟩:=⟨ZaQ _,f,u,t,[],h,by grind⟩;have K:od.t ⟨l,pq (l.length:Int) 0,0⟩=t:=by assumption
    have H:∀s:List Int,s.length=l.length->k_ (pq (l.length:Int) 0) 0 s=s:=λs hs=>by
     grind [k_]
    have F:(aH t).length=l.length:=by rw[L]
    have dF:HE ⟨l,pq (l.length:Int) 0,0⟩=kn t:=by grind [HE,az,Gn]
    have j:JU ⟨l,pq (l.length:Int) 0,0⟩=rJ t 0:=by grind [JU,az,Gp]
    have p:0<l.length:=by grind [tI]
    have k:(kn t).getD 0 0=fq (bw t):=by rw[ss];rfl
    rw[ht] at i5;rw[dF,j,k,f];have B:=JX (bw t);rw[bA (a:=(c.length:Int)) (b:=fq (bw t)) ω ω,bA ω ω];have o:fq (bw t)=min (bw t:Int) 401:=rfl;refine⟨ω,ω,g,g,ω,λA=>?_,λA=>?_⟩
    ·grind
    ·rw[Zaa ω] at i5;have m:AtK ⟨c++[a8.mk 4 0 0 []],l,kn t,rJ t 0⟩ 0 t:=⟨u,d,h,by grind,⟨[],by grind⟩,⟨[],by simp⟩,⟨[],by simp⟩⟩;have w:iL (⟨c++[a8.mk 4 0 0 []],l,kn t,rJ t 0⟩,(0:Int))=c++[a8.mk 4 0 0 []]++bY t (c++[a8.mk 4 0 0 []]).length:=m.cod;have G:lS (⟨c++[a8.mk 4 0 0 []],l,kn t,rJ t 0⟩,(0:Int)):=m.nda;have C:=jr t (c++[a8.mk 4 0 0 []]).length h;rw[w];have hs:c++[a8.mk 4 0 0 []]++bY t (c++[a8.mk 4 0 0 []]).length++[a8.mk 4 1 0 []]++[a8.mk 7 r 0 []]=c++rK t r c.length:=by
      unfold rK;simp
     have E:(c++rK t r c.length).length=c.length+bw t+3:=by
      grind
     refine⟨ω,by grind,G,?_,?_,⟨c++rK t r c.length,s++[(c.length:Int)],l,kn t,rJ t 0,r+1⟩,rfl,bR ω,by rw[hs],rfl,rfl,rfl,hs,⟨show r+1<=y.length by omega,i2,show(c++rK t r c.length).length<=400 by omega,by simp[i4],i5⟩,show y.length-(r+1)<y.length-r by omega⟩
     ·grind
     ·grind
  ·grind [lV]
def Qmx (a:Ok cW):Ok J3:=okZ [Js,szC,enC,we,JZ] f24 Qvh ⟨Qem a,QuZ,Qu0,MX,Qvk .n⟩ Qvl
def nmB (c:UInt8):Bool:=(97<=c.toNat&&c.toNat<=122)||(65<=c.toNat&&c.toNat<=90)||(48<=c.toNat&&c.toNat<=57)||c.toNat==45||c.toNat==95||c.toNat==46
def jA (s:By):Bool:=decide (s≠[])&&decide (s.length<=32)&&s.all nmB
def J6:bp D:=cq 48 By (λa _=>ϕ a) (λ_=>True) (λy=>[.str y]) λy=>.bool (jA y)
def wk (y:By) (i:Nat):Prop:=i<=y.length/\∀j,j<i->nmB (y.getD j 0)
def Qvm (y:J6.Y):dj D:=⟨[],[],[(58,⟨Nat,[0,14],λi=>[(15,Qyy i)],[],λ_=>[],0,wk y,λi=>y.length-i⟩)],[],1,[]⟩
def PO:bp D:=cq 26 By (λa _=>ϕ a) (λ_=>True) (λy=>[.str y]) λy=>.bool (jA y)
def Qvo (y:PO.Y):dj D:=⟨[],[],[(58,⟨Nat,[0],λi=>[(3,Qyy i)],[],λ_=>[],0,wk y,λi=>y.length-i⟩)],[],1,[]⟩
def Du (l:List Row):Prop:=l.Pairwise λa b=>a.k<b.k
def J7:Row:=⟨[],0⟩
def mb (l:List Row) (k:By):Nat:=l.findIdx λr=>!decide (r.k<k)
def kq (l:List Row) (k:By):Bool:=l.any λr=>decide (r.k=k)
def su (l:List Row) (k:By) (v:Int):List Row:=if kq l k=true then l.set (mb l k) ⟨(l.getD (mb l k) J7).k,v⟩ else l.take (mb l k)++⟨k,v⟩::l.drop (mb l k)
structure Zm where
 l:List Row
 k:By
 v:Int
def tbO (n:Nat) (l:List Row):List (Nat×AO D.E):=[(0,.cells [.own n 2 (ab l)] 197 false),(n,.arr 16 l 201 false)]
def Qhq (v:AV D.E) (s:St D.E):C (List Row):=match v with
 | .ptr b _=>aB (dg (s.h.get b)) λo=>match o with
  | .cells cs _ _=>match cs with
   | [c]=>aB (aW D s 16 c) λc=>.ret (c:List Row)
   | _=>.fail
  | _=>.fail
 | _=>.fail
def TbP (y:Zm):Prop:=Du y.l/\y.l.length<=1000
def PQ:bp D:=⟨87,Zm,λa s=>match a with
 | [p,k]=>aB (Qhq p s) λl=>aB (iO k) λk=>.ret ⟨l,k,0⟩
 | _=>.fail,TbP,λy=>[.ptr 0 0,.str y.k],λy=>tbO 1 y.l,λy=>.tuple [Qyy (mb y.l y.k),.bool (kq y.l y.k)],λy=>tbO 1 y.l,2,2⟩
def Wr (y:Zm) (x:Nat×Nat):Prop:=x.1<=x.2/\x.2<=y.l.length/\(∀j,j<x.1->(y.l.getD j J7).k<y.k)/\∀j,x.2<=j->j<y.l.length->¬(y.l.getD j J7).k<y.k
def Qvq (y:PQ.Y):dj D:=⟨[],[],[(28,⟨Nat×Nat,[0,1],λx=>[(6,Qyy x.1),(7,Qyy x.2)],[],λ_=>tbO 1 y.l,2,Wr y,λx=>x.2-x.1⟩)],[],1,[]⟩
def J8:bp D:=⟨49,Zm,λa s=>match a with
 | [p,k,v]=>aB (Qhq p s) λl=>aB (iO k) λk=>aP (cQ v) λ_ v=>.ret ⟨l,k,v⟩
 | _=>.fail,TbP,λy=>[.ptr 0 0,.str y.k,Qyy y.v],λy=>tbO 1 y.l,λy=>.bool (!kq y.l y.k),λy=>tbO 2 (su y.l y.k y.v),2,3⟩
def Ws:bp D:=⟨47,Unit,λ_ _=>.ret (),λ_=>True,λ_=>[],λ_=>[],λ_=>.ptr 0 0,λ_=>[(0,.cells [.own 1 2 0] 197 false),(1,.arr 16 [] 201 false)],0,2⟩
structure cx where
 r:List mw
 c:By
variable {y:By} {x:Nat} {l:List Row}
def QeG (a:List (AV D.E)) (s:St D.E):C cx:=match a with
 | [x]=>aB (asAgg x) λcs=>match cs with
  | [r,c]=>aB (aW D s 3 r) λr=>aB (iO c) λc=>.ret ⟨r,c⟩
  | _=>.fail
 | _=>.fail
def Dv (y:cx):AV D.E:=.agg [.list 3 y.r,.str y.c]
def Wt:bp D:=cq 22 cx QeG (λy=>y.r.length<=1000) (λy=>[Dv y]) Dv
def Wu (y:List UInt8):Prop:=let c:=y.length;let h:=λp:Prop=>RAP y (fo y) p;aj (seq y []) (false=jA y/\True) (aj (aD 32 (fo y)) (false=jA y/\True) ((∃z:Nat,h (0=(z:Int)/\(Iv (wk y z))))/\(∀x:Nat,let a:=sat y (x:Int);let d:=aD (x:Int) (fo y);let b:Prop:=(∃z:Nat,h (ay .i64 (x:Int) 1=(z:Int)/\(Iv (wk y z/\(c-z)<(c-x)))));let e:Prop:=(aj (aE a 45) (b) (aj (aE a 95) (b) (aj (!(aE a 46)) (false=jA y/\True) (b))));let f:Prop:=(aj (aM 48 a) (aj (aM a 57) (b) (e)) (e));let g:Prop:=(aj (aM 65 a) (aj (aM a 90) (b) (f)) (f));(Iv (wk y x))->aj d (aM 0 (x:Int)/\d/\aj (aM 97 a) (aj (aM a 122) (b) (g)) (g)) (true=jA y/\True))))
def Wv (y:List UInt8):Prop:=let c:=y.length;let h:=λp:Prop=>RAO y p;aj (seq y []) (false=jA y/\True) (aj (aD 32 (fo y)) (false=jA y/\True) ((∃z:Nat,h (0=(z:Int)/\(Iv (wk y z))))/\(∀x:Nat,let a:=sat y (x:Int);let d:=aD (x:Int) (fo y);let b:Prop:=(∃z:Nat,h (ay .i64 (x:Int) 1=(z:Int)/\(Iv (wk y z/\(c-z)<(c-x)))));let e:Prop:=(aj (!(aE a 45)) (aj (!(aE a 95)) (aj (!(aE a 46)) (false=jA y/\True) (b)) (b)) (b));let f:Prop:=(aj (aD a 48) (e) (aj (aD 57 a) (e) (b)));let g:Prop:=(aj (aD a 65) (f) (aj (aD 90 a) (f) (b)));(Iv (wk y x))->aj d (aM 0 (x:Int)/\d/\aj (aD a 97) (g) (aj (aD 122 a) (g) (b))) (true=jA y/\True))))
def Ww (y:Zm):Prop:=let b:=ab y.l;let d:=λp:Prop=>RAP b y.l p;RAO b ((∃z:Nat×Nat,aa [y.k] (0=(z.1:Int)/\b=(z.2:Int)/\d ((Iv (Wr y z)))))/\(∀x:Nat×Nat,let a:=(x.1:Int);let e:=(x.2:Int);let c:=Zs .i64 (ay .i64 a e) 2;let f:=slt (gt (Row.mk [] 0) y.l c.toNat).k y.k;(Iv (Wr y x))->aj (aD a e) (Tt 1 (aM 0 c/\aD c b/\aj f (∃z:Nat×Nat,aa [y.k] (ay .i64 c 1=(z.1:Int)/\e=(z.2:Int)/\d ((Iv (Wr y z/\(z.2-z.1)<(x.2-x.1)))))) (∃z:Nat×Nat,aa [y.k] (a=(z.1:Int)/\c=(z.2:Int)/\d ((Iv (Wr y z/\(z.2-z.1)<(x.2-x.1)))))))) (aj (aD a b) (aM 0 a/\aD a b/\aa [b,b] (aa [(gt (Row.mk [] 0) y.l a.toNat).k] (a=((mb y.l y.k:Nat):Int)/\seq (gt (Row.mk [] 0) y.l a.toNat).k y.k=kq y.l y.k/\d (True)))) (aa [b] (a=((mb y.l y.k:Nat):Int)/\false=kq y.l y.k/\d (True))))))
def QeH (y:Unit):Prop:=(0:Int)=(0:Int)/\aa ([[]]:List (List Row)) (True)
def QeI (y:cx):Prop:=ba (ab y.r) 32/\aa [y.r] (aa [y.c] (True))
theorem M4 (c:UInt8):nmB c↔(97<=c.toNat/\c.toNat<=122)\/(65<=c.toNat/\c.toNat<=90)\/(48<=c.toNat/\c.toNat<=57)\/c.toNat=45\/c.toNat=95\/c.toNat=46:=by
 grind [nmB]
theorem GB (h:wk y x) (b:x<y.length) (h0:y≠[]) (h1:y.length<=32):(nmB (y.getD x 0)->∃z:Nat,ay .i64 (x:Int) 1=(z:Int)/\wk y z/\y.length-z<y.length-x)/\(¬nmB (y.getD x 0)->false=jA y):=by
 refine⟨λh=>⟨x+1,bR ω,⟨b,λj c=>?_⟩,ω⟩,λh=>?_⟩
 ·rename_i a
  rcases Zbm j x with e | e
  ·exact a.2 j e
  ·grind
 ·grind [jA]
theorem M5 (h:wk y y.length) (h0:y≠[]) (h1:y.length<=32):true=jA y:=by
 unfold jA;symm;simp only[ZaW,ZaP,List.all_eq_true];refine⟨⟨h0,h1⟩,λc a=>?_⟩;obtain⟨i,hi,rfl⟩:=Za3 a;have:=h.2 i hi;grind
theorem Qmz (y:By) (_:J6.pre y):Wu y/\Wv y:=by
 unfold Wu Wv;have hs:∀x:Nat,sat y (x:Int)=((y.getD x 0).toNat:Int):=λ_=>rfl
 simp only[bN,bj,my,yd,hs,Zan,Zao];have f:∀{s:By},seq s []=false↔s≠[]:=λ{s}=>by grind
 have c:y=[]->false=jA y:=λh=>by subst h;rfl
 have d:32<(y.length:Int)->false=jA y:=λh=>by
  grind [jA]
 have i0:wk y 0:=⟨Zaj _,λj g=>absurd g (Zbo _)⟩;refine⟨⟨c,λh0=>⟨d,λh1=>⟨⟨0,rfl,i0⟩,λx a=>⟨λe=>⟨ω,e,?_⟩,λe=>?_⟩⟩⟩⟩,⟨c,λh0=>⟨d,λh1=>⟨⟨0,rfl,i0⟩,λx a=>⟨λe=>⟨ω,e,?_⟩,λe=>?_⟩⟩⟩⟩⟩
 all_goals have b:=f.mp h0
 ·obtain⟨p,q⟩:=GB a ω b ω;rw[M4] at p q
  with_reducible repeat' first | apply And.intro | intro _
  all_goals first | exact p ω | exact q ω
 ·rw[show x=y.length by have:=a.1;omega] at a;grind [M5]
 ·obtain⟨p,q⟩:=GB a ω b ω;rw[M4] at p q
  with_reducible repeat' first | apply And.intro | intro _
  all_goals first | exact p ω | exact q ω
 ·rw[show x=y.length by have:=a.1;omega] at a;grind [M5]
def QmA:Ok J6:=okZ (V:=Wu) [] f48 Qvm trivial λy a=>(Qmz y a).1
def QmB:Ok PO:=okZ (V:=Wv) [] f26 Qvo trivial λy a=>(Qmz y a).2
theorem Dw (h:Du l) {j:Nat} (a:x<j) (b:j<l.length):(l.getD x J7).k<(l.getD j J7).k:=by
 rw[fh b,fh ω];exact List.pairwise_iff_getElem.mp h x j ω b a
theorem Qhr (h1:x<=l.length) (a:∀j,j<x->(l.getD j J7).k<y) (b:x<l.length->¬(l.getD x J7).k<y):mb l y=x:=by
 grind [mb,List.findIdx_eq]
theorem Qhs (f:Du l) (h1:x<l.length) (c:∀j,j<x->(l.getD j J7).k<y) (d:¬(l.getD x J7).k<y):kq l y=seq (l.getD x J7).k y:=by
 rw[ZaG];unfold kq;simp only[ZcT,ZaP,yd];constructor
 ·rintro⟨r,a,rfl⟩;obtain⟨i,hi,e⟩:=Za3 a;have b:l.getD i J7=r:=by grind
  grind [Dw]
 ·grind
theorem Qvu (y:Zm) (q:PQ.pre y):Ww y:=by
 obtain⟨l,k,v⟩:=y;obtain⟨g,hl⟩:Du l/\l.length<=1000:=q;unfold Ww;have m:∀n,gt (Row.mk [] 0) l n=l.getD n J7:=λ_=>rfl
 have st:∀{a b:By},slt a b↔a<b:=λ{a b}=>by simp[slt]
 have r:∀{a b:By},slt a b=false↔¬a<b:=λ{a b}=>by grind
 simp only[bN,bj,aw,m,st,r,Zad];refine⟨⟨(0,l.length),rfl,rfl,Zaj _,Zah _,λj d=>absurd d (Zbo _),λj h1 f=>absurd (show l.length<=j from h1) (Nat.not_le_of_lt f)⟩,λx p=>?_⟩;obtain⟨lo,hi⟩:=x;obtain⟨i1,i2,i3,i4⟩:=p;simp only at i1 i2 i3 i4 ⊢;refine⟨λe=>?_,λe=>?_⟩
 ·have o:Zs .i64 (ay .i64 (lo:Int) (hi:Int)) 2=(((lo+hi) / 2:Nat):Int):=by
   grind [Zs,dW,Fa]
  rw[o];simp only[Zad];refine⟨ω,ω,λc=>⟨((lo+hi) / 2+1,hi),bR ω,rfl,⟨show(lo+hi) / 2+1<=hi by omega,i2,λj d=>?_,i4⟩,show hi-((lo+hi) / 2+1)<hi-lo by omega⟩,λc=>⟨(lo,(lo+hi) / 2),rfl,rfl,⟨show lo<=(lo+hi) / 2 by omega,show(lo+hi) / 2<=l.length by omega,i3,λj h1 f=>?_⟩,show(lo+hi) / 2-lo<hi-lo by omega⟩⟩
  ·have d:j<(lo+hi) / 2+1:=d;rcases Zbm j ((lo+hi) / 2) with e2 | e2
   ·exact Zdk (Dw g e2 ω) c
   ·grind
  ·have h1:(lo+hi) / 2<=j:=h1;rcases Zbm ((lo+hi) / 2) j with e2 | e2
   ·exact λc2=>c (Zdk (Dw g e2 f) c2)
   ·grind
 ·have i:lo=hi:=ω;subst i;have s:mb l k=lo:=Qhr i2 i3 λh=>i4 lo (Zah _) h
  grind [Qhs,kq,List.getElem_of_mem]
def QmC:Ok PQ:=okZ [] f87 Qvq trivial Qvu
theorem QmD:Ok Ws:=okZ (V:=QeH) [] f47 (λ_=>dk ()) trivial λy _=>by grind [QeH]
theorem QmE:Ok Wt:=okZ (V:=QeI) [] f22 (λ_=>dk ()) trivial λy a=>by
 have:y.r.length<=1000:=a;grind [QeI]
structure QmF where
 tab:List Row
 out:List (List Nd)
 au:Int
 at_:Int
def ph:List mw->Nat->List Row->List (List Nd)->QmF
 | [],_,t,o=>⟨t,o,0,0⟩
 | x::l,i,t,o=>if jA x.name=false then⟨[],[],14,i⟩ else if kq t x.name=true then⟨[],[],8,i⟩ else if (cr x.text).2.1≠0 then⟨[],[],(cr x.text).2.1,i⟩ else ph l (i+1) (su t x.name i) (o++[cO (cr x.text).1])
def br (y:cx):QmF:=lk (ph y.r 0 [] [])
def Am (y:cx):Bool:=decide ((br y).au=0)
def Dx (k:cx->Bool) (args:List (AV D.E)) (s:St D.E):C (cx×Bool):=aB (QeG args s) λp=>.split (k p) (.ret (p,true)) (.ret (p,false))
def Wx (y:cx×Bool):Prop:=y.1.r.length<=8/\y.2=Am y.1
def GC:bp D:=⟨21,cx×Bool,Dx Am,Wx,λy=>[Dv y.1],λ_=>[],
 λy=>match y.2 with
  | true=>.tuple [.list 9 (br y.1).out,.ptr 0 0,Qyy 0,Qyy 0]
  | false=>.tuple [.dc,.fY,Qyy (br y.1).au,Qyy (br y.1).at_],
 λy=>match y.2 with
  | true=>tbO 1 (br y.1).tab
  | false=>[],0,2⟩
structure Dy where
 t:List Row
 o:List (List Nd)
 i:Nat
def yX (y:cx) (x:Dy):Prop:=x.i<=y.r.length/\Du x.t/\x.t.length<=x.i/\x.o.length=x.i/\ph (y.r.drop x.i) x.i x.t x.o=br y
def QmG (y:GC.Y):dj D:=⟨[],[],[(122,⟨Dy,[15,16],λx=>[(6,.ptr 0 0),(7,.grow 9 x.o 2),(17,Qyy x.i)],[],λx=>tbO 1 x.t++[(2,.tok 9 87)],3,yX y.1,λx=>y.1.r.length-x.i⟩)],[],1,[]⟩
structure LdR where
 ag:List a8
 st:List Int
 cc:List a8
 cs:List Int
 au:Int
 at_:Int
def M6 (e a:Int):LdR:=⟨[],[],[],[],e,a⟩
def jB (y:cx):LdR:=
 if 8<y.r.length then M6 13 8
 else if (br y).au≠0 then M6 (br y).au (br y).at_
 else if y.c≠[]/\(cr y.c).2.1≠0 then M6 (cr y.c).2.1 y.r.length
 else if (bZ (br y).out).2.1≠0 then M6 (bZ (br y).out).2.1 (bZ (br y).out).2.2
 else if y.c≠[] then(if (bZ [cO (cr y.c).1]).2.1≠0 then M6 (bZ [cO (cr y.c).1]).2.1 y.r.length
  else⟨(bZ (br y).out).1.1,(bZ (br y).out).1.2,(bZ [cO (cr y.c).1]).1.1,(bZ [cO (cr y.c).1]).1.2,0,0⟩)
 else⟨(bZ (br y).out).1.1,(bZ (br y).out).1.2,[],[],0,0⟩
def b_ (y:cx):LdR:=lk (jB y)
def mQ (y:cx):Bool:=decide ((b_ y).au=0)
def Qht (n:Nat) (y:cx) (l:LdR) (t:List Row):List (Nat×AO D.E):=(n,.cells [.list 3 y.r,.str y.c,.list 8 l.ag,.list 5 l.st,.list 8 l.cc,.list 5 l.cs,.ptr (n+1) 0] 86 false)::[(n+1,.cells [.own (n+2) 2 (ab t)] 197 false),(n+2,.arr 16 t 201 false)]
def py (y:cx×Bool):Prop:=y.1.r.length<=1000/\y.2=mQ y.1
def uS:bp D:=⟨13,cx×Bool,Dx mQ,py,λy=>[Dv y.1],λ_=>[],
 λy=>match y.2 with
  | true=>.tuple [.ptr 0 0,Qyy 0,Qyy 0]
  | false=>.tuple [.fY,Qyy (b_ y.1).au,Qyy (b_ y.1).at_],
 λy=>match y.2 with
  | true=>Qht 0 y.1 (b_ y.1) (br y.1).tab
  | false=>[],0,3⟩
def Dz (y:cx):List Nd:=lk (if y.c≠[] then(cr y.c).1 else[])
def QmK (y:uS.Y):dj D:=⟨[],[],[],[(127,⟨Unit,[5,8],λ_=>[(1,.ptr 0 0),(9,.ptr 1 0),(10,.list 7 (Dz y.1))],[],λ_=>[(0,.cells [.list 3 y.1.r,.str y.1.c] 24 false)]++Qht 1 y.1 (M6 0 0) (br y.1).tab,4,λ_=>y.1.c≠[]->(cr y.1.c).2.1=0,λ_=>0⟩)],1,[]⟩
def PR:bp D:={ OM with f:=71 }
def Qvv (y:PR.Y):dj D:=QjO y
structure mD where
 s:cx
 p:iY
 q:iY
 t:List Row
def BR (y:mD):List (Nat×AO D.E):=Qht 0 y.s ⟨y.p.ag,y.p.ai,y.q.ag,y.q.ai,0,0⟩ y.t
def Qbl (v:AV D.E) (s:St D.E):C mD:=match v with
 | .ptr b _=>aB (dg (s.h.get b)) λo=>match o with
  | .cells cs _ _=>match cs with
   | [r,c,p,q,a,b,t]=>aB (aW D s 3 r) λr=>aB (iO c) λc=>aB (aW D s 8 p) λp=>aB (aW D s 5 q) λq=>aB (aW D s 8 a) λa=>aB (aW D s 5 b) λb=>aB (Qhq t s) λt=>.ret ⟨⟨r,c⟩,⟨p,q⟩,⟨a,b⟩,t⟩
   | _=>.fail
  | _=>.fail
 | _=>.fail
def Qbm (a:List (AV D.E)) (s:St D.E):C mD:=match a with
 | [p]=>Qbl p s
 | _=>.fail
def GD (y:mD):Prop:=Mg y.p
def PT (y:mD):Prop:=Mg y.q
def PU:bp D:=⟨30,mD,Qbm,GD,λ_=>[.ptr 0 0],BR,λy=>Fj y.p,BR,3,3⟩
def PV:bp D:=⟨31,mD,Qbm,PT,λ_=>[.ptr 0 0],BR,λy=>.tuple [Fj y.q,.bool (!seq y.s.c [])],BR,3,3⟩
def Qhu (a:List (AV D.E)) (s:St D.E):C iY:=match a with
 | [p]=>IJ p s
 | _=>.fail
def Qhv (p:iY):iB:=⟨p,0,jH,⟨rE p.ag.length,gI⟩⟩
def Wy:bp D:=⟨83,iY,Qhu,pb,λy=>[Fj y],λ_=>[],λ_=>.tuple [.ptr 0 0,.num .i64 0],λy=>Fl 0 (Qhv y),0,5⟩
def wm (p:iY):iB:=OO (Qhv p) p.ai.length
def Qbn:bp D:=⟨72,iY,Qhu,pb,λy=>[Fj y],λ_=>[],λ_=>.tuple [.ptr 0 0,.num .i64 0],λy=>Fl 0 (wm y),0,5⟩
def QeJ (y:iB):List (AV D.E):=[.int .i64 y.aq,.list 2 y.L]
def Qbo:bp D:=⟨81,iB,ON,λy=>zN y.L,λ_=>[.ptr 0 0],Fl 0,λy=>.agg (QeJ y),Fl 0,5,5⟩
def bu (p:iY):im:=lk ⟨HC,wm p⟩
def Wz:bp D:=⟨32,iY,Qhu,pb,λy=>[Fj y],λ_=>[],λ_=>.tuple [.ptr 0 0,.num .i64 0],λy=>FT 0 5 6 (bu y),0,7⟩
def nW (y:im):List (AV D.E):=.list 0 (di y.d)::QeJ y.v
def Qbp:bp D:=⟨40,im,λa s=>match a with
 | [p]=>FU p s
 | _=>.fail,λy=>uC y.d/\zN y.v.L,λ_=>[.ptr 0 0],FT 0 5 6,λy=>.agg (nW y),FT 0 5 6,7,7⟩
abbrev RA4 (v:cx) (p:Prop):Prop:=aa [v.r] (aa [v.c] p)
def QeK (y:mD):Prop:=Iv (Mg y.p)/\RA2 y.p (RA2 y.p (RA4 y.s (RA2 y.p (RA2 y.q (RAP (ab y.t) y.t (True))))))
def QeL (y:mD):Prop:=Iv (Mg y.q)/\RA2 y.q (RA2 y.q (RAQ y.s.c y.s.c y.s.c (RA2 y.q (aa [!(seq y.s.c [])] (RA4 y.s (RA2 y.p (RA2 y.q (RAP (ab y.t) y.t (True)))))))))
def QeM (y:iY):Prop:=let a:=ab y.ag;let q1:=rE (y.ag.length:Int);Iv (pb y)/\RA2 y (Iv (0<=a/\a<=4096)/\aa [a] (Iv (Mg y)/\aa [y.ag] (aa [y.ai] (aa [y.ag] (aa [y.ai] (aa ([0]:List Int) (0=ab jH/\ab (rE a)=ab q1/\aa [ab gI] (aa [gI] (rE a=q1/\[]=jH/\True)))))))))
def QeN (y:iY):Prop:=let a:=rE (y.ag.length:Int);let u:=List.take y.ai.length y.ai;let q1:=ab (jH++List.map fL u);Iv (pb y)/\RA2 y (Iv ((y.ai.length+jH.length)<=1000000)/\aa [y.ag] (aa [y.ai] (aa ([0,ab jH,ab a,ab gI]:List Int) (aa [gI] (aa [a] (aa [jH] (aa [y.ag] (aa [y.ai] (aa ([0,q1,ab a,ab gI]:List Int) (aa [gI] (aa [a] (aa [jH++List.map fL u] (True)))))))))))))
def QeO (y:iB):Prop:=Iv (zN y.L)/\RAV (ab y.L) y.L y.aq y.aq (ab y.L) y.aq y.L (RA2 y.p (RAB y (RAQ y.s.pl y.s.us y.L (True))))
def QeP (y:iY):Prop:=let e:=rE (y.ag.length:Int);let u:=jH++List.map fL (List.take y.ai.length y.ai);Iv (pb y)/\RA2 y (Iv True/\y.ag=(bu y).v.p.ag/\y.ai=(bu y).v.p.ai/\0=(bu y).v.aq/\ab u=ab (bu y).v.L/\ab e=ab (bu y).v.s.pl/\ab gI=ab (bu y).v.s.us/\gI=(bu y).v.s.us/\e=(bu y).v.s.pl/\u=(bu y).v.L/\0=(bu y).d.a/\0=(bu y).d.b/\0=(bu y).d.c/\0=(bu y).d.d/\0=(bu y).d.n/\True)
def QeQ (y:im):Prop:=Iv (uC y.d)/\RAS y.d.a y.d.b y.d.c y.d.d y.d.n (Iv (zN y.v.L)/\aa [y.v.p.ag] (aa [y.v.p.ai] (aa [y.v.aq,ab y.v.L,ab y.v.s.pl,ab y.v.s.us] (aa [y.v.s.us] (aa [y.v.s.pl] (aa [y.v.L] (aa [di y.d] (aa [y.v.aq] (aa [y.v.L] (aa [y.d.a,y.d.b,y.d.c,y.d.d,y.d.n] (aa [y.v.p.ag] (aa [y.v.p.ai] (aa [y.v.aq,ab y.v.L,ab y.v.s.pl,ab y.v.s.us] (aa [y.v.s.pl] (aa [y.v.s.us] (aa [y.v.L] (True)))))))))))))))))
def QeR:Ok PR:=okZ [] f71 Qvv trivial QjP
def QeS:Ok PU:=okZ (V:=QeK) [PR] f30 (λ_=>dk ()) QeR λy a=>by
 unfold QeK;simp only[cE,Zai,cC];exact a
def QeT:Ok PV:=okZ (V:=QeL) [PR] f31 (λ_=>dk ()) QeR λy a=>by
 unfold QeL;simp only[cE,Zai,cC];exact a
def pb.pg {p:iY} (h:pb p):Mg p:=⟨by have:=h.1;omega,by have:=h.2.1;omega,h.2.2.2.1⟩
def QeU (b:Ok cW):Ok Wy:=okZ (V:=QeM) [OY,Ti,OM] f83 (λ_=>dk ()) ⟨Qd5 b,QdT,QjQ⟩ λy a=>by
 unfold QeM;simp only[bj,aw];have:=a.1;exact⟨a,⟨ω,ω⟩,pb.pg a,rfl,rfl⟩
def QmN (b:Ok cW):Ok Qbn:=okZ (V:=QeN) [Wy,OP] f72 (λ_=>dk ()) ⟨QeU b,QdY⟩ λy a=>by
 unfold QeN;simp only[bj];refine⟨a,?_⟩;have h:y.ai.length<=8:=a.2.1;show y.ai.length+0<=_
 omega
def QmO:Ok Qbo:=okZ (V:=QeO) [O0] f81 (λ_=>dk ()) Qee λy a=>by
 unfold QeO;simp only[bj];exact a
def QmP (a:Ok cW):Ok Wz:=okZ (V:=QeP) [Qbn,unC] f32 (λ_=>dk ()) ⟨QmN a,QgH⟩ λy b=>by
 unfold QeP;simp only[bj,show bu y=_ from az _];exact⟨b,rfl,rfl,rfl,rfl,rfl,rfl,rfl,rfl,rfl,rfl,rfl,rfl,rfl,rfl⟩
def QmQ:Ok Qbp:=okZ (V:=QeQ) [uhC,Qbo] f40 (λ_=>dk ()) ⟨QkN,QmO⟩ λy a=>by
 unfold QeQ;simp only[bj];exact a
def RwD (d:jz) (p:Prop):Prop:=aa [d.a,d.b,d.c,d.d,d.n] p
def RwM (v:iB) (p:Prop):Prop:=aa [v.p.ag] (aa [v.p.ai] (aa [v.aq,ab v.L,ab v.s.pl,ab v.s.us] (aa [v.s.us] (aa [v.s.pl] (aa [v.L] p)))))
def RwU (v:iB) (p:Prop):Prop:=aa [v.p.ag] (aa [v.p.ai] (aa [v.aq,ab v.L,ab v.s.pl,ab v.s.us] (aa [v.s.pl] (aa [v.s.us] (aa [v.L] p)))))
def bC (s:im) (p:Prop):Prop:=RwM s.v (RwD s.d p)
def iM (s:im) (p:Prop):Prop:=RwD s.d (RwU s.v p)
def dN (y:mD) (p:Prop):Prop:=aa [y.p.ag] (aa [y.p.ai] (aa [y.q.ag] (aa [y.q.ai] p)))
def cJ (y:mD) (p:Prop):Prop:=aa [y.s.r] (aa [y.s.c] (dN y (aa [ab y.t] (aa [y.t] p))))
def dV (y:mD) (p:Prop):Prop:=cJ y (dN y p)
def cD:(∀d p,RwD d p=p)/\(∀v p,RwM v p=p)/\(∀v p,RwU v p=p)/\(∀s p,bC s p=p)/\(∀s p,iM s p=p)/\(∀y p,dN y p=p)/\(∀y p,cJ y p=p)/\∀y p,dV y p=p:=by
 refine⟨λ_ _=>?_,λ_ _=>?_,λ_ _=>?_,λ_ _=>?_,λ_ _=>?_,λ_ _=>?_,λ_ _=>?_,λ_ _=>?_⟩<;>simp[RwD,RwM,RwU,bC,iM,dN,cJ,dV]
structure aG where
 ru:mD
 pos:Int
 aF:Int
 aK:Int
 size:Int
 aO:Bool
 aL:List db
 ax:im
 aT:im
 bg:im
def rq (y:aG) (p:Prop):Prop:=aa [y.pos,y.aF] (aa [y.aO] (aa [y.aK,y.size] (aa [y.aL] p)))
def nY (y:aG) (p:Prop):Prop:=aa [y.pos,y.aF] (aa [y.aO] p)
def cF (y:aG) (p:Prop):nY y p=p:=by simp[nY]
def cP (y:aG) (p:Prop):rq y p=p:=by simp[rq]
inductive aZ where
 | n | p | c | o | a
variable {s:im} {c:Int} {y:aG}
def PW (f:aZ):Bool:=match f with
 | .n=>false | .p=>false | _=>true
def sfO (f:aZ):Bool:=match f with
 | .n=>false | .c=>false | _=>true
def QvG (f:aZ) (b:Nat):AV D.E:=match f with
 | .o=>.ptr (b+14) 0 | .a=>.ptr b 0 | _=>.fY
def QvH (f:aZ) (b:Nat):AV D.E:=match f with
 | .n=>.fY | .p=>.fY | _=>.ptr (b+7) 0
def evA (f:aZ) (x:Int):AV D.E:=match f with
 | .n=>.num .i64 0 | .c=>.num .i64 0 | _=>.int .i64 x
def enA (f:aZ) (l:List db):AV D.E:=match f with
 | .n=>.dc | .c=>.dc | _=>.list 2 l
def QmR (n:Nat) (f:aZ) (b:Nat) (y:aG):List (Nat×AO D.E):=(n,.cells [.ptr 0 0,.list 8 y.ru.p.ag,.list 5 y.ru.p.ai,.list 8 y.ru.q.ag,.list 5 y.ru.q.ai,.lit (PW f),.int .i64 y.pos,.int .i64 y.aF,.bool y.aO,.lit (sfO f),evA f y.aK,evA f y.size,enA f y.aL,QvG f b,.ptr b 0,QvH f b] 74 false)::
 (FT b (b+5) (b+6) y.ax++match f with
  | .n=>[] | .p=>[]
  | .o=>FT (b+7) (b+12) (b+13) y.aT++FT (b+14) (b+19) (b+20) y.bg
  | _=>FT (b+7) (b+12) (b+13) y.aT)
def fa (f:aZ) (b:Nat) (y:aG):List (Nat×AO D.E):=BR y.ru++QmR 3 f b y
def fl:im:=⟨HC,⟨⟨[],[]⟩,0,jH,⟨[],gI⟩⟩⟩
def QvI (x y:AV D.E):Bool:=match x with
 | .ptr b _=>match y with
  | .ptr c _=>Nat.beq b c
  | _=>false
 | _=>false
def sfK (f:aZ) (j o s:Bool):Bool:=match f with
 | .n=>Bool.and (!j) (!o) | .p=>Bool.and (!j) o | .c=>Bool.and j (!o) | .o=>Bool.and j (Bool.and o (!s)) | .a=>Bool.and j (Bool.and o s)
def WA (f:aZ) (v:AV D.E) (s:St D.E):C aG:=match v with
 | .ptr b _=>aB (dg (s.h.get b)) λx=>match x with
  | .cells cs _ _=>match cs with
   | [r,_,_,_,_,i,p,l,g,j,e,z,n,u,a,c]=>match i with
    | .lit d=>match j with
     | .lit ob=>bE (sfK f d ob (QvI u a)) (aB (Qbl r s) λr=>aP (cQ p) λ_ p=>aP (cQ l) λ_ l=>aP (xg g) λg _=>aP (cQ e) λ_ e=>aP (cQ z) λ_ z=>aB (aW D s 2 n) λn=>aB (FU a s) λa=>aB (bif PW f then FU c s else .ret fl) λc=>aB (match f with
      | .o=>FU u s
      | _=>.ret fl) λu=>.ret ⟨r,p,l,e,z,g,n,a,c,u⟩) .fail
     | _=>.fail
    | _=>.fail
   | _=>.fail
  | _=>.fail
 | _=>.fail
def yY (f:aZ) (a:List (AV D.E)) (s:St D.E):C aG:=match a with
 | [p]=>WA f p s
 | _=>.fail
def GF (f:aZ) (a:List (AV D.E)) (s:St D.E):C (aG×Int):=match a with
 | [p,n]=>aB (WA f p s) λy=>aP (cQ n) λ_ n=>.ret (y,n)
 | _=>.fail
def WB (f:aZ) (y:aG):aG:=match f with
 | .n=>{ y with ax:=bS y.ax } | .p=>{ y with ax:=bS y.ax }
 | .a=>{ y with ax:=bS y.ax,aT:=bS y.aT,bg:=y.ax }
 | _=>{ y with ax:=bS y.ax,aT:=bS y.aT }
def sfB (f:aZ):aZ:=match f with
 | .a=>.o | f=>f
def lW (f:aZ) (y:aG):Prop:=uJ y.ax/\(PW f->uJ y.aT)
def mR (f:aZ):bp D:=⟨39,aG,yY f,lW f,λ_=>[.ptr 3 0],fa f 4,λ_=>.tuple [],λy=>fa (sfB f) 25 (WB f y),25,46⟩
def Qby (f:aZ) (y:aG):aG:=WB f { y with aF:=y.pos,aO:=false }
def mS (f:aZ):bp D:=⟨37,aG,yY f,lW f,λ_=>[.ptr 3 0],fa f 4,λ_=>.tuple [],λy=>fa (sfB f) 25 (Qby f y),25,46⟩
def PX (e:Int) (l:db) (i:Nat):cH:=⟨1,e,i,l.c0,l.c1,l.c2,l.c3,l.c4,l.c5,l.c6,l.c7,l.c8,l.c9⟩
def dY (e:Int) (l:List db):Nat->List cH
 | 0=>[]
 | k+1=>if (l.getD k Mq).done=true then dY e l k++[PX e (l.getD k Mq) k] else dY e l k
def fj (e:Int) (l:List db):List cH:=lk (dY e l l.length)
def Qhx:Nat×AO D.E:=(25,.tok 4 54)
def tM (y:aG):Prop:=y.aL.length<=1000
def oR (f:aZ):bp D:=⟨78,aG,yY f,tM,λ_=>[.ptr 3 0],fa f 4,λy=>.grow 4 (fj y.aK y.aL) 25,λy=>fa f 4 y++[Qhx],25,26⟩
def kpN (f:aZ):List Nat:=match f with
 | .o=>List.range 25 | .n=>List.range 11 | .p=>List.range 11 | _=>List.range 18
def WC (f:aZ) (y:(oR f).Y):dj D:=⟨[],[],[(58,⟨Nat,[0,9,10],λk=>[(3,.grow 4 (dY (aG.aK y) (aG.aL y) k) 25),(11,Qyy k)],kpN f,λ_=>[Qhx],26,λk=>k<=(aG.aL y).length,λk=>(aG.aL y).length-k⟩)],[],1,[]⟩
def sfS (f:aZ):aZ:=match f with
 | .n=>.n | .p=>.n | _=>.c
def mc (f:aZ):bp D:=⟨38,aG,yY f,tM,λ_=>[.ptr 3 0],fa f 4,λy=>bif sfO f then .grow 4 (fj y.aK y.aL) 25 else .dc,λy=>fa (sfS f) 4 y++bif sfO f then[Qhx] else[],25,26⟩
def HF (y:aG) (n:Int):Bool:=((hV y.aT).getD 0 Mq).done&&decide (y.size+1+n<=500)
def goP (f:aZ) (y:aG×Int):Prop:=(sfO f->rI y.1.aT/\0<(hV y.1.aT).length)/\(sfO f->0<=y.1.size/\y.1.size<=1000)/\0<=y.2/\y.2<=1000
def PY (f:aZ):bp D:=⟨76,aG×Int,GF f,goP f,λy=>[.ptr 3 0,Qyy y.2],λy=>fa f 4 y.1,λy=>bif sfO f then .bool (HF y.1 y.2) else .lit false,λy=>fa f 4 y.1,25,25⟩
def WD (y:aG):Prop:=Iv (uJ y.ax)/\bC y.ax (dV y.ru (nY y (bC (bS y.ax) (True))))
def WG (y:aG):Prop:=Iv (uJ y.ax)/\bC y.ax (Iv (uJ y.aT)/\bC y.aT (dV y.ru (nY y (bC (bS y.aT) (bC (bS y.ax) (True))))))
def WI (y:aG):Prop:=Iv (uJ y.ax)/\bC y.ax (Iv (uJ y.aT)/\bC y.aT (dV y.ru (rq y (bC (bS y.aT) (bC (bS y.ax) (bC y.bg (True)))))))
def WK (y:aG):Prop:=Iv (uJ y.ax)/\bC y.ax (Iv (uJ y.aT)/\bC y.aT (dV y.ru (rq y (bC (bS y.aT) (bC (bS y.ax) (bC y.ax (True)))))))
def WM (y:aG):Prop:=Iv (lW aZ.n (aG.mk y.ru y.pos y.pos 0 0 false [] y.ax fl fl))/\dN y.ru (RAP y.pos y.pos (false=false/\bC y.ax (cJ y.ru (dV y.ru (aa [y.pos,y.pos] (false=false/\bC (bS y.ax) (True)))))))
def WO (y:aG):Prop:=Iv (lW aZ.c (aG.mk y.ru y.pos y.pos 0 0 false [] y.ax y.aT fl))/\dN y.ru (RAP y.pos y.pos (false=false/\bC y.aT (bC y.ax (cJ y.ru (dV y.ru (aa [y.pos,y.pos] (false=false/\bC (bS y.aT) (bC (bS y.ax) (True)))))))))
abbrev RAE (v:aG) (p:Prop):Prop:=aa [v.aK] (aa [v.size] (aa [v.aL] p))
def WR (y:aG):Prop:=let a:=λp:Prop=>RAE y p;Iv (lW aZ.o (aG.mk y.ru y.pos y.pos y.aK y.size false y.aL y.ax y.aT y.bg))/\dN y.ru (RAP y.pos y.pos (false=false/\a (bC y.aT (bC y.ax (bC y.bg (cJ y.ru (dV y.ru (aa [y.pos,y.pos] (false=false/\a (bC (bS y.aT) (bC (bS y.ax) (bC y.bg (True)))))))))))))
def WT (y:aG):Prop:=let b:=λp:Prop=>RAE y p;Iv (lW aZ.a (aG.mk y.ru y.pos y.pos y.aK y.size false y.aL y.ax y.aT fl))/\dN y.ru (RAP y.pos y.pos (false=false/\b (bC y.aT (bC y.ax (cJ y.ru (dV y.ru (aa [y.pos,y.pos] (false=false/\b (bC (bS y.aT) (bC (bS y.ax) (bC y.ax (True))))))))))))
def GG (y:aG):Prop:=let b:=y.aL.length;let q1:=ab y.aL;let d:=λp:Prop=>RAP y.aL q1 p;(∃z:Nat,d ([]=dY y.aK y.aL z/\0=(z:Int)/\dV y.ru (rq y (iM y.ax ((Iv (z<=b)))))))/\(∀x:Nat,let c:=dY y.aK y.aL x;let a:=gt (db.mk false 0 0 0 0 0 0 0 0 0 0 []) y.aL (x:Int).toNat;let e:=bn c [cH.mk 1 y.aK (x:Int) a.c0 a.c1 a.c2 a.c3 a.c4 a.c5 a.c6 a.c7 a.c8 a.c9];(Iv (x<=b))->aj (aD (x:Int) q1) (aM 0 (x:Int)/\aD (x:Int) q1/\aj a.done (ba (ab e) 104/\RAO y.aK (RA8 a (∃z:Nat,d (e=dY y.aK y.aL z/\ay .i64 (x:Int) 1=(z:Int)/\dV y.ru (rq y (iM y.ax ((Iv (z<=b/\(b-z)<(b-x)))))))))) (∃z:Nat,d (c=dY y.aK y.aL z/\ay .i64 (x:Int) 1=(z:Int)/\dV y.ru (rq y (iM y.ax ((Iv (z<=b/\(b-z)<(b-x))))))))) (c=fj y.aK y.aL/\dV y.ru (rq y (iM y.ax (True)))))
def GH (y:aG):Prop:=let b:=y.aL.length;let q1:=ab y.aL;let d:=λp:Prop=>RAP y.aL q1 p;(∃z:Nat,d ([]=dY y.aK y.aL z/\0=(z:Int)/\dV y.ru (rq y (iM y.ax (iM y.aT (iM y.bg ((Iv (z<=b)))))))))/\(∀x:Nat,let c:=dY y.aK y.aL x;let a:=gt (db.mk false 0 0 0 0 0 0 0 0 0 0 []) y.aL (x:Int).toNat;let e:=bn c [cH.mk 1 y.aK (x:Int) a.c0 a.c1 a.c2 a.c3 a.c4 a.c5 a.c6 a.c7 a.c8 a.c9];(Iv (x<=b))->aj (aD (x:Int) q1) (aM 0 (x:Int)/\aD (x:Int) q1/\aj a.done (ba (ab e) 104/\RAO y.aK (RA8 a (∃z:Nat,d (e=dY y.aK y.aL z/\ay .i64 (x:Int) 1=(z:Int)/\dV y.ru (rq y (iM y.ax (iM y.aT (iM y.bg ((Iv (z<=b/\(b-z)<(b-x)))))))))))) (∃z:Nat,d (c=dY y.aK y.aL z/\ay .i64 (x:Int) 1=(z:Int)/\dV y.ru (rq y (iM y.ax (iM y.aT (iM y.bg ((Iv (z<=b/\(b-z)<(b-x))))))))))) (c=fj y.aK y.aL/\dV y.ru (rq y (iM y.ax (iM y.aT (iM y.bg (True)))))))
def WV (y:aG):Prop:=
 dV y.ru (
  nY y (
  iM y.ax (
  True)))
def WX (y:aG):Prop:=let a:=fj y.aK y.aL;Iv (tM (aG.mk y.ru y.pos y.aF y.aK y.size y.aO y.aL y.ax fl fl))/\dN y.ru (rq y (bC y.ax (cJ y.ru (RAO a (dV y.ru (nY y (iM y.ax (True))))))))
def W0 (y:aG):Prop:=
 dV y.ru (
  nY y (
  iM y.ax (
  iM y.aT (
  True))))
def W2 (y:aG):Prop:=let a:=fj y.aK y.aL;Iv (tM y)/\dN y.ru (rq y (bC y.aT (bC y.ax (bC y.bg (cJ y.ru (RAO a (dV y.ru (nY y (iM y.ax (iM y.aT (True)))))))))))
def QeV (y:aG×Int):Prop:=
 dV y.1.ru (
  nY y.1 (
  iM y.1.ax (
  True)))
def QeW (y:aG×Int):Prop:=
 dV y.1.ru (
  nY y.1 (
  iM y.1.ax (
  iM y.1.aT (
  True))))
def QeX (y:aG×Int):Prop:=Iv (rI y.1.aT)/\bC y.1.aT (Tt 1 (aD 0 (ab (hV y.1.aT))/\aj (gt (db.mk false 0 0 0 0 0 0 0 0 0 0 []) (hV y.1.aT) 0).done (aM (ay .i64 (ay .i64 y.1.size 1) y.2) 500=HF y.1 y.2/\dV y.1.ru (rq y.1 (iM y.1.ax (iM y.1.aT (iM y.1.bg (True)))))) (false=HF y.1 y.2/\dV y.1.ru (rq y.1 (iM y.1.ax (iM y.1.aT (iM y.1.bg (True))))))))
def W4:Ok (mR .n):=okZ (V:=WD) [JA] f39 (λ_=>dk ()) MG λ(y:aG) a=>by
 unfold WD;simp only[cE,cD,cP,cF,Zai,cC];exact a.1
def J_:Ok (mR .c):=okZ (V:=WG) [JA] f39 (λ_=>dk ()) MG λ(y:aG) a=>by
 unfold WG;simp only[cE,cD,cP,cF,Zai,cC];exact⟨a.1,a.2 rfl⟩
def Qhy:Ok (mR .o):=okZ (V:=WI) [JA] f39 (λ_=>dk ()) MG λ(y:aG) a=>by
 unfold WI;simp only[cE,cD,cP,cF,Zai,cC];exact⟨a.1,a.2 rfl⟩
def Qhz:Ok (mR .a):=okZ (V:=WK) [JA] f39 (λ_=>dk ()) MG λ(y:aG) b=>by
 unfold WK;simp only[cE,cD,cP,cF,Zai,cC];exact⟨b.1,b.2 rfl⟩
def QhA:Ok (mS .n):=okZ (V:=WM) [mR .n] f37 (λ_=>dk ()) W4 λ(y:aG) a=>by
 unfold WM;simp only[cE,cD,cP,cF,Zai,cC];exact⟨a.1,λh=>nomatch h⟩
def QhB:Ok (mS .c):=okZ (V:=WO) [mR .c] f37 (λ_=>dk ()) J_ λ(y:aG) a=>by
 unfold WO;simp only[cE,cD,cP,cF,Zai,cC];exact a
def QhC:Ok (mS .o):=okZ (V:=WR) [mR .o] f37 (λ_=>dk ()) Qhy λ(y:aG) a=>by
 unfold WR;simp only[cE,cD,cP,cF,Zai,cC];exact a
def W5:Ok (mS .a):=okZ (V:=WT) [mR .a] f37 (λ_=>dk ()) Qhz λ(y:aG) b=>by
 unfold WT;simp only[cE,cD,cP,cF,Zai,cC];exact b
theorem uT (e:Int) (l:List db):∀k,(dY e l k).length<=k
 | 0=>Zah _
 | k+1=>by
  have:=uT e l k;grind [dY]
theorem PZ (e:Int) (l:List db) (x:Nat) (a:x<l.length) (hl:l.length<=1000):
  (gt Mq l x).done->(ba (ab (bn (dY e l x) [PX e (gt Mq l x) x])) 104/\∃z:Nat,bn (dY e l x) [PX e (gt Mq l x) x]=dY e l z/\ay .i64 (x:Int) 1=(z:Int)/\z<=l.length/\l.length-z<l.length-x):=λh=>by
 have:=uT e l x;refine⟨?_,x+1,?_,bA ω ω,ω,ω⟩
 ·grind
 ·grind [dY]
theorem P0 (e:Int) (l:List db) (x:Nat) (a:x<l.length) (hl:l.length<=1000) (h:(gt Mq l x).done=false):∃z:Nat,dY e l x=dY e l z/\ay .i64 (x:Int) 1=(z:Int)/\z<=l.length/\l.length-z<l.length-x:=by
 refine⟨x+1,?_,bA ω ω,ω,ω⟩;grind [dY]
theorem GI (y:aG) (b:y.aL.length<=1000):(∃z:Nat,([]:List cH)=dY y.aK y.aL z/\(0:Int)=(z:Int)/\z<=y.aL.length)/\∀x:Nat,x<=y.aL.length->
  (aD (x:Int) (ab y.aL)->aM 0 (x:Int)/\aD (x:Int) (ab y.aL)/\
   ((gt Mq y.aL (x:Int).toNat).done->ba (ab (bn (dY y.aK y.aL x) [PX y.aK (gt Mq y.aL (x:Int).toNat) x])) 104/\∃z:Nat,bn (dY y.aK y.aL x) [PX y.aK (gt Mq y.aL (x:Int).toNat) x]=dY y.aK y.aL z/\ay .i64 (x:Int) 1=(z:Int)/\z<=y.aL.length/\y.aL.length-z<y.aL.length-x)/\
   ((gt Mq y.aL (x:Int).toNat).done=false->∃z:Nat,dY y.aK y.aL x=dY y.aK y.aL z/\ay .i64 (x:Int) 1=(z:Int)/\z<=y.aL.length/\y.aL.length-z<y.aL.length-x))/\
  (aD (x:Int) (ab y.aL)=false->dY y.aK y.aL x=fj y.aK y.aL):=by
 refine⟨⟨0,rfl,rfl,Zaj _⟩,λx c=>⟨λh=>?_,λh=>?_⟩⟩
 ·have a:x<y.aL.length:=by grind
  exact⟨gg.2 ω,h,PZ y.aK y.aL x a b,P0 y.aK y.aL x a b⟩
 ·have a:x=y.aL.length:=by grind
  rw[a];exact(az _).symm
def W6:Ok (oR .p):=okZ (V:=GG) [] f78 (WC .p) trivial λ(y:aG) a=>by
 unfold GG;simp only[ej,cD,cP,cF,cC];exact GI y a
def W7:Ok (oR .o):=okZ (V:=GH) [] f78 (WC .o) trivial λ(y:aG) a=>by
 unfold GH;simp only[ej,cD,cP,cF,cC];exact GI y a
def W8:Ok (mc .n):=okZ (V:=WV) [] f38 (λ_=>dk ()) trivial λ(y:aG) a=>by
 unfold WV;simp only[cE,cD,cP,cF,Zai,cC]
def QhD:Ok (mc .p):=okZ (V:=WX) [oR .p] f38 (λ_=>dk ()) W6 λ(y:aG) a=>by
 unfold WX;simp only[cE,cD,cP,cF,Zai,cC];exact a
def W9:Ok (mc .c):=okZ (V:=W0) [] f38 (λ_=>dk ()) trivial λ(y:aG) a=>by
 unfold W0;simp only[cE,cD,cP,cF,Zai,cC]
def W':Ok (mc .o):=okZ (V:=W2) [oR .o] f38 (λ_=>dk ()) W7 λ(y:aG) a=>by
 unfold W2;simp only[cE,cD,cP,cF,Zai,cC];exact a
def Qm5:Ok (PY .n):=okZ (V:=QeV) [Ak] f76 (λ_=>dk ()) uK λ(y:aG×Int) a=>by
 unfold QeV;simp only[cE,cD,cP,cF]
def Qm6:Ok (PY .c):=okZ (V:=QeW) [Ak] f76 (λ_=>dk ()) uK λ(y:aG×Int) a=>by
 unfold QeW;simp only[cE,cD,cP,cF]
theorem Qm7:Ok (PY .o):=okZ (V:=QeX) [Ak] f76 (λ_=>dk ()) uK λ(y:aG×Int) a=>by
 obtain⟨h1,hs,d,e⟩:=a;obtain⟨b,c⟩:=hs rfl;obtain⟨f,g⟩:=h1 rfl;unfold QeX;simp only[ej,cD,cP,cF,cC];grind [HF]
def fb (s t:im) (p:Prop):Prop:=s.v.p.ag=t.v.p.ag/\s.v.p.ai=t.v.p.ai/\s.v.aq=t.v.aq/\ab s.v.L=ab t.v.L/\ab s.v.s.pl=ab t.v.s.pl/\ab s.v.s.us=ab t.v.s.us/\s.v.s.us=t.v.s.us/\s.v.s.pl=t.v.s.pl/\s.v.L=t.v.L/\s.d.a=t.d.a/\s.d.b=t.d.b/\s.d.c=t.d.c/\s.d.d=t.d.d/\s.d.n=t.d.n/\p
def W_ {t:im} {p:Prop} (h:s=t):fb s t p=p:=by subst h;simp[fb]
def QhE (f:aZ) (y:aG):Prop:=rI y.ax/\(PW f->rI y.aT/\0<(hV y.aT).length)/\(f=.o->rI y.bg/\y.aL.length<=1000/\0<=y.size/\y.size<=500)
def wo (f:aZ) (y:aG):Prop:=QhE f y/\0<=y.aF/\y.aF<=y.pos/\y.pos<=100000000/\(y.aO=false->y.pos-y.aF<=200)
def P2 (f:aZ) (y:aG×Int):Prop:=QhE f y.1/\0<=y.2/\y.2<=200
def Qm8 (y:aG) (n:Int):aG:={ y with aK:=y.aF,size:=n,aL:=hV y.ax,ax:=jm y.ax 10 }
def M7:bp D:=⟨36,aG×Int,GF .n,P2 .n,λy=>[.ptr 3 0,Qyy y.2],λy=>fa .n 4 y.1,λy=>.list 4 (fj y.1.aF (hV y.1.ax)),λy=>fa .n 4 y.1,25,46⟩
def GJ:bp D:=⟨36,aG×Int,GF .c,P2 .c,λy=>[.ptr 3 0,Qyy y.2],λy=>fa .c 4 y.1,λ_=>.dc,λy=>fa .a 25 (Qm8 y.1 y.2),25,46⟩
def QeY (k:aG->Int->Bool) (f:aZ) (a:List (AV D.E)) (s:St D.E):C ((aG×Int)×Bool):=aB (GF f a s) λy=>.split (k y.1 y.2) (.ret (y,true)) (.ret (y,false))
def yZ (y:(aG×Int)×Bool):Prop:=P2 .o y.1/\y.2=HF y.1.1 y.1.2
def BS:bp D:=⟨36,(aG×Int)×Bool,QeY HF .o,yZ,λy=>[.ptr 3 0,Qyy y.1.2],λy=>fa .o 4 y.1.1,
 λy=>match y.2 with
  | true=>.dc
  | false=>.list 4 (fj y.1.1.aK y.1.1.aL),
 λy=>match y.2 with
  | true=>fa .o 25 { y.1.1 with aL:=hV y.1.1.bg,size:=y.1.1.size+(1+y.1.2),bg:=jm y.1.1.bg 10 }
  | false=>fa .a 25 (Qm8 y.1.1 y.1.2),25,46⟩
def Xa (y:aG×Int):Prop:=let a:=hV y.1.ax;let q1:=fj y.1.aF a;let b:=aG.mk y.1.ru y.1.pos y.1.aF 0 0 y.1.aO [] y.1.ax fl fl;Iv (goP aZ.n (b,y.2))/\RAO y.2 (dN y.1.ru (nY y.1 (bC y.1.ax (cJ y.1.ru (Iv (tM b)/\dN y.1.ru (nY y.1 (bC y.1.ax (cJ y.1.ru (Iv (rI y.1.ax)/\bC y.1.ax (aa [y.1.aF,y.1.aF] (Iv (tM (aG.mk y.1.ru y.1.pos y.1.aF y.1.aF y.2 y.1.aO a y.1.ax fl fl))/\dN y.1.ru (nY y.1 (aa [y.1.aF,y.2] (aa [a] (bC y.1.ax (cJ y.1.ru (ba (ab q1) 104/\aa [q1] (dV y.1.ru (nY y.1 (iM y.1.ax (True)))))))))))))))))))))
def Xc (y:aG×Int):Prop:=let a:=aG.mk y.1.ru y.1.pos y.1.aF 0 0 y.1.aO [] y.1.ax y.1.aT fl;Iv (goP aZ.c (a,y.2))/\RAO y.2 (dN y.1.ru (nY y.1 (bC y.1.aT (bC y.1.ax (cJ y.1.ru (Iv (tM a)/\dN y.1.ru (nY y.1 (bC y.1.aT (bC y.1.ax (cJ y.1.ru (Iv (rI y.1.ax)/\bC y.1.ax (aa [y.1.aF,y.1.aF] (Iv (yJ y.1.ax)/\aa ([10]:List Int) (bC y.1.ax (dV y.1.ru (nY y.1 (aa [y.1.aF,y.2] (aa [hV y.1.ax] (bC y.1.aT (bC (jm y.1.ax 10) (True)))))))))))))))))))))
def DA (y:aG×Int):Prop:=Iv (goP aZ.o (y.1,y.2))/\RAO y.2 (dN y.1.ru (rq y.1 (bC y.1.aT (bC y.1.ax (bC y.1.bg (cJ y.1.ru (aj (HF y.1 y.2) (Iv (rI y.1.bg)/\bC y.1.bg (Iv (yJ y.1.bg)/\aa ([10]:List Int) (bC y.1.bg (dV y.1.ru (nY y.1 (aa [y.1.aK] (ay .i64 y.1.size (ay .i64 1 y.2)=(y.1.size+(1+y.2))/\aa [hV y.1.bg] (bC y.1.aT (bC y.1.ax (bC (jm y.1.bg 10) (True))))))))))) (Iv (tM y.1)/\dN y.1.ru (rq y.1 (bC y.1.aT (bC y.1.ax (bC y.1.bg (cJ y.1.ru (Iv (rI y.1.ax)/\bC y.1.ax (aa [y.1.aF,y.1.aF] (Iv (yJ y.1.ax)/\aa ([10]:List Int) (bC y.1.ax (False))))))))))))))))))
def DB (y:aG×Int):Prop:=let a:=hV y.1.ax;let q1:=fj y.1.aK y.1.aL;Iv (goP aZ.o (y.1,y.2))/\RAO y.2 (dN y.1.ru (rq y.1 (bC y.1.aT (bC y.1.ax (bC y.1.bg (cJ y.1.ru (aj (HF y.1 y.2) (Iv (rI y.1.bg)/\bC y.1.bg (Iv (yJ y.1.bg)/\aa ([10]:List Int) (bC y.1.bg ([]=q1/\dV y.1.ru (nY y.1 (y.1.aK=y.1.aF/\ay .i64 y.1.size (ay .i64 1 y.2)=y.2/\hV y.1.bg=a/\False)))))) (Iv (tM y.1)/\dN y.1.ru (rq y.1 (bC y.1.aT (bC y.1.ax (bC y.1.bg (cJ y.1.ru (Iv (rI y.1.ax)/\bC y.1.ax (aa [y.1.aF,y.1.aF] (Iv (yJ y.1.ax)/\aa ([10]:List Int) (bC y.1.ax (aa [q1] (dV y.1.ru (nY y.1 (aa [y.1.aF,y.2] (aa [a] (bC y.1.aT (bC (jm y.1.ax 10) (True)))))))))))))))))))))))))
theorem Ka {v:iB} {l:List Gt} (h:Ub v c):∀x,x<=l.length->(qd v (l.take x)).p=v.p
 | 0,_=>by rfl
 | x+1,a=>by
  rw[uD (show x<l.length by omega)];exact((qY _ (oH (l:=l) h x ω).1 _).2.1).trans (Ka h x ω)
theorem GK (h:rI s):(hV s).length=s.v.L.length:=by
 have c:=h.1.2.2;have b:=FW c;have a:=oH b (l:=D5 (uoF (di s.d)).n.toNat) _ (Zah _);have f:=Ka b (l:=D5 (uoF (di s.d)).n.toNat) _ (Zah _);rw[ZaM] at a f;have e:=(C8 a.1.1 (JB s).L.length).2;have e2:(hV s).length=(JB s).L.length:=e;have g:(JB s).p.ai.length=(JB s).L.length:=a.2.1;have i:(JB s).p=s.v.p:=f;rw[e2,<-g,i];exact c.2.1
def DC (h:rI s):(hV s).length<=1000:=by
 rw[GK h];exact h.1.2.2.1.2.1
theorem uU (e:Int) (l:List db):(fj e l).length<=l.length:=by
 grind [fj,az,uT]
theorem QhH:Ok M7:=okZ (V:=Xa) [PY .n,mc .n,Ak,mc .p] f36 (λ_=>dk ()) ⟨Qm5,W8,uK,QhD⟩ λ(y:aG×Int) a=>by
 obtain⟨⟨q1,_⟩,h1,b⟩:=a;unfold Xa;simp only[cE,cD,cP,cF,Zai,cC];have hl:=uU y.1.aF (hV y.1.ax);have hs:=DC q1;exact⟨⟨nofun,⟨nofun,h1,ω⟩⟩,Zaj _,q1,hs,bq.2 (by grind)⟩
def QhI:Ok GJ:=okZ (V:=Xc) [PY .c,mc .c,Ak,yK] f36 (λ_=>dk ()) ⟨Qm6,W9,uK,FV⟩ λ(y:aG×Int) a=>by
 obtain⟨⟨q1,_⟩,h1,b⟩:=a;unfold Xc;simp only[cE,cD,cP,cF,Zai,cC];exact⟨⟨nofun,⟨nofun,h1,ω⟩⟩,Zaj _,q1,q1.1⟩
theorem QhJ (y:aG×Int) (f:yZ (y,true)):DA y:=by
 obtain⟨⟨⟨q1,g,h⟩,h1,c⟩,a⟩:=f;obtain⟨d,i,b,e⟩:=h rfl;have a:true=HF y.1 y.2:=a;have c:y.2<=200:=c;have h1:0<=y.2:=h1;have b:0<=y.1.size:=b;have e:y.1.size<=500:=e;unfold DA;simp only[ej,cD,cP,cF,cC,<-a];exact⟨⟨λ_=>g rfl,λ_=>⟨b,by grind⟩,h1,ω⟩,λ_=>⟨d,d.1,by grind⟩,nofun⟩
theorem QhK (y:aG×Int) (e:yZ (y,false)):DB y:=by
 obtain⟨⟨⟨q1,f,g⟩,h1,c⟩,a⟩:=e;obtain⟨i,h,b,d⟩:=g rfl;have a:false=HF y.1 y.2:=a;have c:y.2<=200:=c;have h1:0<=y.2:=h1;have b:0<=y.1.size:=b;have d:y.1.size<=500:=d;unfold DB;simp only[ej,cD,cP,cF,cC,<-a];exact⟨⟨λ_=>f rfl,λ_=>⟨b,by grind⟩,h1,ω⟩,nofun,λ_=>⟨h,q1,q1.1⟩⟩
def QhL:Ok BS:=QyR (k:=BS) (T:=DA) (F:=DB) [PY .o,mc .o,Ak,yK] f36 (λ_=>dk ()) id id (λ_=>rfl) ⟨Qm7,W',uK,FV⟩ QhJ QhK
def pD (y:aG):Int:=if y.aO=true then 0 else y.pos-y.aF
def jw (y:aG) (c:Int):Int:=II ⟨pD y,y.aO⟩ c
def tN (y:aG):cH:=⟨2,y.aF,0,0,0,0,0,0,0,0,0,0,0⟩
def bV (y:aG) (c:Int):Int:=if jw y c=2\/jw y c=5 then y.pos+1 else y.aF
def dm (y:aG) (c:Int):Bool:=if jw y c=2\/jw y c=5 then false else if jw y c=3 then true else y.aO
def D7 (y:aG):Bool:=HF y (pD y)
def mf (f:aZ) (y:aG) (c:Int):Int:=match f with
 | .o=>if jw y c=2/\D7 y=false then y.aF else y.aK
 | _=>y.aF
def kx (f:aZ) (y:aG) (c:Int):Int:=match f with
 | .o=>if jw y c=2 then(if D7 y=true then y.size+(1+pD y) else pD y) else y.size
 | _=>pD y
def mg (f:aZ) (y:aG) (c:Int):List db:=match f with
 | .o=>if jw y c=2 then(if D7 y=true then hV y.bg else hV y.ax) else y.aL
 | _=>hV y.ax
def DD (f:aZ) (y:aG):im:=match f with
 | .o=>if D7 y=true then bS y.ax else bS (jm y.ax 10)
 | .c=>bS (jm y.ax 10)
 | _=>bS y.ax
def iN (f:aZ) (y:aG) (c:Int):im:=lk (if jw y c=1 then jm y.ax c else if jw y c=2 then DD f y else if jw y c=3\/jw y c=5 then bS y.ax else y.ax)
def iq (y:aG) (c:Int):im:=lk (if jw y c=1 then jm y.aT c else if jw y c=2\/jw y c=3\/jw y c=5 then bS y.aT else y.aT)
def ky (f:aZ) (y:aG) (c:Int):im:=lk (match f with
 | .o=>if jw y c=1 then jm y.bg c else if jw y c=2 then(if D7 y=true then jm y.bg 10 else jm y.ax 10) else y.bg
 | _=>jm y.ax 10)
def pj (f:aZ) (y:aG):List cH:=match f with
 | .n=>fj y.aF (hV y.ax)
 | .o=>if D7 y=true then[] else fj y.aK y.aL
 | _=>[]
def fC (f:aZ) (y:aG) (c:Int):List cH:=lk (if jw y c=2 then pj f y else if jw y c=3 then(match f with
 | .o=>fj y.aK y.aL++[tN y]
 | _=>[tN y]) else[])
def oS (f:aZ) (y:aG) (c:Int):aG:=⟨y.ru,y.pos+1,bV y c,mf f y c,kx f y c,dm y c,mg f y c,iN f y c,iq y c,ky f y c⟩
def bjO (f:aZ) (y:aG):List (Nat×ir D):=[(7,⟨Unit,[0,1],λ_=>[(5,.int .i64 (pD y))],kpN f,λ_=>[],25,λ_=>True,λ_=>0⟩)]
def Qnb (y:aG×Int):Prop:=wo .n y.1
def M8:bp D:=⟨16,aG×Int,GF .n,Qnb,λy=>[.ptr 3 0,.int .u8 y.2],λy=>fa .n 4 y.1,λy=>.list 4 (fC .n y.1 y.2),λy=>fa .n 25 (oS .n y.1 y.2),25,46⟩
def fk (f:aZ) (y:aG) (c:Int):Bool:=match f with
 | .o=>decide (jw y c≠3)
 | _=>decide (jw y c=2)
def qw (f:aZ) (y:(aG×Int)×Bool):Prop:=wo f y.1.1/\y.2=fk f y.1.1 y.1.2
def rL (f:aZ):bp D:=⟨16,(aG×Int)×Bool,QeY (fk f) f,qw f,λy=>[.ptr 3 0,.int .u8 y.1.2],λy=>fa f 4 y.1.1,λy=>.list 4 (fC f y.1.1 y.1.2),λy=>match y.2 with
 | true=>fa .o 25 (oS f y.1.1 y.1.2)
 | false=>fa .c 25 (oS f y.1.1 y.1.2),25,46⟩
def QeZ (y:(rL .c).Y):dj D:=⟨[],[],[],bjO .c y.1.1,1,[]⟩
def Qe0 (y:(rL .o).Y):dj D:=⟨[],[],[],bjO .o y.1.1,1,[]⟩
def Kb (y:aG×Int):Prop:=let a:=pD y.1;let q1:=dm y.1 y.2;let c:=fC aZ.n y.1 y.2;let d:=iN aZ.n y.1 y.2;let h:=Ff.mk a y.1.aO;let b:=ay .i64 y.1.pos 1;let e:=II h y.2;let f:=aG.mk y.1.ru b y.1.aF 0 0 y.1.aO [] y.1.ax fl fl;let i:=([cH.mk 2 y.1.aF 0 0 0 0 0 0 0 0 0 0 0]:List cH);let g:=λp:Prop=>RAQ b y.1.aF y.1.aO p;let u:=dV y.1.ru (b=(y.1.pos+1)/\b=bV y.1 y.2/\false=q1/\fb (bS y.1.ax) d (True));let A:=dV y.1.ru (nY y.1 (iM y.1.ax ((Iv True))));RAP y.1.pos y.1.aF ((aj y.1.aO (∃z:Unit,aa [y.2] (0=a/\A)) (∃z:Unit,aa [y.2] (dE .i64 y.1.pos y.1.aF=a/\A)))/\(∀x:Unit,(Iv True)->Iv (0<=a/\a<=200/\((h.l)->a=0))/\aa [a] (aa [y.1.aO] (Iv (0<=a/\a<=200)/\aa [y.2,a] (aa [y.1.aO] (aj (aE e 1) (Iv (yJ y.1.ax)/\aa [y.2] (bC y.1.ax ([]=c/\dV y.1.ru (b=(y.1.pos+1)/\y.1.aF=bV y.1 y.2/\y.1.aO=q1/\fb (jm y.1.ax y.2) d (True))))) (aj (aE e 2) (Iv (P2 aZ.n (f,a))/\aa [a] (dN y.1.ru (g (bC y.1.ax (cJ y.1.ru (Iv (lW aZ.n f)/\dN y.1.ru (g (bC y.1.ax (cJ y.1.ru (fj y.1.aF (hV y.1.ax)=c/\u)))))))))) (aj (aE e 3) (Iv (tM f)/\dN y.1.ru (g (bC y.1.ax (cJ y.1.ru (ba (ab i) 104/\aa [y.1.aF,y.1.aF] (Iv (lW aZ.n (aG.mk y.1.ru b y.1.aF 0 0 true [] y.1.ax fl fl))/\dN y.1.ru (aa [b,y.1.aF] (Tt 1 (bC y.1.ax (cJ y.1.ru (i=c/\dV y.1.ru (b=(y.1.pos+1)/\y.1.aF=bV y.1 y.2/\true=q1/\fb (bS y.1.ax) d (True))))))))))))) (aj (aE e 5) (Iv (lW aZ.n f)/\dN y.1.ru (g (bC y.1.ax (cJ y.1.ru ([]=c/\u))))) ([]=c/\dV y.1.ru (b=(y.1.pos+1)/\y.1.aF=bV y.1 y.2/\y.1.aO=q1/\fb y.1.ax d (True))))))))))))
def DE (y:aG×Int):Prop:=let b:=pD y.1;let q1:=hV y.1.ax;let f:=dm y.1 y.2;let g:=fC aZ.c y.1 y.2;let h:=jm y.1.ax 10;let d:=ay .i64 y.1.pos 1;let i:=II (Ff.mk b y.1.aO) y.2;let j:=aG.mk y.1.ru d y.1.aF 0 0 y.1.aO [] y.1.ax y.1.aT fl;let m:=([cH.mk 2 y.1.aF 0 0 0 0 0 0 0 0 0 0 0]:List cH);let k:=λp:Prop=>RAQ d y.1.aF y.1.aO p;let e:Prop:=([]=g/\dV y.1.ru (d=(y.1.pos+1)/\y.1.aF=bV y.1 y.2/\y.1.aO=f/\False));let u:=dV y.1.ru (nY y.1 (iM y.1.ax (iM y.1.aT ((Iv True)))));RAP y.1.pos y.1.aF ((aj y.1.aO (∃z:Unit,aa [y.2] (0=b/\u)) (∃z:Unit,aa [y.2] (dE .i64 y.1.pos y.1.aF=b/\u)))/\(∀x:Unit,(Iv True)->Iv (0<=b/\b<=200/\(((Ff.mk (pD (y,true).1.1) (y,true).1.1.aO).l)->b=0))/\aa [b] (aa [y.1.aO] (Iv (0<=b/\b<=200)/\aa [y.2,b] (aa [y.1.aO] (aj (aE i 1) (Iv (yJ y.1.ax)/\aa [y.2] (bC y.1.ax (Iv (yJ y.1.aT)/\aa [y.2] (bC y.1.aT (e))))) (aj (aE i 2) (Iv (P2 aZ.c (j,b))/\aa [b] (dN y.1.ru (k (bC y.1.aT (bC y.1.ax (cJ y.1.ru (Iv (lW aZ.a (aG.mk y.1.ru d y.1.aF y.1.aF b y.1.aO q1 h y.1.aT fl))/\dN y.1.ru (aa [d,y.1.aF] (aa [y.1.aO] (aa [y.1.aF,b] (aa [q1] (bC y.1.aT (bC h (cJ y.1.ru ([]=g/\dV y.1.ru (d=(y.1.pos+1)/\d=bV y.1 y.2/\false=f/\y.1.aF=mf aZ.c y.1 y.2/\b=kx aZ.c y.1 y.2/\q1=mg aZ.c y.1 y.2/\fb (bS y.1.aT) (iq y.1 y.2) (fb (bS h) (iN aZ.c y.1 y.2) (fb h (ky aZ.c y.1 y.2) (True))))))))))))))))))) (aj (aE i 3) (Iv (tM j)/\dN y.1.ru (k (bC y.1.aT (bC y.1.ax (cJ y.1.ru (ba (ab m) 104/\aa [y.1.aF,y.1.aF] (Iv (lW aZ.c (aG.mk y.1.ru d y.1.aF 0 0 true [] y.1.ax y.1.aT fl))/\dN y.1.ru (aa [d,y.1.aF] (Tt 1 (bC y.1.aT (bC y.1.ax (cJ y.1.ru (m=g/\dV y.1.ru (d=(y.1.pos+1)/\y.1.aF=bV y.1 y.2/\true=f/\False)))))))))))))) (aj (aE i 5) (Iv (lW aZ.c j)/\dN y.1.ru (k (bC y.1.aT (bC y.1.ax (cJ y.1.ru ([]=g/\dV y.1.ru (d=(y.1.pos+1)/\d=bV y.1 y.2/\false=f/\False))))))) (e))))))))))
def DF (y:aG×Int):Prop:=let b:=pD y.1;let q1:=hV y.1.ax;let f:=dm y.1 y.2;let h:=iq y.1 y.2;let i:=iN aZ.c y.1 y.2;let g:=fC aZ.c y.1 y.2;let d:=ay .i64 y.1.pos 1;let j:=II (Ff.mk b y.1.aO) y.2;let k:=aG.mk y.1.ru d y.1.aF 0 0 y.1.aO [] y.1.ax y.1.aT fl;let m:=([cH.mk 2 y.1.aF 0 0 0 0 0 0 0 0 0 0 0]:List cH);let e:=λp:Prop=>RAQ d y.1.aF y.1.aO p;let u:=dV y.1.ru (nY y.1 (iM y.1.ax (iM y.1.aT ((Iv True)))));let A:=fb (bS y.1.aT) h (fb (bS y.1.ax) i (True));RAP y.1.pos y.1.aF ((aj y.1.aO (∃z:Unit,aa [y.2] (0=b/\u)) (∃z:Unit,aa [y.2] (dE .i64 y.1.pos y.1.aF=b/\u)))/\(∀x:Unit,(Iv True)->Iv (0<=b/\b<=200/\(((Ff.mk (pD (y,false).1.1) (y,false).1.1.aO).l)->b=0))/\aa [b] (aa [y.1.aO] (Iv (0<=b/\b<=200)/\aa [y.2,b] (aa [y.1.aO] (aj (aE j 1) (Iv (yJ y.1.ax)/\aa [y.2] (bC y.1.ax (Iv (yJ y.1.aT)/\aa [y.2] (bC y.1.aT ([]=g/\dV y.1.ru (d=(y.1.pos+1)/\y.1.aF=bV y.1 y.2/\y.1.aO=f/\fb (jm y.1.aT y.2) h (fb (jm y.1.ax y.2) i (True)))))))) (aj (aE j 2) (Iv (P2 aZ.c (k,b))/\aa [b] (dN y.1.ru (e (bC y.1.aT (bC y.1.ax (cJ y.1.ru (Iv (lW aZ.a (aG.mk y.1.ru d y.1.aF y.1.aF b y.1.aO q1 (jm y.1.ax 10) y.1.aT fl))/\dN y.1.ru (aa [d,y.1.aF] (aa [y.1.aO] (aa [y.1.aF,b] (aa [q1] (bC y.1.aT (bC (jm y.1.ax 10) (cJ y.1.ru ([]=g/\dV y.1.ru (d=(y.1.pos+1)/\d=bV y.1 y.2/\false=f/\False)))))))))))))))) (aj (aE j 3) (Iv (tM k)/\dN y.1.ru (e (bC y.1.aT (bC y.1.ax (cJ y.1.ru (ba (ab m) 104/\aa [y.1.aF,y.1.aF] (Iv (lW aZ.c (aG.mk y.1.ru d y.1.aF 0 0 true [] y.1.ax y.1.aT fl))/\dN y.1.ru (aa [d,y.1.aF] (Tt 1 (bC y.1.aT (bC y.1.ax (cJ y.1.ru (m=g/\dV y.1.ru (d=(y.1.pos+1)/\y.1.aF=bV y.1 y.2/\true=f/\A)))))))))))))) (aj (aE j 5) (Iv (lW aZ.c k)/\dN y.1.ru (e (bC y.1.aT (bC y.1.ax (cJ y.1.ru ([]=g/\dV y.1.ru (d=(y.1.pos+1)/\d=bV y.1 y.2/\false=f/\A))))))) ([]=g/\dV y.1.ru (d=(y.1.pos+1)/\y.1.aF=bV y.1 y.2/\y.1.aO=f/\fb y.1.aT h (fb y.1.ax i (True)))))))))))))
def DG (y:aG×Int):Prop:=let d:=pD y.1;let q1:=hV y.1.ax;let A:=bS y.1.aT;let B:=hV y.1.bg;let t:=iq y.1 y.2;let n:=dm y.1 y.2;let u:=ky aZ.o y.1 y.2;let v:=mf aZ.o y.1 y.2;let q:=fC aZ.o y.1 y.2;let w:=kx aZ.o y.1 y.2;let e:=iN aZ.o y.1 y.2;let f:=mg aZ.o y.1 y.2;let r:=fj y.1.aK y.1.aL;let m:=jm y.1.bg 10;let i:=jm y.1.ax 10;let b:=ay .i64 y.1.pos 1;let j:=II (Ff.mk d y.1.aO) y.2;let g:=aG.mk y.1.ru b y.1.aF y.1.aK y.1.size y.1.aO y.1.aL y.1.ax y.1.aT y.1.bg;let s:=bn r [cH.mk 2 y.1.aF 0 0 0 0 0 0 0 0 0 0 0];let h:=λp:Prop=>RAO y.2 p;let k:=λp:Prop=>RAQ b y.1.aF y.1.aO (RAE y.1 p);let F:=dV y.1.ru (rq y.1 (iM y.1.ax (iM y.1.aT (iM y.1.bg ((Iv True))))));RAP y.1.pos y.1.aF ((aj y.1.aO (∃z:Unit,h (0=d/\F)) (∃z:Unit,h (dE .i64 y.1.pos y.1.aF=d/\F)))/\(∀x:Unit,(Iv True)->Iv (0<=d/\d<=200/\(((Ff.mk (pD (y,true).1.1) (y,true).1.1.aO).l)->d=0))/\aa [d] (aa [y.1.aO] (Iv (0<=d/\d<=200)/\aa [y.2,d] (aa [y.1.aO] (aj (aE j 1) (Iv (yJ y.1.ax)/\h (bC y.1.ax (Iv (yJ y.1.aT)/\h (bC y.1.aT (Iv (yJ y.1.bg)/\h (bC y.1.bg ([]=q/\dV y.1.ru (b=(y.1.pos+1)/\y.1.aF=bV y.1 y.2/\y.1.aO=n/\y.1.aK=v/\y.1.size=w/\y.1.aL=f/\fb (jm y.1.aT y.2) t (fb (jm y.1.ax y.2) e (fb (jm y.1.bg y.2) u (True))))))))))) (aj (aE j 2) (aj (HF g d) (Iv (yZ ((g,d),true))/\aa [d] (dN y.1.ru (k (bC y.1.aT (bC y.1.ax (bC y.1.bg (cJ y.1.ru (Iv (lW aZ.o (aG.mk y.1.ru b y.1.aF y.1.aK (y.1.size+(1+d)) y.1.aO B y.1.ax y.1.aT m))/\dN y.1.ru (aa [b,y.1.aF] (aa [y.1.aO] (aa [y.1.aK,y.1.size+(1+d)] (aa [B] (bC y.1.aT (bC y.1.ax (bC m (cJ y.1.ru ([]=q/\dV y.1.ru (b=(y.1.pos+1)/\b=bV y.1 y.2/\false=n/\y.1.aK=v/\(y.1.size+(1+d))=w/\B=f/\fb A t (fb (bS y.1.ax) e (fb m u (True))))))))))))))))))))) (Iv (yZ ((g,d),false))/\aa [d] (dN y.1.ru (k (bC y.1.aT (bC y.1.ax (bC y.1.bg (cJ y.1.ru (Iv (lW aZ.a (aG.mk y.1.ru b y.1.aF y.1.aF d y.1.aO q1 i y.1.aT fl))/\dN y.1.ru (aa [b,y.1.aF] (aa [y.1.aO] (aa [y.1.aF,d] (aa [q1] (bC y.1.aT (bC i (cJ y.1.ru (r=q/\dV y.1.ru (b=(y.1.pos+1)/\b=bV y.1 y.2/\false=n/\y.1.aF=v/\d=w/\q1=f/\fb A t (fb (bS i) e (fb i u (True))))))))))))))))))))) (aj (aE j 3) (Iv (tM g)/\dN y.1.ru (k (bC y.1.aT (bC y.1.ax (bC y.1.bg (cJ y.1.ru (ba (ab s) 104/\aa [y.1.aF,y.1.aF] (Iv (lW aZ.c (aG.mk y.1.ru b y.1.aF 0 0 true [] y.1.ax y.1.aT fl))/\dN y.1.ru (aa [b,y.1.aF] (Tt 1 (bC y.1.aT (bC y.1.ax (cJ y.1.ru (s=q/\dV y.1.ru (b=(y.1.pos+1)/\y.1.aF=bV y.1 y.2/\true=n/\False))))))))))))))) (aj (aE j 5) (Iv (lW aZ.o g)/\dN y.1.ru (k (bC y.1.aT (bC y.1.ax (bC y.1.bg (cJ y.1.ru ([]=q/\dV y.1.ru (b=(y.1.pos+1)/\b=bV y.1 y.2/\false=n/\y.1.aK=v/\y.1.size=w/\y.1.aL=f/\fb A t (fb (bS y.1.ax) e (fb y.1.bg u (True))))))))))) ([]=q/\dV y.1.ru (b=(y.1.pos+1)/\y.1.aF=bV y.1 y.2/\y.1.aO=n/\y.1.aK=v/\y.1.size=w/\y.1.aL=f/\fb y.1.aT t (fb y.1.ax e (fb y.1.bg u (True))))))))))))))
def DH (y:aG×Int):Prop:=let b:=pD y.1;let q1:=hV y.1.ax;let m:=hV y.1.bg;let h:=dm y.1 y.2;let i:=fC aZ.o y.1 y.2;let n:=fj y.1.aK y.1.aL;let d:=ay .i64 y.1.pos 1;let k:=II (Ff.mk b y.1.aO) y.2;let j:=aG.mk y.1.ru d y.1.aF y.1.aK y.1.size y.1.aO y.1.aL y.1.ax y.1.aT y.1.bg;let q:=bn n [cH.mk 2 y.1.aF 0 0 0 0 0 0 0 0 0 0 0];let f:=λp:Prop=>RAQ d y.1.aF y.1.aO (RAE y.1 p);let e:=λp:Prop=>RAO y.2 p;let g:Prop:=([]=i/\dV y.1.ru (d=(y.1.pos+1)/\y.1.aF=bV y.1 y.2/\y.1.aO=h/\False));let u:=dV y.1.ru (d=(y.1.pos+1)/\d=bV y.1 y.2/\false=h/\False);let A:=dV y.1.ru (rq y.1 (iM y.1.ax (iM y.1.aT (iM y.1.bg ((Iv True))))));RAP y.1.pos y.1.aF ((aj y.1.aO (∃z:Unit,e (0=b/\A)) (∃z:Unit,e (dE .i64 y.1.pos y.1.aF=b/\A)))/\(∀x:Unit,(Iv True)->Iv (0<=b/\b<=200/\(((Ff.mk (pD (y,false).1.1) (y,false).1.1.aO).l)->b=0))/\aa [b] (aa [y.1.aO] (Iv (0<=b/\b<=200)/\aa [y.2,b] (aa [y.1.aO] (aj (aE k 1) (Iv (yJ y.1.ax)/\e (bC y.1.ax (Iv (yJ y.1.aT)/\e (bC y.1.aT (Iv (yJ y.1.bg)/\e (bC y.1.bg (g))))))) (aj (aE k 2) (aj (HF j b) (Iv (yZ ((j,b),true))/\aa [b] (dN y.1.ru (f (bC y.1.aT (bC y.1.ax (bC y.1.bg (cJ y.1.ru (Iv (lW aZ.o (aG.mk y.1.ru d y.1.aF y.1.aK (y.1.size+(1+b)) y.1.aO m y.1.ax y.1.aT (jm y.1.bg 10)))/\dN y.1.ru (aa [d,y.1.aF] (aa [y.1.aO] (aa [y.1.aK,y.1.size+(1+b)] (aa [m] (bC y.1.aT (bC y.1.ax (bC (jm y.1.bg 10) (cJ y.1.ru ([]=i/\u))))))))))))))))) (Iv (yZ ((j,b),false))/\aa [b] (dN y.1.ru (f (bC y.1.aT (bC y.1.ax (bC y.1.bg (cJ y.1.ru (Iv (lW aZ.a (aG.mk y.1.ru d y.1.aF y.1.aF b y.1.aO q1 (jm y.1.ax 10) y.1.aT fl))/\dN y.1.ru (aa [d,y.1.aF] (aa [y.1.aO] (aa [y.1.aF,b] (aa [q1] (bC y.1.aT (bC (jm y.1.ax 10) (cJ y.1.ru (n=i/\u))))))))))))))))) (aj (aE k 3) (Iv (tM j)/\dN y.1.ru (f (bC y.1.aT (bC y.1.ax (bC y.1.bg (cJ y.1.ru (ba (ab q) 104/\aa [y.1.aF,y.1.aF] (Iv (lW aZ.c (aG.mk y.1.ru d y.1.aF 0 0 true [] y.1.ax y.1.aT fl))/\dN y.1.ru (aa [d,y.1.aF] (Tt 1 (bC y.1.aT (bC y.1.ax (cJ y.1.ru (q=i/\dV y.1.ru (d=(y.1.pos+1)/\y.1.aF=bV y.1 y.2/\true=h/\fb (bS y.1.aT) (iq y.1 y.2) (fb (bS y.1.ax) (iN aZ.o y.1 y.2) (True))))))))))))))))) (aj (aE k 5) (Iv (lW aZ.o j)/\dN y.1.ru (f (bC y.1.aT (bC y.1.ax (bC y.1.bg (cJ y.1.ru ([]=i/\u))))))) (g))))))))))
theorem fF (s:im) (p:Prop):fb s s p=p:=W_ rfl
theorem Qe1 (c:Int) (h:yJ s):(jm s c).v.p=s.v.p/\(jm s c).v.L.length=s.v.L.length:=by
 have e:jm s c=_:=az _;have f:=oH h.2.2 (l:=(t_ s.d c).2) _ (Zah _);have a:=Ka h.2.2 (l:=(t_ s.d c).2) _ (Zah _);rw[ZaM] at f a;rw[e];refine⟨a,?_⟩;have b:=f.2.1;rw[a] at b;exact b.symm.trans h.2.2.2.1
def yJ.M9 (h:yJ s):uJ s:=⟨by have:=h.2.2.1.1.2.2.1;omega,by have:=h.2.2.2.1;have:=h.2.2.1.2.1;omega⟩
def M_ (c:Int) (h:yJ s):uJ (jm s c):=by
 unfold uJ;rw[(Qe1 c h).1];exact h.M9
theorem BU {f:aZ} (h:wo f y):0<=pD y/\pD y<=200/\(y.aO->pD y=0)/\(y.aO=false->dE .i64 y.pos y.aF=pD y)/\ay .i64 y.pos 1=y.pos+1:=by
 obtain⟨_,h1,a,b,c⟩:=h;grind [pD]
def kd1 (h:jw y c=1):bV y c=y.aF/\dm y c=y.aO/\iq y c=jm y.aT c/\(∀f,iN f y c=jm y.ax c)/\(∀f,fC f y c=[])/\ky .o y c=jm y.bg c/\mf .o y c=y.aK/\kx .o y c=y.size/\mg .o y c=y.aL/\fk .c y c=false/\fk .o y c:=by
 simp[bV,dm,iq,iN,fC,ky,mf,kx,mg,fk,az,h]
def kd2 (h:jw y c=2):bV y c=y.pos+1/\dm y c=false/\iq y c=bS y.aT/\(∀f,iN f y c=DD f y)/\(∀f,fC f y c=pj f y)/\ky .o y c=(if D7 y=true then jm y.bg 10 else jm y.ax 10)/\mf .o y c=(if D7 y=false then y.aF else y.aK)/\kx .o y c=(if D7 y=true then y.size+(1+pD y) else pD y)/\mg .o y c=(if D7 y=true then hV y.bg else hV y.ax)/\fk .c y c/\fk .o y c:=by
 simp[bV,dm,iq,iN,fC,ky,mf,kx,mg,fk,az,h]
def kd3 (h:jw y c=3):bV y c=y.aF/\dm y c/\iq y c=bS y.aT/\(∀f,iN f y c=bS y.ax)/\fC .n y c=[tN y]/\fC .c y c=[tN y]/\fC .o y c=fj y.aK y.aL++[tN y]/\fk .c y c=false/\fk .o y c=false:=by
 simp[bV,dm,iq,iN,fC,fk,az,h]
def kd5 (h:jw y c=5):bV y c=y.pos+1/\dm y c=false/\iq y c=bS y.aT/\(∀f,iN f y c=bS y.ax)/\(∀f,fC f y c=[])/\ky .o y c=y.bg/\mf .o y c=y.aK/\kx .o y c=y.size/\mg .o y c=y.aL/\fk .c y c=false/\fk .o y c:=by
 simp[bV,dm,iq,iN,fC,ky,mf,kx,mg,fk,az,h]
theorem kd4 (h1:jw y c≠1) (a:jw y c≠2) (b:jw y c≠3) (d:jw y c≠5):bV y c=y.aF/\dm y c=y.aO/\iq y c=y.aT/\(∀f,iN f y c=y.ax)/\(∀f,fC f y c=[])/\ky .o y c=y.bg/\mf .o y c=y.aK/\kx .o y c=y.size/\mg .o y c=y.aL/\fk .c y c=false/\fk .o y c:=by
 simp[bV,dm,iq,iN,fC,ky,mf,kx,mg,fk,az,h1,a,b,d]
theorem Qnh (x:cH):ba (ab [x]) 104:=by grind
theorem Qni (y:aG) (c:Int) (i:wo .n y):Kb (y,c):=by
 obtain⟨f,g,j,l,m⟩:=BU i;obtain⟨⟨q1,_⟩,_⟩:=i;have hk:II ⟨pD y,y.aO⟩ c=jw y c:=rfl;have e:=q1.1.M9;unfold Kb;simp only[bj,cD,cP,cF,ZaZ,ZaY,ZaX,hk,m,ib,iA];refine⟨⟨λh=>(j h).symm,l⟩,⟨f,g,j⟩,⟨f,g⟩,λk=>?_,λk1=>⟨λk=>?_,λk2=>⟨λk=>?_,λk3=>⟨λk=>?_,λk5=>?_⟩⟩⟩⟩
 ·obtain⟨b1,a,_,b,d,_⟩:=kd1 k;simp only[b1,a,b,d,fF,Zai];exact q1.1
 ·obtain⟨b1,a,_,b,d,_⟩:=kd2 k;simp only[b1,a,b,d,DD,pj,fF,Zai];exact⟨⟨⟨q1,nofun,nofun⟩,f,g⟩,e,nofun⟩
 ·obtain⟨b1,a,_,b,d,_⟩:=kd3 k;simp only[b1,a,b,d,fF,Zai];exact⟨Zaj _,Qnh _,⟨e,nofun⟩,rfl⟩
 ·obtain⟨b1,a,_,b,d,_⟩:=kd5 k;simp only[b1,a,b,d,fF,Zai];exact⟨e,nofun⟩
 ·grind [kd4,fF]
def QhQ:Ok M8:=okZ (V:=Kb) [Fh,Fi,yK,M7,mS .n,mc .n,mR .n] f16 (λy=>⟨[],[],[],bjO .n (Prod.fst y),1,[]⟩) ⟨Tk,Tm,FV,QhH,QhA,W8,W4⟩ λ(y:aG×Int) a=>Qni y.1 y.2 a
def QhR (y:aG×Int) (n:qw .c (y,true)):DE y:=by
 obtain⟨y,c⟩:=y;obtain⟨f,a⟩:=n;obtain⟨d,e,g,o,p⟩:=BU f;obtain⟨⟨q1,b,_⟩,_⟩:=f;obtain⟨b,q⟩:=b rfl;have hk:II ⟨pD y,y.aO⟩ c=jw y c:=rfl;have a:true=fk .c y c:=a;unfold DE;simp only[bj,cD,cP,cF,ZaZ,ZaY,ZaX,hk,p,ib,iA];refine⟨⟨λh=>(g h).symm,o⟩,⟨d,e,g⟩,⟨d,e⟩,λk=>?_,λk1=>⟨λk=>?_,λk2=>⟨λk=>?_,λk3=>⟨λk=>?_,λk5=>?_⟩⟩⟩⟩
 ·exact absurd (a.trans (kd1 k).2.2.2.2.2.2.2.2.2.1) nofun
 ·obtain⟨b1,i,j,l,m,_⟩:=kd2 k;simp only[b1,i,j,l,m,DD,pj,mf,kx,mg,ky,az,fF,Zai];exact⟨⟨⟨q1,λ_=>⟨b,q⟩,nofun⟩,d,e⟩,M_ 10 q1.1,λ_=>b.1.M9⟩
 ·exact absurd (a.trans (kd3 k).2.2.2.2.2.2.2.1) nofun
 ·exact absurd (a.trans (kd5 k).2.2.2.2.2.2.2.2.2.1) nofun
 ·exact absurd (a.trans (kd4 k1 k2 k3 k5).2.2.2.2.2.2.2.2.2.1) nofun
theorem QhS (y:aG×Int) (n:qw .c (y,false)):DF y:=by
 obtain⟨y,c⟩:=y;obtain⟨i,g⟩:=n;obtain⟨j,l,m,o,p⟩:=BU i;obtain⟨⟨q1,f,_⟩,_⟩:=i;obtain⟨f,q⟩:=f rfl;have hk:II ⟨pD y,y.aO⟩ c=jw y c:=rfl;have g:false=fk .c y c:=g;unfold DF;simp only[bj,cD,cP,cF,ZaZ,ZaY,ZaX,hk,p,ib,iA];refine⟨⟨λh=>(m h).symm,o⟩,⟨j,l,m⟩,⟨j,l⟩,λk=>?_,λk1=>⟨λk=>?_,λk2=>⟨λk=>?_,λk3=>⟨λk=>?_,λk5=>?_⟩⟩⟩⟩
 ·obtain⟨b1,a,b,d,e,_⟩:=kd1 k;simp only[b1,a,b,d,e,fF,Zai];exact⟨q1.1,f.1⟩
 ·exact absurd (g.trans (kd2 k).2.2.2.2.2.2.2.2.2.1) nofun
 ·obtain⟨b1,a,b,d,_,e,_⟩:=kd3 k;simp only[b1,a,b,d,e,fF,Zai];exact⟨Zaj _,Qnh _,⟨q1.1.M9,λ_=>f.1.M9⟩,rfl⟩
 ·obtain⟨b1,a,b,d,e,_⟩:=kd5 k;simp only[b1,a,b,d,e,fF,Zai];exact⟨q1.1.M9,λ_=>f.1.M9⟩
 ·grind [kd4,fF]
def Xf:Ok (rL .c):=QyR (k:=rL .c) (T:=DE) (F:=DF) [Fh,Fi,yK,GJ,mS .c,mS .a,mc .c,mR .c] f16 QeZ id id (λ_=>rfl) ⟨Tk,Tm,FV,QhI,QhB,W5,W9,J_⟩ QhR QhS
theorem QhT (y:aG×Int) (w:qw .o (y,true)):DG y:=by
 obtain⟨y,c⟩:=y;obtain⟨t,q⟩:=w;obtain⟨m,n,u,x,z⟩:=BU t;obtain⟨⟨q1,l,v⟩,_⟩:=t;have s:QhE .o y:=⟨q1,l,v⟩;obtain⟨l,B⟩:=l rfl;obtain⟨A,C,D,E⟩:=v rfl;have hk:II ⟨pD y,y.aO⟩ c=jw y c:=rfl;have q:true=fk .o y c:=q;have r:∀p,HF ⟨y.ru,p,y.aF,y.aK,y.size,y.aO,y.aL,y.ax,y.aT,y.bg⟩ (pD y)=D7 y:=λ_=>rfl
 unfold DG;simp only[bj,cD,cP,cF,ZaZ,ZaY,ZaX,hk,z,ib,iA,r];refine⟨⟨λh=>(u h).symm,x⟩,⟨m,n,u⟩,⟨m,n⟩,λk=>?_,λk1=>⟨λk=>⟨λg=>?_,λg=>?_⟩,λk2=>⟨λk=>?_,λk3=>⟨λk=>?_,λk5=>?_⟩⟩⟩⟩
 ·obtain⟨b1,a,b,d,e,f,i,b8,j,_⟩:=kd1 k;simp only[b1,a,b,d,e,f,i,b8,j,fF,Zai];exact⟨q1.1,l.1,A.1⟩
 ·obtain⟨b1,a,b,d,e,f,i,b8,j,_⟩:=kd2 k;simp only[b1,a,b,d,e,f,i,b8,j,g,Zbv,DD,pj,fF,Zai,Zb0,Za0];exact⟨⟨⟨s,m,n⟩,g.symm⟩,q1.1.M9,λ_=>l.1.M9⟩
 ·obtain⟨b1,a,b,d,e,f,i,b8,j,_⟩:=kd2 k;simp only[b1,a,b,d,e,f,i,b8,j,g,Zbv,DD,pj,fF,Zai,ZaE,Za0];exact⟨⟨⟨s,m,n⟩,g.symm⟩,M_ 10 q1.1,λ_=>l.1.M9⟩
 ·exact absurd (q.trans (kd3 k).2.2.2.2.2.2.2.2) nofun
 ·obtain⟨b1,a,b,d,e,f,i,b8,j,_⟩:=kd5 k;simp only[b1,a,b,d,e,f,i,b8,j,fF,Zai];exact⟨q1.1.M9,λ_=>l.1.M9⟩
 ·grind [kd4,fF]
theorem QhU (y:aG×Int) (q:qw .o (y,false)):DH y:=by
 obtain⟨y,c⟩:=y;obtain⟨d,a⟩:=q;obtain⟨e,f,g,r,s⟩:=BU d;obtain⟨⟨q1,b,t⟩,_⟩:=d;obtain⟨b,u⟩:=b rfl;obtain⟨v,i,w,x⟩:=t rfl;have hk:II ⟨pD y,y.aO⟩ c=jw y c:=rfl;have a:false=fk .o y c:=a;unfold DH;simp only[bj,cD,cP,cF,ZaZ,ZaY,ZaX,hk,s,ib,iA];refine⟨⟨λh=>(g h).symm,r⟩,⟨e,f,g⟩,⟨e,f⟩,λk=>?_,λk1=>⟨λk=>?_,λk2=>⟨λk=>?_,λk3=>⟨λk=>?_,λk5=>?_⟩⟩⟩⟩
 ·exact absurd (a.trans (kd1 k).2.2.2.2.2.2.2.2.2.2) nofun
 ·exact absurd (a.trans (kd2 k).2.2.2.2.2.2.2.2.2.2) nofun
 ·obtain⟨b1,j,l,m,_,_,n,_⟩:=kd3 k;have hl:(fj y.aK y.aL).length<=1000:=Zav (uU y.aK y.aL) i;have p:ba (ab (bn (fj y.aK y.aL) [tN y])) 104:=by grind
  simp only[b1,j,l,m,n,fF,Zai];exact⟨i,p,⟨q1.1.M9,λ_=>b.1.M9⟩,rfl⟩
 ·exact absurd (a.trans (kd5 k).2.2.2.2.2.2.2.2.2.2) nofun
 ·exact absurd (a.trans (kd4 k1 k2 k3 k5).2.2.2.2.2.2.2.2.2.2) nofun
def Xg:Ok (rL .o):=QyR (k:=rL .o) (T:=DG) (F:=DH) [Fh,Fi,yK,BS,mS .o,mS .a,mc .o,mR .c] f16 Qe0 id id (λ_=>rfl) ⟨Tk,Tm,FV,QhL,QhC,W5,W',J_⟩ QhT QhU
def wX (s:im) (N:Int):Prop:=0<=s.d.n/\s.d.n<=3/\(di s.d=[]\/gy (di s.d))/\Ub s.v N
def rM (f:aZ) (y:aG):Prop:=wX y.ax (16*y.pos)/\(PW f->wX y.aT (16*y.pos)/\0<y.aT.v.L.length)/\(f=.o->wX y.bg (16*y.pos)/\y.aL.length<=1000/\0<=y.size/\y.size<=500)/\0<=y.aF/\y.aF<=y.pos/\(y.aO=false->y.pos-y.aF<=200)
def sK (f:aZ) (y:aG) (c:Int):aZ:=match f with
 | .n=>.n
 | f=>bif fk f y c then .o else .c
def b5 (f:aZ) (y:aG) (b:By):Nat->aZ×aG×List cH
 | 0=>(f,y,[])
 | k+1=>(sK (b5 f y b k).1 (b5 f y b k).2.1 ((b.getD k 0).toNat:Int),oS (b5 f y b k).1 (b5 f y b k).2.1 ((b.getD k 0).toNat:Int),(b5 f y b k).2.2++fC (b5 f y b k).1 (b5 f y b k).2.1 ((b.getD k 0).toNat:Int))
def cZ (f:aZ) (y:aG) (b:By):aZ×aG×List cH:=lk (b5 f y b b.length)
theorem gH (f:aZ) (y:aG) (b:By):cZ f y b=b5 f y b b.length:=az _
def QhV (f:aZ) (a:List (AV D.E)) (s:St D.E):C (aG×By):=match a with
 | [p,b]=>aB (WA f p s) λy=>aB (aW D s 0 b) λb=>.ret (y,(b:By))
 | _=>.fail
def An (f:aZ) (y:aG×By):Prop:=rM f y.1/\y.2.length<=1000000/\y.1.pos+y.2.length<=100000000
def jC (r:mD) (y:aG):aG:=⟨r,y.pos,y.aF,y.aK,y.size,y.aO,y.aL,y.ax,y.aT,y.bg⟩
def QbE:bp D:=⟨9,aG×By,QhV .n,An .n,λy=>[.ptr 3 0,.list 0 y.2],λy=>fa .n 4 y.1,λy=>.list 4 (cZ .n y.1 y.2).2.2,λy=>fa .n 25 (jC y.1.ru (cZ .n y.1 y.2).2.1),25,46⟩
def fdL (f g:aZ) (y:aG×By):ir D:=⟨Nat,[0,8,9],λk=>[(5,.grow 4 (b5 f y.1 y.2 k).2.2 46),(10,.int .i64 k)],[],λk=>fa g 25 (jC y.1.ru (b5 f y.1 y.2 k).2.1)++[(46,.tok 4 54)],47,λk=>k<=y.2.length/\(b5 f y.1 y.2 k).1=g,λk=>y.2.length-k⟩
def sw (f:aZ) (y:aG) (b:By):Bool:=match (b5 f y b b.length).1 with
 | .o=>true
 | _=>false
def Qnk (f:aZ) (a:List (AV D.E)) (s:St D.E):C ((aG×By)×Bool):=aB (QhV f a s) λy=>.split (sw f y.1 y.2) (.ret (y,true)) (.ret (y,false))
def y2 (f:aZ) (y:(aG×By)×Bool):Prop:=An f y.1/\y.2=sw f y.1.1 y.1.2
def fdC:bp D:=⟨9,(aG×By)×Bool,Qnk .c,y2 .c,λy=>[.ptr 3 0,.list 0 y.1.2],λy=>fa .c 4 y.1.1,λy=>.list 4 (cZ .c y.1.1 y.1.2).2.2,λy=>match y.2 with
 | true=>fa .o 25 (jC y.1.1.ru (cZ .c y.1.1 y.1.2).2.1)
 | false=>fa .c 25 (jC y.1.1.ru (cZ .c y.1.1 y.1.2).2.1),25,46⟩
def Qnl (y:fdC.Y):dj D:=⟨[],[],[],[],1,[(58,⟨Unit,λ_=>fdL .c .c y.1,some (fdL .c .o y.1)⟩)]⟩
def QhX (y:aG×By):Prop:=An .o y/\sw .o y.1 y.2
def QbF:bp D:=⟨9,aG×By,QhV .o,QhX,λy=>[.ptr 3 0,.list 0 y.2],λy=>fa .o 4 y.1,λy=>.list 4 (cZ .o y.1 y.2).2.2,λy=>fa .o 25 (jC y.1.ru (cZ .o y.1 y.2).2.1),25,46⟩
def Qe2 (y:aG×(List UInt8)):Prop:=let g:=ab y.2;let q1:=y.2.length;let e:=(cZ aZ.n y.1 y.2).2;(∃z:Nat,let b:=b5 aZ.n y.1 y.2 z;aa [y.2] (aa [g] ([]=b.2.2/\0=(z:Int)/\dV y.1.ru (y.1.pos=b.2.1.pos/\y.1.aF=b.2.1.aF/\y.1.aO=b.2.1.aO/\fb y.1.ax b.2.1.ax ((Iv (z<=q1/\b.1=aZ.n)))))))/\(∀x:Nat,let a:=b5 aZ.n y.1 y.2 x;let c:=((gt 0 y.2 (x:Int).toNat).toNat:Int);let f:=aG.mk y.1.ru a.2.1.pos a.2.1.aF 0 0 a.2.1.aO [] a.2.1.ax fl fl;let h:=bn a.2.2 (fC aZ.n f c);(Iv (x<=q1/\a.1=aZ.n))->aj (aD (x:Int) g) (aM 0 (x:Int)/\aD (x:Int) g/\Iv (Qnb (f,c))/\aa [c] (dN y.1.ru (nY a.2.1 (bC a.2.1.ax (cJ y.1.ru (ba (ab h) 104/\∃z:Nat,let d:=b5 aZ.n y.1 y.2 z;aa [y.2] (aa [g] (h=d.2.2/\ay .i64 (x:Int) 1=(z:Int)/\dV y.1.ru ((a.2.1.pos+1)=d.2.1.pos/\bV f c=d.2.1.aF/\dm f c=d.2.1.aO/\fb (iN aZ.n f c) d.2.1.ax ((Iv ((z<=q1/\d.1=aZ.n)/\(q1-z)<(q1-x))))))))))))) (a.2.2=e.2/\dV y.1.ru (a.2.1.pos=e.1.pos/\a.2.1.aF=e.1.aF/\a.2.1.aO=e.1.aO/\fb a.2.1.ax e.1.ax (True))))
def Kc (y:aG×(List UInt8)):Prop:=let C:=ab y.2;let q1:=y.2.length;let k:=(cZ aZ.c y.1 y.2).2;let B:=λp:Prop=>aa [y.2] (aa [C] p);∃z:Unit,(∃J:Nat,let A:=b5 aZ.c y.1 y.2 J;B ([]=A.2.2/\0=(J:Int)/\dV y.1.ru (y.1.pos=A.2.1.pos/\y.1.aF=A.2.1.aF/\y.1.aO=A.2.1.aO/\fb y.1.aT A.2.1.aT (fb y.1.ax A.2.1.ax ((Iv (J<=q1/\A.1=aZ.c)))))))/\(∀x:Nat,let H:=b5 aZ.c y.1 y.2 x;let f:=((gt 0 y.2 (x:Int).toNat).toNat:Int);let j:=H.2.1;let i:=aG.mk y.1.ru j.pos j.aF 0 0 j.aO [] j.ax j.aT fl;let G:=bn H.2.2 (fC aZ.c i f);let D:Prop:=(∃e:Nat,let q:=(b5 aZ.c y.1 y.2 e).2;B (G=q.2/\ay .i64 (x:Int) 1=(e:Int)/\dV y.1.ru ((j.pos+1)=q.1.pos/\bV i f=q.1.aF/\dm i f=q.1.aO/\False)));(Iv (x<=q1/\H.1=aZ.c))->aj (aD (x:Int) C) (aM 0 (x:Int)/\aD (x:Int) C/\aj (fk aZ.c i f) (Iv (qw aZ.c ((i,f),true))/\aa [f] (dN y.1.ru (nY j (bC j.aT (bC j.ax (cJ y.1.ru (ba (ab G) 104/\((D)\/(∃e:Nat,let t:=b5 aZ.c y.1 y.2 e;let g:=t.2.1;B (G=t.2.2/\ay .i64 (x:Int) 1=(e:Int)/\dV y.1.ru ((j.pos+1)=g.pos/\bV i f=g.aF/\dm i f=g.aO/\mf aZ.c i f=g.aK/\kx aZ.c i f=g.size/\mg aZ.c i f=g.aL/\fb (iq i f) g.aT (fb (iN aZ.c i f) g.ax (fb (ky aZ.c i f) g.bg ((Iv ((e<=q1/\t.1=aZ.o)/\(q1-e)<(q1-x))))))))))))))))) (Iv (qw aZ.c ((i,f),false))/\aa [f] (dN y.1.ru (nY j (bC j.aT (bC j.ax (cJ y.1.ru (ba (ab G) 104/\((∃e:Nat,let u:=b5 aZ.c y.1 y.2 e;let l:=u.2.1;B (G=u.2.2/\ay .i64 (x:Int) 1=(e:Int)/\dV y.1.ru ((j.pos+1)=l.pos/\bV i f=l.aF/\dm i f=l.aO/\fb (iq i f) l.aT (fb (iN aZ.c i f) l.ax ((Iv ((e<=q1/\u.1=aZ.c)/\(q1-e)<(q1-x))))))))\/(D)))))))))) (H.2.2=k.2/\dV y.1.ru (j.pos=k.1.pos/\j.aF=k.1.aF/\j.aO=k.1.aO/\False)))/\(∀x:Nat,let r:=b5 aZ.c y.1 y.2 x;let b:=((gt 0 y.2 (x:Int).toNat).toNat:Int);let a:=r.2.1;let d:=aG.mk y.1.ru a.pos a.aF a.aK a.size a.aO a.aL a.ax a.aT a.bg;let I:=fk aZ.o d b;let E:=iN aZ.o d b;let m:=bn r.2.2 (fC aZ.o d b);let F:Prop:=(∃e:Nat,let s:=(b5 aZ.c y.1 y.2 e).2;B (m=s.2/\ay .i64 (x:Int) 1=(e:Int)/\dV y.1.ru ((a.pos+1)=s.1.pos/\bV d b=s.1.aF/\dm d b=s.1.aO/\False)));(Iv (x<=q1/\r.1=aZ.o))->aj (aD (x:Int) C) (aM 0 (x:Int)/\aD (x:Int) C/\aj I (Iv (qw aZ.o ((d,b),true))/\aa [b] (dN y.1.ru (rq a (bC a.aT (bC a.ax (bC a.bg (cJ y.1.ru (ba (ab m) 104/\((F)\/(∃e:Nat,let v:=b5 aZ.c y.1 y.2 e;let h:=v.2.1;B (m=v.2.2/\ay .i64 (x:Int) 1=(e:Int)/\dV y.1.ru ((a.pos+1)=h.pos/\bV d b=h.aF/\dm d b=h.aO/\mf aZ.o d b=h.aK/\kx aZ.o d b=h.size/\mg aZ.o d b=h.aL/\fb (iq d b) h.aT (fb E h.ax (fb (ky aZ.o d b) h.bg ((Iv ((e<=q1/\v.1=aZ.o)/\(q1-e)<(q1-x)))))))))))))))))) (Iv (qw aZ.o ((d,b),false))/\aa [b] (dN y.1.ru (rq a (bC a.aT (bC a.ax (bC a.bg (cJ y.1.ru (ba (ab m) 104/\((∃e:Nat,let w:=b5 aZ.c y.1 y.2 e;let n:=w.2.1;B (m=w.2.2/\ay .i64 (x:Int) 1=(e:Int)/\dV y.1.ru ((a.pos+1)=n.pos/\bV d b=n.aF/\dm d b=n.aO/\fb (iq d b) n.aT (fb E n.ax ((Iv ((e<=q1/\w.1=aZ.c)/\(q1-e)<(q1-x))))))))\/(F))))))))))) (r.2.2=k.2/\dV y.1.ru (a.pos=k.1.pos/\a.aF=k.1.aF/\a.aO=k.1.aO/\a.aK=k.1.aK/\a.size=k.1.size/\a.aL=k.1.aL/\fb a.aT k.1.aT (fb a.ax k.1.ax (fb a.bg k.1.bg (True))))))
def Kd (y:aG×(List UInt8)):Prop:=let C:=ab y.2;let q1:=y.2.length;let n:=(cZ aZ.c y.1 y.2).2;let B:=λp:Prop=>aa [y.2] (aa [C] p);∃z:Unit,(∃J:Nat,let A:=b5 aZ.c y.1 y.2 J;B ([]=A.2.2/\0=(J:Int)/\dV y.1.ru (y.1.pos=A.2.1.pos/\y.1.aF=A.2.1.aF/\y.1.aO=A.2.1.aO/\fb y.1.aT A.2.1.aT (fb y.1.ax A.2.1.ax ((Iv (J<=q1/\A.1=aZ.c)))))))/\(∀x:Nat,let H:=b5 aZ.c y.1 y.2 x;let f:=((gt 0 y.2 (x:Int).toNat).toNat:Int);let i:=H.2.1;let j:=aG.mk y.1.ru i.pos i.aF 0 0 i.aO [] i.ax i.aT fl;let G:=bn H.2.2 (fC aZ.c j f);let D:Prop:=(∃e:Nat,let q:=(b5 aZ.c y.1 y.2 e).2;B (G=q.2/\ay .i64 (x:Int) 1=(e:Int)/\dV y.1.ru ((i.pos+1)=q.1.pos/\bV j f=q.1.aF/\dm j f=q.1.aO/\False)));(Iv (x<=q1/\H.1=aZ.c))->aj (aD (x:Int) C) (aM 0 (x:Int)/\aD (x:Int) C/\aj (fk aZ.c j f) (Iv (qw aZ.c ((j,f),true))/\aa [f] (dN y.1.ru (nY i (bC i.aT (bC i.ax (cJ y.1.ru (ba (ab G) 104/\((D)\/(∃e:Nat,let t:=b5 aZ.c y.1 y.2 e;let g:=t.2.1;B (G=t.2.2/\ay .i64 (x:Int) 1=(e:Int)/\dV y.1.ru ((i.pos+1)=g.pos/\bV j f=g.aF/\dm j f=g.aO/\mf aZ.c j f=g.aK/\kx aZ.c j f=g.size/\mg aZ.c j f=g.aL/\fb (iq j f) g.aT (fb (iN aZ.c j f) g.ax (fb (ky aZ.c j f) g.bg ((Iv ((e<=q1/\t.1=aZ.o)/\(q1-e)<(q1-x))))))))))))))))) (Iv (qw aZ.c ((j,f),false))/\aa [f] (dN y.1.ru (nY i (bC i.aT (bC i.ax (cJ y.1.ru (ba (ab G) 104/\((∃e:Nat,let u:=b5 aZ.c y.1 y.2 e;let k:=u.2.1;B (G=u.2.2/\ay .i64 (x:Int) 1=(e:Int)/\dV y.1.ru ((i.pos+1)=k.pos/\bV j f=k.aF/\dm j f=k.aO/\fb (iq j f) k.aT (fb (iN aZ.c j f) k.ax ((Iv ((e<=q1/\u.1=aZ.c)/\(q1-e)<(q1-x))))))))\/(D)))))))))) (H.2.2=n.2/\dV y.1.ru (i.pos=n.1.pos/\i.aF=n.1.aF/\i.aO=n.1.aO/\fb i.aT n.1.aT (fb i.ax n.1.ax (True)))))/\(∀x:Nat,let r:=b5 aZ.c y.1 y.2 x;let b:=((gt 0 y.2 (x:Int).toNat).toNat:Int);let a:=r.2.1;let d:=aG.mk y.1.ru a.pos a.aF a.aK a.size a.aO a.aL a.ax a.aT a.bg;let I:=fk aZ.o d b;let E:=iN aZ.o d b;let l:=bn r.2.2 (fC aZ.o d b);let F:Prop:=(∃e:Nat,let s:=(b5 aZ.c y.1 y.2 e).2;B (l=s.2/\ay .i64 (x:Int) 1=(e:Int)/\dV y.1.ru ((a.pos+1)=s.1.pos/\bV d b=s.1.aF/\dm d b=s.1.aO/\False)));(Iv (x<=q1/\r.1=aZ.o))->aj (aD (x:Int) C) (aM 0 (x:Int)/\aD (x:Int) C/\aj I (Iv (qw aZ.o ((d,b),true))/\aa [b] (dN y.1.ru (rq a (bC a.aT (bC a.ax (bC a.bg (cJ y.1.ru (ba (ab l) 104/\((F)\/(∃e:Nat,let v:=b5 aZ.c y.1 y.2 e;let h:=v.2.1;B (l=v.2.2/\ay .i64 (x:Int) 1=(e:Int)/\dV y.1.ru ((a.pos+1)=h.pos/\bV d b=h.aF/\dm d b=h.aO/\mf aZ.o d b=h.aK/\kx aZ.o d b=h.size/\mg aZ.o d b=h.aL/\fb (iq d b) h.aT (fb E h.ax (fb (ky aZ.o d b) h.bg ((Iv ((e<=q1/\v.1=aZ.o)/\(q1-e)<(q1-x)))))))))))))))))) (Iv (qw aZ.o ((d,b),false))/\aa [b] (dN y.1.ru (rq a (bC a.aT (bC a.ax (bC a.bg (cJ y.1.ru (ba (ab l) 104/\((∃e:Nat,let w:=b5 aZ.c y.1 y.2 e;let m:=w.2.1;B (l=w.2.2/\ay .i64 (x:Int) 1=(e:Int)/\dV y.1.ru ((a.pos+1)=m.pos/\bV d b=m.aF/\dm d b=m.aO/\fb (iq d b) m.aT (fb E m.ax ((Iv ((e<=q1/\w.1=aZ.c)/\(q1-e)<(q1-x))))))))\/(F))))))))))) (r.2.2=n.2/\dV y.1.ru (a.pos=n.1.pos/\a.aF=n.1.aF/\a.aO=n.1.aO/\False)))
def Xj (y:aG×(List UInt8)):Prop:=let D:=ab y.2;let q1:=y.2.length;let k:=(cZ aZ.o y.1 y.2).2;let C:=λp:Prop=>aa [y.2] (aa [D] p);∃z:Unit,(∃K:Nat,let J:=b5 aZ.o y.1 y.2 K;let u:=J.2.1;C ([]=J.2.2/\0=(K:Int)/\dV y.1.ru (y.1.pos=u.pos/\y.1.aF=u.aF/\y.1.aO=u.aO/\y.1.aK=u.aK/\y.1.size=u.size/\y.1.aL=u.aL/\fb y.1.aT u.aT (fb y.1.ax u.ax (fb y.1.bg u.bg ((Iv (K<=q1/\J.1=aZ.o))))))))/\(∀x:Nat,let H:=b5 aZ.o y.1 y.2 x;let g:=((gt 0 y.2 (x:Int).toNat).toNat:Int);let e:=H.2.1;let j:=aG.mk y.1.ru e.pos e.aF e.aK e.size e.aO e.aL e.ax e.aT e.bg;let l:=bn H.2.2 (fC aZ.o j g);let E:Prop:=(∃f:Nat,let r:=(b5 aZ.o y.1 y.2 f).2;C (l=r.2/\ay .i64 (x:Int) 1=(f:Int)/\dV y.1.ru ((e.pos+1)=r.1.pos/\bV j g=r.1.aF/\dm j g=r.1.aO/\False)));(Iv (x<=q1/\H.1=aZ.o))->aj (aD (x:Int) D) (aM 0 (x:Int)/\aD (x:Int) D/\aj (fk aZ.o j g) (Iv (qw aZ.o ((j,g),true))/\aa [g] (dN y.1.ru (rq e (bC e.aT (bC e.ax (bC e.bg (cJ y.1.ru (ba (ab l) 104/\((∃f:Nat,let v:=b5 aZ.o y.1 y.2 f;let h:=v.2.1;C (l=v.2.2/\ay .i64 (x:Int) 1=(f:Int)/\dV y.1.ru ((e.pos+1)=h.pos/\bV j g=h.aF/\dm j g=h.aO/\mf aZ.o j g=h.aK/\kx aZ.o j g=h.size/\mg aZ.o j g=h.aL/\fb (iq j g) h.aT (fb (iN aZ.o j g) h.ax (fb (ky aZ.o j g) h.bg ((Iv ((f<=q1/\v.1=aZ.o)/\(q1-f)<(q1-x)))))))))\/(E)))))))))) (Iv (qw aZ.o ((j,g),false))/\aa [g] (dN y.1.ru (rq e (bC e.aT (bC e.ax (bC e.bg (cJ y.1.ru (ba (ab l) 104/\((E)\/(∃f:Nat,let w:=b5 aZ.o y.1 y.2 f;let m:=w.2.1;C (l=w.2.2/\ay .i64 (x:Int) 1=(f:Int)/\dV y.1.ru ((e.pos+1)=m.pos/\bV j g=m.aF/\dm j g=m.aO/\fb (iq j g) m.aT (fb (iN aZ.o j g) m.ax ((Iv ((f<=q1/\w.1=aZ.c)/\(q1-f)<(q1-x)))))))))))))))))) (H.2.2=k.2/\dV y.1.ru (e.pos=k.1.pos/\e.aF=k.1.aF/\e.aO=k.1.aO/\e.aK=k.1.aK/\e.size=k.1.size/\e.aL=k.1.aL/\fb e.aT k.1.aT (fb e.ax k.1.ax (fb e.bg k.1.bg (True))))))/\(∀x:Nat,let s:=b5 aZ.o y.1 y.2 x;let a:=((gt 0 y.2 (x:Int).toNat).toNat:Int);let b:=s.2.1;let d:=aG.mk y.1.ru b.pos b.aF 0 0 b.aO [] b.ax b.aT fl;let I:=fk aZ.c d a;let F:=iN aZ.c d a;let n:=bn s.2.2 (fC aZ.c d a);let G:Prop:=(∃f:Nat,let t:=(b5 aZ.o y.1 y.2 f).2;C (n=t.2/\ay .i64 (x:Int) 1=(f:Int)/\dV y.1.ru ((b.pos+1)=t.1.pos/\bV d a=t.1.aF/\dm d a=t.1.aO/\False)));(Iv (x<=q1/\s.1=aZ.c))->aj (aD (x:Int) D) (aM 0 (x:Int)/\aD (x:Int) D/\aj I (Iv (qw aZ.c ((d,a),true))/\aa [a] (dN y.1.ru (nY b (bC b.aT (bC b.ax (cJ y.1.ru (ba (ab n) 104/\((∃f:Nat,let A:=b5 aZ.o y.1 y.2 f;let i:=A.2.1;C (n=A.2.2/\ay .i64 (x:Int) 1=(f:Int)/\dV y.1.ru ((b.pos+1)=i.pos/\bV d a=i.aF/\dm d a=i.aO/\mf aZ.c d a=i.aK/\kx aZ.c d a=i.size/\mg aZ.c d a=i.aL/\fb (iq d a) i.aT (fb F i.ax (fb (ky aZ.c d a) i.bg ((Iv ((f<=q1/\A.1=aZ.o)/\(q1-f)<(q1-x)))))))))\/(G))))))))) (Iv (qw aZ.c ((d,a),false))/\aa [a] (dN y.1.ru (nY b (bC b.aT (bC b.ax (cJ y.1.ru (ba (ab n) 104/\((G)\/(∃f:Nat,let B:=b5 aZ.o y.1 y.2 f;let q:=B.2.1;C (n=B.2.2/\ay .i64 (x:Int) 1=(f:Int)/\dV y.1.ru ((b.pos+1)=q.pos/\bV d a=q.aF/\dm d a=q.aO/\fb (iq d a) q.aT (fb F q.ax ((Iv ((f<=q1/\B.1=aZ.c)/\(q1-f)<(q1-x))))))))))))))))) (s.2.2=k.2/\dV y.1.ru (b.pos=k.1.pos/\b.aF=k.1.aF/\b.aO=k.1.aO/\False)))
end
end sx
end Go.Proofs.YtfkmlhnhkdbjeaaGreat
