/- StreamWell: a part of the proof. -/
import Derived.Test.YtiiiphndmbabcaaGreatC0
import Derived.Deep.AppendSrc
import Derived.Laws.AppendOwn
import Derived.Lib.ConvBytes
import Derived.Laws.StructEq
import Derived.Tactics
import Derived.Orders
set_option linter.all false
namespace Go.Proofs.YtiiiphndmbabcaaGreat
namespace sx
open Go Go.RowKit
section
variable {P:Program} {D:Data} {cd:TypeId->Option Nat} {M M':Pm D} {φ:T (AV D.E)} {a:Act} {N:Nat} {w w':World} {H:Hp D} {s s':St D.E}
variable {c q b:Nat} {Z:Nat->Nat->Option (AV D.E)} {v:AV D.E} {Y:List (AV D.E)} {E:Nat->Type}
variable {X:List (D.E c)} {W:List (D.E b)}
def db (sg:Nat->Nat->Option (AV D.E)) (B q:Nat) (cs:List (AV D.E)):Nat->Nat->Option (AV D.E):=λb o=>if b=B/\q<=o/\o<q+cs.length then cs[o-q]? else sg b o
theorem kK (a:∀o,q<=o->o<q+Y.length->Z c o=none) (b o:Nat) (v:AV D.E) (h:Z b o=some v):db Z c q Y b o=some v:=by
 grind [db]
theorem mr {o:Nat} (h:db Z c q Y b o≠none):Z b o≠none\/b=c:=by
 grind [db]
def dY (a:a7 D) (h:v∈aY c X):one v/\ml v:=by
 have⟨x,_,b⟩:=ZbG.1 h;exact a.one c x v b
theorem CO (a:a7 D):jB one (aY c X):=dV.2 λ_ h=>(dY a h).1
theorem fQ (c:Nat) (xs a:List (D.E c)):aY c (xs++a)=aY c xs++aY c a:=by simp[aY]
theorem cx.app (f:a7 D) {d:List (D.E b)} (h1:cx M c q b W) (g:cx M c (q+W.length*D.size b) b d):cx M c q b (W++d):=by
 intro i hi j v e;by_cases a:i<W.length
 ·rw[List.getElem_append_left a] at e;exact h1 i a j v e
 ·rw[List.getElem_append_right ω] at e;have:=g (i-W.length) (by grind) j v e;rw[<-this];congr 1;have:(i-W.length)*D.size b+W.length*D.size b=i*D.size b:=by rw[<-ZbL];congr 1;omega
  omega
theorem cx.add (B:a7 D) {pl:Nat->Option MI}:cx (⟨pl,db Z c q (aY b W)⟩:Pm D) c q b W:=by
 intro i hi j v e;have d:j<D.size b:=by rw[<-B.len b W[i]];exact(Zam.1 e).1
 have f:(i+1)*D.size b<=W.length*D.size b:=Zbc _ hi;rw[ZaV] at f;show db Z c q (aY b W) c (q+i*D.size b+j)=some v
 unfold db;rw[Zac ⟨rfl,ω,by grind [bb]⟩,show q+i*D.size b+j-q=i*D.size b+j by omega,fP B b W i j hi d];exact e
theorem nw (A:a7 D) {mu:Bool} {cap:Nat} {C:Array Value} {fz:Nat×Nat} (h:(newRow D mu s c X q).H (v,s')) (B:dX M s.h.get w) (N:bW M s.nx s'.nx)
  (dd:w.heap.size<=w'.heap.size) (hblk:∀c,c<w.heap.size->w'.heap[c]?=w.heap[c]?) (f:w'.heap[w.heap.size]?=some (.cells C q fz)) (p:fz.1=fz.2\/C.size<=fz.1/\D.size c=1)
  (I:w'.os=w.os) (J:w'.tape=w.tape) (K:w'.output=w.output) (L:∀(i:Nat) (u:AV D.E),(aY c X)[i]?=some u->∃m,C[i]?=some m/\VR M u m) (n:C.size=cap*D.size c) (hl:X.length<=cap) (l:X.length<=9223372036854775807):
  ∃F,VR F v (.slice (some ⟨w.heap.size,0,none⟩) X.length cap)/\cP s.h.get M w s'.h.get F w' s.nx s'.nx:=by
 let mi:MI:=⟨w.heap.size,0,C.size,D.size c,X.length,true⟩
 have O:X.length*D.size c<=C.size:=by rw[n];exact Zbc _ hl
 cases mu with
 | true=>
  have⟨b,S,h1,z⟩:=bq.1 (show(aQ (s.new (.arr c X q false)) λb s=>.ret (.own b (D.size c) (ah X),s)).H (v,s') from h);cases av.1 z;obtain⟨rfl,g1,g2⟩:=qw h1;have d:=N _ (Zah _) ω;have k:=cP.nv (o:=.arr c X q false) (mi:=mi) B d (λ_=>rfl) dd hblk I J K ⟨rfl,rfl,λ_=>⟨C,fz,f,rfl,by grind [bb],λi u hu=>by
   have⟨m,y,a2⟩:=L i u hu;exact⟨m,by grind,a2.mono (Pm.qD (mi:=mi) d)⟩,λ_=>p⟩⟩
  refine⟨_,?_,by rw[g1,g2];exact k⟩;exact VR.own (mi:=mi) (by simp[Pm.add]) rfl rfl (by rfl) l hl (by grind)
 | false=>
  have⟨b,S,h1,z⟩:=bq.1 (show(aQ (s.new (.tok c q)) λb s=>.ret (.grow c X b,s)).H (v,s') from h);cases av.1 z;obtain⟨rfl,g1,g2⟩:=qw h1;have d:=N _ (Zah _) ω;have r:∀G:Pm D,OR G (.tok c q) mi w':=λG=>⟨rfl,λ_=>⟨C,fz,f,rfl,by grind,p⟩⟩
  have k:=cP.nv (o:=.tok c q) (mi:=mi) B d (λ_=>rfl) dd hblk I J K (r _);have g:∀o,M.sg w.heap.size o=none:=λo=>by
   cases hs:M.sg w.heap.size o with
   | none=>rfl
   | some v=>have:=B.slt hs;omega
  let sg1:=db M.sg w.heap.size 0 (aY c X)
  let M1:Pm D:=⟨(M.add s.nx mi).pl,sg1⟩
  have e:Le (M.add s.nx mi) M1:=⟨λ_ _ h=>h,kK λo _ _=>g o⟩;have t:=cP.upon (M1:=M1) (sg1:=sg1) (b0:=s.nx) (b1:=s.nx) (o0:=.tok c q) (o1:=.tok c q) (rk:=mi) (Bd:=mi) (lo:=s.nx+1) (hi:=s.nx+1) k.fJ (by simp[jc]) rfl (by simp[Pm.add]) rfl rfl rfl (by
    show M1=_
    simp only[M1,Pm.add];congr 1;funext x;split<;>rfl) (.inl ⟨rfl,rfl,rfl⟩) (kK λo _ _=>g o) (λb o h=>mr h) rfl (λ_ _=>rfl) rfl rfl rfl (r M1) (λo v R=>by
     have a:db M.sg w.heap.size 0 (aY c X) w.heap.size o=some v:=R;unfold db at a;split at a
     ·rename_i P
      have⟨m,y,a2⟩:=L _ v a;refine⟨(dY A (ZaJ a)).2,m,?_,(a2.mono (Pm.qD (mi:=mi) d)).mono e⟩;show w'.cell? ⟨w.heap.size,o,none⟩=some m
      simp only[Zdp] at y;simp[World.cell?,f,y]
     ·rw[g] at a;cases a) (λ_ j Q=>by
     show db M.sg w.heap.size 0 (aY c X) w.heap.size j=none
     unfold db;have:=Q;have:0+X.length*D.size c<=j:=this;rw[Zaa (by rw[bb A];omega)];exact g j)
  have e2:(λx=>if x=s.nx then some (AO.tok c q) else if x=s.nx then none else jc s.h.get s.nx (some (.tok c q)) x)=jc s.h.get s.nx (some (.tok c q)):=by
   grind [jc]
  rw[e2] at t;refine⟨M1,?_,by rw[g1,g2];exact k.trans t⟩;exact VR.grow (mi:=mi) (by simp[M1,Pm.add]) rfl rfl rfl (cx.add A) l hl (by grind)
theorem wk {mu:Bool} (h:(newRow D mu s c [] q).H (v,s')) (g:dX M s.h.get w) (i:bW M s.nx s'.nx):∃f,VR f v (.slice none 0 0)/\cP s.h.get M w s'.h.get f w s.nx s'.nx:=by
 let mi:MI:=⟨0,0,0,D.size c,0,false⟩
 cases mu with
 | true=>
  have⟨b,j,h1,a⟩:=bq.1 (show(aQ (s.new (.arr c [] q false)) λb s=>.ret (.own b (D.size c) (ah ([]:List (D.E c))),s)).H (v,s') from h);cases av.1 a;obtain⟨rfl,g1,g2⟩:=qw h1;have d:=cP.nv (o:=.arr c [] q false) (mi:=mi) g (i _ (Zah _) ω) (λh=>by cases h) (Zah _) (λ_ _=>rfl) rfl rfl rfl ⟨rfl,rfl,λh=>by cases h⟩;exact⟨M.add s.nx mi,VR.l5 (mi:=mi) (by simp[Pm.add]) rfl rfl rfl rfl,by grind⟩
 | false=>
  have⟨b,j,h1,a⟩:=bq.1 (show(aQ (s.new (.tok c q)) λb s=>.ret (.grow c ([]:List (D.E c)) b,s)).H (v,s') from h);cases av.1 a;obtain⟨rfl,g1,g2⟩:=qw h1;have d:=cP.nv (o:=.tok c q) (mi:=mi) g (i _ (Zah _) ω) (λh=>by cases h) (Zah _) (λ_ _=>rfl) rfl rfl rfl ⟨rfl,λh=>by cases h⟩;exact⟨M.add s.nx mi,VR.j6 (mi:=mi) (by simp[Pm.add]) rfl,by grind⟩
theorem tM (b:ByteArray) (l h:Nat) (a:l<=h) (c:h<=b.data.toList.length):b.extract l h=⟨⟨(b.data.toList.drop l).take (h-l)⟩⟩:=by
 have e:(b.extract l h).data=⟨(b.data.toList.drop l).take (h-l)⟩:=by
  grind [ByteArray.data_extract]
 cases d:b.extract l h;grind
theorem cM {xs:List (E q)} {d:List (E c)} (h:(gK c q xs).H d):q=c/\HEq xs d:=by
 unfold gK at h;cases b:Nat.decEq q c with
 | isFalse f=>rw[b] at h;exact h.elim
 | isTrue e=>
  rw[b] at h;grind [av]
theorem Js {x:E q} {y:E c} (h:(IW c q x).H y):q=c/\HEq x y:=by
 unfold IW at h;cases b:Nat.decEq q c with
 | isFalse e=>rw[b] at h;exact h.elim
 | isTrue d=>
  rw[b] at h;grind [av]
structure sQ (P:Program) (M:Pm D) (w:World) (c:Nat) (ys:List (D.E c)) (x':Value) (news:List Value):Prop where
 max:ys.length<=9223372036854775807
 lr:LR M (aY c ys) news
 len:∀w2:World,(Builtin.lenOf x').run P w2=.ok ys.length w2
 cells:∀n,n<=ys.length->∀w2:World,w2.heap=w.heap->(Builtin.firstCells (D.size c) n x').run P w2=.ok (news.take (n*D.size c)).toArray w2
variable {c b o:Nat} {L:Value} {Z:List Value}
variable {l:Nat} {d:List (D.E c)}
theorem sQ.LL (i:a7 D) {cap:Nat} (hl:l=d.length) (a:l<=9223372036854775807) (h:Rd M w b o (aY c d)):∃news,sQ P M w c d (.slice (some ⟨b,o,none⟩) l cap) news:=by
 subst hl;have⟨l,h1,f,g⟩:=h.runs (P:=P);refine⟨l,a,h1,λe=>by rfl,λn j e hw=>?_⟩;grind [bb,Nat.mul_le_mul_right,Builtin.firstCells]
theorem sQ.nil {a:Option Addr}:sQ P M w c ([]:List (D.E c)) (.slice a 0 b) []:=
 ⟨Zaj _,.nil,λcap=>by rfl,λn d cap _=>by
  obtain rfl:n=0:=by grind
  cases a<;>simp[Builtin.firstCells,loadCells,loadCellsFrom]⟩
theorem Rd.part (f:a7 D) {c b o:Nat} {xs:List (D.E c)} (h:Rd M w b o (aY c xs)) (k n:Nat):Rd M w b (o+k*D.size c) (aY c ((xs.drop k).take n)):=by
 intro q v e;have j:=(Zam.1 e).1;rw[bb f] at j;have a:0<D.size c:=by
  grind
 have hi:q / D.size c<((xs.drop k).take n).length:=Zc6 (by grind);have i:q % D.size c<D.size c:=Zc4 _ a;have d:q / D.size c*D.size c+q % D.size c=q:=by grind [Nat.div_add_mod]
 rw[<-d,fP f c _ _ _ hi i] at e;have key:∀t:Nat,t<((xs.drop k).take n).length->k+t<xs.length:=λt ht=>by grind
 have g:=key _ hi;have l:((xs.drop k).take n)[q / D.size c]=xs[k+q / D.size c]:=by simp
 rw[l] at e;have⟨p,h1,m⟩:=h ((k+q / D.size c)*D.size c+q % D.size c) v (by grind [fP]);grind
theorem y9 (f:a7 D) (h1:D.size c=1) {cs:List (AV D.E)} (k:Rd M w b o cs):∀{n sh:Nat} {d:List (D.E c)},(QeV D c cs n sh).H d->d.length=n/\Rd M w b (o+sh) (aY c d)
 | 0,sh,d,h=>by
  cases av.1 (h);exact⟨rfl,λi v e=>by simp[aY] at e⟩
 | n+1,sh,d,h=>by
  have⟨v,q,l⟩:=an.1 (h);have⟨x,s,m⟩:=an.1 l;have⟨r,j,p⟩:=an.1 m;cases av.1 p;have⟨i1,i2⟩:=y9 f h1 k j;have a:=bC.1 q;rw[fb] at a;have⟨z,A⟩:=f.dec c [v] x (bC.1 s);refine⟨by simp[i1],λi u e=>?_⟩;simp only[aY,Zbt] at e;have g:(D.ba c x).length=1:=by rw[f.len,h1]
  cases i with
  | zero=>
   rw[Zat ω] at e;have⟨y,q1,t⟩:=k sh v a;grind
  | succ i=>
   rw[Zaz ω,g] at e;have⟨y,q1,t⟩:=i2 i u (by assumption);grind
def qF (a:a7 D):∀xs:List (D.E D.bc),aY D.bc xs=(D.ym xs).map λb=>AV.int .u8 (b.toNat:Int):=by
 intro xs;apply Zb6;intro i;by_cases hi:i<xs.length
 ·have:=fP a D.bc xs i 0 hi (by rw[a.b1];omega);rw[a.b1,Zb8,Zbn] at this;rw[this,Zbk,Zaf (l:=D.ym xs) (by rw[a.bl];exact hi),a.be xs i hi];rfl
 ·rw[Zbd (by rw[bb a,a.b1];omega),Zbd (by rw[Za2,a.bl];omega)]
theorem ny (j:a7 D) {x:AV D.E} (h:(aW D s c x).H d) (S:VR M x L) (B:dX M s.h.get w):∃news,sQ P M w c d L news:=by
 have arr:∀{b:Nat} {f:MI} {a:Ar D.E},(kG s b).H a->M.pl b=some f->f.real->f.len=a.xs.length/\f.jh=D.size a.c/\Rd M w f.bZ f.sh (aY a.c a.xs):=by
  intro b f a q g t;have⟨G,r,g1,g2,y⟩:=B.obj b _ (jx q);rw[g] at r;cases r;exact⟨g1,g2,(y t).rd⟩
 have A:∀{b:Nat} {f:MI} {a:Ar D.E},(kG s b).H a->M.pl b=some f->f.len=a.xs.length:=by
  intro b f a q g;have⟨G,r,g1,g2,y⟩:=B.obj b _ (jx q);grind
 cases S<;>simp only[aW] at h<;>(try exact h.elim)
 case list c2 b o cap xs hs g C=>
  obtain⟨rfl,N⟩:=cM h;cases N;exact sQ.LL j rfl g (pG j B hs)
 case dW c2 cap a=>
  obtain⟨rfl,N⟩:=cM h;cases N;exact⟨[],.nil⟩
 case grow c2 b cap xs f g t hl hz hs p C ht=>
  obtain⟨rfl,N⟩:=cM h;cases N;exact sQ.LL j rfl p (pG j B hs)
 case j6 c2 b f g t=>
  obtain⟨rfl,N⟩:=cM h;cases N;exact⟨[],.nil⟩
 case own b k cap n f g u t z p C ht=>
  have⟨a,q,m⟩:=an.1 h;have⟨c2,xs,e,ro⟩:=a;obtain⟨rfl,N⟩:=cM (m);cases N;have⟨g1,_,g3⟩:=arr q g t;exact sQ.LL j g1 p g3
 case l5 b k n f g u t z hl=>
  have⟨a,q,m⟩:=an.1 h;have⟨c2,xs,e,ro⟩:=a;obtain⟨rfl,N⟩:=cM (m);cases N;have h0:xs=[]:=Zap ((A q g).symm.trans hl);subst h0;exact⟨[],.nil⟩
 case pre b k l cap n f g u t z p hl C ht=>
  have⟨a,q,m⟩:=an.1 h;have⟨c2,xs,e,ro⟩:=a;obtain⟨rfl,N⟩:=cM (m);cases N;have⟨g1,_,g3⟩:=arr q g t;subst z;have:=Rd.part j g3 0 l;rw[ZbS,Zbn] at this;simp only at g1;exact sQ.LL j (by grind [dv]) ω (by assumption)
 case oL b k n f g u t z hl=>
  have⟨a,q,m⟩:=an.1 h;have⟨c2,xs,e,ro⟩:=a;obtain⟨rfl,N⟩:=cM (m);cases N;have h0:xs=[]:=Zap ((A q g).symm.trans hl);subst h0;simp only[dv,Zdl];exact⟨[],.nil⟩
 case part b k l cap o n f g u t z Q hl p C=>
  have⟨a,q,m⟩:=an.1 h;have⟨c2,xs,e,ro⟩:=a;obtain⟨rfl,N⟩:=cM (m);cases N;have⟨g1,g2,g3⟩:=arr q g t;subst z;have:=Rd.part j g3 o.toNat l;simp only at g1 g2;rw[<-g2] at this;exact sQ.LL j (by grind [rq]) ω (by assumption)
 case jC b k c3 o n f O R u z Q=>
  have⟨a,q,m⟩:=an.1 h;have⟨c2,xs,e,ro⟩:=a;obtain⟨rfl,N⟩:=cM (m);cases N;subst z;simp only[ Int.toNat_zero];exact⟨[],.nil⟩
 case cW=>
  cases av.1 h;exact⟨[],.nil⟩
 case str l hl=>
  obtain⟨rfl,N⟩:=cM h;cases N;have hlen:(D.ofB l).length=l.length:=by rw[<-j.bl,j.bo]
  have dd:(⟨⟨l⟩⟩:ByteArray).size=l.length:=rfl;refine⟨byteCells ⟨⟨l⟩⟩,ω,?_,λT=>by simp[Builtin.lenOf,hlen,dd],λn z T _=>?_⟩
  ·rw[qF j,j.bo];refine⟨by simp[byteCells],λi v U e J=>?_⟩;simp only[byteCells,Zbk] at e J;cases I:l[i]? with
   | none=>rw[I] at e;cases e
   | some b=>
    rw[I] at e J;cases e;cases J;exact .int (rB b)
  ·rw[j.b1];simp only[Builtin.firstCells,Zzc];congr 1;grind [tM,byteCells]
 case sub b o n cap f g t C p=>
  have⟨h1,m⟩:=bz.1 h;have⟨cs,F,K⟩:=an.1 m;have⟨e,ro,I⟩:=pF F;have⟨G,r,_,y⟩:=B.obj b _ I;rw[g] at r;cases r;have⟨k1,k2⟩:=y9 j (aN.1 h1) y.rd K;exact sQ.LL j k1.symm p k2
 case oM b o cap O=>
  have⟨h1,m⟩:=bz.1 h;have⟨cs,F,K⟩:=an.1 m;cases av.1 (K);exact⟨[],.nil⟩
def sQ.src (b:a7 D) {_e size:Nat} (h:sQ P M w c d L Z) (hk:(∃e,P.underlying o=some (.slice e))\/P.underlying o=some .string) (hs:size=D.size c):Src P size o L d.length Z w:=by
 subst hs;have hl:Z.length=d.length*D.size c:=by rw[<-h.lr.1,bb b]
 have h1:=h.cells d.length (Zah _);rw[<-hl,ZaM] at h1;exact⟨hk,h.len,h1 w rfl,h1 w.drew rfl,hl,sN h.lr (CO b)⟩
def ve {n:Nat} (h:bF (n:Int) b):n*b<=140737488355328:=by
 have h1:=ZaH h;omega
theorem rE (h:(qB P D cd c).H b):uu P c=some (D.size b)/\1<=D.size b:=by
 have⟨a,e,h1⟩:=an.1 h;grind [an,bz,av,sP,aN,cu]
def y_ {t u ty e:TypeId} {i:TypeInfo} (ht:P.underlying t=some (.slice e)) (hi:P.info? e=some i) (a:Src P i.size u L b Z w) (h:b<=c):
  (Builtin.append_ #[t,u] ty #[.slice none 0 c,L]).run P w=.ok (.slice none b c) w:=by
 rcases a.kind with⟨d,hk⟩ | hk<;>simp[Builtin.append_,Zza ht,Zza hk,sizeOf,typeInfo,hi,a.len,a.cells,h]
def oN (z:Array Value) (n:Nat):(Builtin.zeroCells z n).size=n*z.size:=by simp[Builtin.zeroCells]
structure ApS (P:Program) (D:Data) (t u e c:Nat) (bytes:Nat) (i:TypeInfo) (z:Value):Prop where
 ht:P.underlying t=some (.slice e)
 hi:P.info? e=some i
 hz:i.zero=some z
 dd:i.size=D.size c
 hzc:z.cells.size=D.size c
 N9:i.bytes=bytes
 lD:1<=bytes
variable {z G:Value} {v:AV D.E} {Z u e c X l:Nat} {i:TypeInfo} {b:List Value} {O:MI} {L:St D.E}
variable {k d:List (D.E c)} {m:List Value}
theorem rF (A:a7 D) {mu:Bool} {ty len cap:Nat} (ap:ApS P D Z u e c X i z) {xs:List (D.E c)} {base:Option Addr} (h:(newRow D mu s c (xs++d) e).H (v,s'))
  (J:dX M s.h.get w) (N:bW M s.nx s'.nx) (hlen:len=xs.length) (hold:LR M (aY c xs) b) (p:(Builtin.firstCells i.size len (.slice base len cap)).run P w.drew=.ok b.toArray w.drew) (q:Src P i.size u G d.length m w) (g:LR M (aY c d) m)
  (o:cap<len+d.length) (l:bF (ah (xs++d)) X):vd s M w ((Builtin.append_ #[Z,u] ty #[.slice base len cap,G]).run P w) v s':=by
 subst hlen;have K:(xs.length+d.length)*i.bytes<=140737488355328:=by
  have:=ve (n:=(xs++d).length) l;rw[Zab] at this;rw[ap.N9];exact this
 have Q:xs.length+d.length<=(xs.length+d.length)*i.bytes:=Zcn _ (by rw[ap.N9];exact ap.lD);have f:=run_append_grow_src (P:=P) (ty:=ty) w Z u e i z ap.ht ap.hi ap.hz base xs.length cap b p G d.length m q o ω (growslice_fits o K);have B:=grownCap_ge w (xs.length+d.length) cap e;have k:=grownCap_le_maxLen w (xs.length+d.length) cap e (by grind [maxLen]);unfold maxLen at k;generalize grownCap w (xs.length+d.length) cap e=x at f B k;have F:b.length=xs.length*D.size c:=by rw[<-hold.1,bb A]
 have C:m.length=d.length*D.size c:=by rw[<-g.1,bb A]
 have a:=hold.app g;rw[<-fQ] at a;have y:((b++m).toArray++Builtin.zeroCells z.cells (x-(xs.length+d.length))).size=x*D.size c:=by
  rw[Zct,oN,ap.hzc,Zb5,Zab,C,F,<-ZbL,<-ZbL];grind
 have r:=cP.u_ J s.nx;have⟨I,k1,k2⟩:=nw (w:=w.drew) (w':=w.drew.alloc (.cells ((b++m).toArray++Builtin.zeroCells z.cells (x-(xs.length+d.length))) e)) (fz:=(0,0)) (cap:=x) A h r.fJ N (by simp) (λc L=>Below.heap_alloc _ _ _ L) (by show(w.heap.push _)[w.heap.size]?=_;simp) (.inl rfl) rfl rfl rfl
  (λj S O=>by
   have⟨R,g1,g2⟩:=a.get O;refine⟨R,?_,g2⟩;rw[ZbT (by grind),Zc0];exact g1) y (by grind) (by grind)
 refine⟨I,_,_,f,?_,r.trans k2⟩;simp_all
def zc (H:Hp D) (b1 a:Nat) (b:AO D.E):(λx=>if x=b1 then some b else if x=a then none else H x)=jc (jc H a none) b1 (some b):=by
 rfl
theorem Wz (A:a7 D) {ty b cap:Nat} {mi:MI} (ap:ApS P D Z u e c X i z) {xs:List (D.E c)} (U:s.h.get b=some (.tok c e)) (N:(s.set b none).H L)
  (h:(A2 D L c (xs++d) e).H (v,s')) (R:dX M s.h.get w) (hf:bW M s.nx s'.nx) (bytes:M.pl b=some mi) (t:mi.real) (hl:mi.len=xs.length) (hz:mi.jh=D.size c) (hs:cx M mi.bZ mi.sh c xs) (ht:mi.sh+cap*mi.jh=mi.qu) (hle:l=xs.length)
  (Q:Src P i.size u G d.length m w) (x:LR M (aY c d) m) (q:l+d.length<=cap) (s2:(xs++d).length<=9223372036854775807):
  vd s M w ((Builtin.append_ #[Z,u] ty #[.slice (some ⟨mi.bZ,mi.sh,none⟩) l cap,G]).run P w) v s':=by
 subst hle;have⟨g1,g2⟩:=kJ N;have⟨nb,s3,h1,h2⟩:=bq.1 (h);cases av.1 h2;obtain⟨rfl,g3,g4⟩:=qw h1;have F:=hf _ (Zah _) ω;have⟨N7,K,hes,Y⟩:=R.obj b _ U;rw[bytes] at K;cases K;have⟨C,fz,T,hCs,O,x'⟩:=Y t;have hnl:m.length=d.length*D.size c:=by rw[<-x.1,bb A]
 have hcm:(xs.length+d.length)*D.size c<=cap*D.size c:=Zbc _ q;rw[hz] at ht O;rw[hl] at O;have hmul:(xs.length+d.length)*D.size c=xs.length*D.size c+d.length*D.size c:=ZbL _ _ _;have y:=run_append_room_src (P:=P) (ty:=ty) w Z u e i ap.ht ap.hi mi.bZ mi.sh xs.length cap G d.length m Q q (λj V=>by
  rw[ap.dd];have:mi.sh+xs.length*D.size c+j<C.size:=ω;simp[World.cell?,T,this]) (λj V=>by
  rw[ap.dd];have:mi.sh+xs.length*D.size c+j<C.size:=ω;simp only[World.frozen?,T];rcases x' with hz | hz
  ·rw[hz];simp;try omega
  ·simp;try omega)
 rw[ap.dd] at y;have⟨S,q3,q4,q5⟩:=fx mi.bZ e fz m (mi.sh+xs.length*D.size c) w C T ω;have⟨r1,r2,r3⟩:=dO mi.bZ m (mi.sh+xs.length*D.size c) w
 let p:MI:=⟨mi.bZ,mi.sh,mi.qu,mi.jh,(xs++d).length,true⟩
 let sg1:=db M.sg mi.bZ (mi.sh+xs.length*D.size c) (aY c d)
 let M1:Pm D:=⟨λk=>if k=s.nx then some p else M.pl k,sg1⟩
 have f:∀o,mi.sh+xs.length*D.size c<=o->M.sg mi.bZ o=none:=λo ho=>R.sep b _ mi U rfl bytes t o (by show mi.sh+mi.len*mi.jh<=o;rw[hl,hz];exact ho)
 have n:yv M M1:=kK λo h1 _=>f o h1
 have r:Le M M1:=⟨λk a hk=>by
  show(if k=s.nx then some p else M.pl k)=some a
  by_cases e:k=s.nx
  ·rw[e,F] at hk;cases hk
  ·rw[Zaa e];exact hk,n⟩
 have hup:=cP.upon (M1:=M1) (sg1:=sg1) (b0:=b) (b1:=s.nx) (o0:=.tok c e) (o1:=.tok c e) (rk:=mi) (Bd:=p) (lo:=s.nx) (hi:=s.nx+1) (w':=w.setCells mi.bZ (mi.sh+xs.length*D.size c) m) R U rfl bytes t rfl rfl rfl (.inr ⟨rfl,F,rfl⟩) n (λb o h=>mr h)
  (dN _ _ _ _) (λk hk=>dx _ _ _ _ k hk) r1 r2 r3 ⟨hz,λ_=>⟨S,fz,q3,by grind,by
   show mi.sh+(xs++d).length*mi.jh<=mi.qu
   rw[Zab,hz];omega,x'⟩⟩ (λo u' hu=>by
   have g:db M.sg mi.bZ (mi.sh+xs.length*D.size c) (aY c d) mi.bZ o=some u':=hu;unfold db at g;split at g
   ·rename_i I
    have⟨_,hin1,J⟩:=I;rw[bb A] at J;have⟨B,a1,a2⟩:=x.get g;refine⟨(dY A (ZaJ g)).2,B,?_,a2.mono r⟩;have:S[o]?=some B:=by grind
    simp[World.cell?,q3,this]
   ·rename_i I
    have⟨hp,B,hc,hv⟩:=R.gL _ _ _ g;have hlt:o<mi.sh+xs.length*D.size c:=by
     rcases Zbm o (mi.sh+xs.length*D.size c) with h0 | h0
     ·exact h0
     ·rw[f o h0] at g;cases g
    refine⟨hp,B,?_,hv.mono r⟩;have h7:C[o]?=some B:=by grind [World.cell?]
    have:S[o]?=some B:=by grind
    simp[World.cell?,q3,this]) (λ_ j V=>by
   have W:mi.sh+(xs++d).length*mi.jh<=j:=V;rw[Zab,hz] at W;show db M.sg mi.bZ (mi.sh+xs.length*D.size c) (aY c d) mi.bZ j=none
   unfold db;rw[Zaa (by rw[bb A];omega)];exact f j ω)
 rw[zc] at hup;refine⟨M1,_,_,y,?_,by grind⟩;have:=VR.grow (M:=M1) (b:=s.nx) (c:=c) (cap:=cap) (xs:=xs++d) (mi:=p) (by simp[M1]) rfl rfl hz ((hs.mono n).app A (cx.add A)) s2 (by grind) (by grind);grind
theorem WA (O:a7 D) {ty b cap:Nat} {mi:MI} (ap:ApS P D Z u e c X i z) {f:List (D.E c)} {n:Nat} (S:s.h.get b=some (.arr c k e false)) (K:(s.set b none).H L)
  (h:(aQ (L.new (.arr c (d++f) e false)) λb s=>.ret (.own b (D.size c) (ah (d++f)),s)).H (v,s')) (R:dX M s.h.get w) (hf:bW M s.nx s'.nx) (U:M.pl b=some mi) (V:mi.real) (ht:mi.sh+cap*mi.jh=mi.qu) (Y:d=k.take n) (hn:n<=k.length)
  (s2:Src P i.size u G f.length m w) (x:LR M (aY c f) m) (q:n+f.length<=cap) (J:(d++f).length<=9223372036854775807):
  vd s M w ((Builtin.append_ #[Z,u] ty #[.slice (some ⟨mi.bZ,mi.sh,none⟩) n cap,G]).run P w) v s':=by
 have⟨g1,g2⟩:=kJ K;have⟨nb,s3,h1,h2⟩:=bq.1 h;cases av.1 h2;obtain⟨rfl,g3,g4⟩:=qw h1;have x':=hf _ (Zah _) ω;have⟨N7,I,hl,A,T⟩:=R.obj b _ S;rw[U] at I;cases I;have⟨C,fz,Q,hCs,W,g,l⟩:=T V;have l:=l rfl;rw[bb O] at W;have N:d.length=n:=by grind
 have hnl:m.length=f.length*D.size c:=by rw[<-x.1,bb O]
 have hcm:(n+f.length)*D.size c<=cap*D.size c:=Zbc _ q;have hmul:(n+f.length)*D.size c=n*D.size c+f.length*D.size c:=ZbL _ _ _;rw[A] at ht;have y:=run_append_room_src (P:=P) (ty:=ty) w Z u e i ap.ht ap.hi mi.bZ mi.sh n cap G f.length m s2 q (λj F=>by
  rw[ap.dd];have:mi.sh+n*D.size c+j<C.size:=ω;simp[World.cell?,Q,this]) (λj F=>by
  rw[ap.dd];have:mi.sh+n*D.size c+j<C.size:=ω;simp only[World.frozen?,Q];rcases l with hz | hz
  ·rw[hz];simp;try omega
  ·simp;try omega)
 rw[ap.dd] at y;have⟨C',q3,q4,q5⟩:=fx mi.bZ e fz m (mi.sh+n*D.size c) w C Q ω;have⟨r1,r2,r3⟩:=dO mi.bZ m (mi.sh+n*D.size c) w
 let p:MI:=⟨mi.bZ,mi.sh,mi.qu,mi.jh,(d++f).length,true⟩
 let M1:Pm D:=⟨λxs=>if xs=s.nx then some p else M.pl xs,M.sg⟩
 have r:Le M M1:=⟨λxs a hk=>by
  show(if xs=s.nx then some p else M.pl xs)=some a
  by_cases e:xs=s.nx
  ·rw[e,x'] at hk;cases hk
  ·rw[Zaa e];exact hk,λ_ _ _ h=>h⟩
 have B:∀j,M.sg mi.bZ j=none:=λj=>R.sep b _ mi S rfl U V j trivial
 have bytes:=cP.upon (M1:=M1) (sg1:=M.sg) (b0:=b) (b1:=s.nx) (o0:=.arr c k e false) (o1:=.arr c (d++f) e false) (rk:=mi) (Bd:=p) (lo:=s.nx) (hi:=s.nx+1) (w':=w.setCells mi.bZ (mi.sh+n*D.size c) m) R S rfl U V rfl rfl rfl (.inr ⟨rfl,x',rfl⟩) (λ_ _ _ h=>h) (λb o h=>.inl h)
  (dN _ _ _ _) (λxs hk=>dx _ _ _ _ xs hk) r1 r2 r3 ⟨rfl,A,λ_=>⟨C',fz,q3,by grind,by
   rw[bb O,Zab,N];show mi.sh+(n+f.length)*D.size c<=mi.qu
   omega,λj u' F=>by
   rw[fQ] at F;have hzr:(aY c d).length=n*D.size c:=by rw[bb O,N]
   by_cases hjl:j<n*D.size c
   ·rw[Zat ω] at F;have hpre:aY c k=aY c d++aY c (k.drop n):=by rw[Y,<-fQ,ZaO]
    have⟨t,a1,a2⟩:=g j u' (by grind);exact⟨t,by grind,a2.mono r⟩
   ·rw[Zaz ω] at F;have⟨t,a1,a2⟩:=x.get F;have hjn:=(Zam.1 a1).1;exact⟨t,by grind,a2.mono r⟩,λ_=>l⟩⟩
  (λo u' hu=>by grind) (λ_ j _=>B j)
 rw[zc] at bytes;refine⟨M1,_,_,y,?_,by grind⟩;have:=VR.own (M:=M1) (b:=s.nx) (cap:=cap) (n:=ah (d++f)) (mi:=p) (by simp[M1]) A rfl rfl J (by grind) (by grind);grind
theorem nz (B:a7 D) {ty b n cap:Nat} (ap:ApS P D Z u e c X i z) {cut:List (D.E c)->List (D.E c)} {x':Value} (h:(Fi D X s c e b cut k).H (v,s')) (N:dX M s.h.get w) (hf:bW M s.nx s'.nx) (hm:M.pl b=some O)
  (C:∀xs:List (D.E c),O.len=xs.length->cut xs=xs.take n) (hn:n<=O.len) (Y:O.len<=9223372036854775807) (hd:(O.real/\G=.slice (some ⟨O.bZ,O.sh,none⟩) n cap/\O.len<=cap/\O.sh+cap*O.jh=O.qu)\/(O.real=false/\G=.slice none 0 0/\O.len=0))
  (g:Src P i.size u x' k.length m w) (j:LR M (aY c k) m):vd s M w ((Builtin.append_ #[Z,u] ty #[G,x']).run P w) v s':=by
 have⟨⟨c2,xs,e2,ro⟩,ha,h1⟩:=an.1 h;have f:=jx ha;cases ro with
 | true=>exact h1.elim
 | false=>
  have⟨t,h2⟩:=bz.1 (h1);have⟨xs2,V,h3⟩:=an.1 h2;obtain⟨rfl,hq⟩:=cM V;cases hq;rw[aN] at t;subst t;have⟨d,h4⟩:=cX.1 h3;have⟨s2,l,x⟩:=an.1 h4;have⟨N7,F,g1,g2,Q⟩:=N.obj b _ f;rw[hm] at F;cases F;simp only at g1 g2 f;rw[(C xs g1)] at x d;have J:(xs.take n).length=n:=by grind
  have⟨k1,k2⟩:=kJ l;have a:=cP.drop (b:=b) N s.nx;have o:dX M s2.h.get w:=by rw[k1];exact a.fJ
  have p:bW M s2.nx s'.nx:=by grind
  have hlen:(xs.take n++k).length<=140737488355328:=by
   have:=ve (n:=(xs.take n++k).length) d;have h9:(xs.take n++k).length<=(xs.take n++k).length*X:=Zcn _ ap.lD;omega
  rcases hd with⟨S,rfl,hmc,I⟩ | ⟨S,rfl,h0⟩
  ·by_cases r:n+k.length<=cap
   ·exact WA B ap f l x N hf hm S I rfl ω g j r ω
   ·have T:Rd M w O.bZ O.sh (aY c2 (xs.take n)):=by
     have:=Rd.part B (Q S).rd 0 n;grind
    have⟨old',R,_,q⟩:=T.run (P:=P);have L:=q w.drew rfl;rw[bb B,J] at L;have⟨A,W,bytes,q1,y,K⟩:=rF (mu:=true) (len:=n) (cap:=cap) (base:=some ⟨O.bZ,O.sh,none⟩) (ty:=ty) B ap x o p J.symm R (by rw[ap.dd];simpa [Builtin.firstCells] using L) g j ω d;refine⟨A,W,bytes,q1,y,?_⟩;rw[k1,k2] at K;exact a.trans K
  ·have U:=Zap (g1.symm.trans h0);subst U;rw[Zdl] at x d;by_cases hy:k=[]
   ·subst hy;have⟨A,q1,y⟩:=wk (mu:=true) x o p;refine⟨A,.slice none 0 0,w,?_,q1,?_⟩
    ·exact y_ ap.ht ap.hi g (Zah _)
    ·rw[k1,k2] at y;exact a.trans y
   ·have hpos:=Zbe.2 hy;have⟨A,W,bytes,q1,y,K⟩:=rF (mu:=true) (len:=0) (cap:=0) (base:=none) (ty:=ty) (xs:=[]) B ap x o p rfl .nil (by rfl) g j ω d;refine⟨A,W,bytes,q1,y,?_⟩;rw[k1,k2] at K;exact a.trans K
theorem wm (p:a7 D) {mu:Bool} {ty:Nat} (ap:ApS P D Z u e c X i z) (h:(newRow D mu s c k e).H (v,s')) (j:dX M s.h.get w) (g:bW M s.nx s'.nx)
  (a:Src P i.size u G k.length b w) (f:LR M (aY c k) b) (d:bF (ah k) X):vd s M w ((Builtin.append_ #[Z,u] ty #[.slice none 0 0,G]).run P w) v s':=by
 by_cases m:k=[]
 ·subst m;have⟨o,q1,q⟩:=wk h j g;exact⟨o,.slice none 0 0,w,y_ ap.ht ap.hi a (Zah _),q1,q⟩
 ·have l:=Zbe.2 m;exact rF (len:=0) (cap:=0) (base:=none) (ty:=ty) (xs:=[]) p ap h j g rfl .nil (by rfl) a f ω d
theorem CP (o:a7 D) {mu:Bool} {t u ty:TypeId} {x d:AV D.E} (h:(I0 P D cd mu s t u v x).H (d,s')) (hd:VR M v z) (hx:VR M x G) (B:dX M s.h.get w) (hf:bW M s.nx s'.nx):
  vd s M w ((Builtin.append_ #[t,u] ty #[z,G]).run P w) d s':=by
 have⟨dt,X,h1⟩:=an.1 h;have⟨e,he,h2⟩:=an.1 h1;have⟨du,O,h3⟩:=an.1 h2;have⟨S,h4⟩:=bz.1 h3;have⟨c,hc,h5⟩:=an.1 h4;have⟨bytes,N9,h6⟩:=an.1 h5;have⟨hbm,h7⟩:=bz.1 h6;have⟨lD,h8⟩:=bz.1 h7;have⟨zz,QlX,h8a⟩:=an.1 h8;have⟨hzl,h8b⟩:=bz.1 h8a;have⟨ys,hys,A⟩:=an.1 h8b;rw[gT] at X O;have⟨dd,_⟩:=rE hc;have⟨i,hi,hiz⟩:=pE dd;have⟨i2,Z,hib⟩:=y7 (bC.1 N9);rw[hi] at Z;cases Z;have Y:P.underlying t=some (.slice e):=by cases dt<;>first | (cases av.1 he;exact X) | exact he.elim
 have hk:(∃e',P.underlying u=some (.slice e'))\/P.underlying u=some .string:=by
  cases du<;>first | exact .inl ⟨_,O⟩ | exact .inr O | cases S
 have⟨new',hsr⟩:=ny (P:=P) o hys hx B;have g:=hsr.src (size:=i.size) (_e:=e) o hk hiz;have f:=hsr.lr;have⟨i3,d',hi3,hz,hzv⟩:=mm QlX;rw[hi] at hi3;cases hi3;have hzc:d'.cells.size=D.size c:=by
  have:=(fg (hzv M)).1;grind [hI,aN]
 have ap:ApS P D t u e c bytes i d':=⟨Y,hi,hz,hiz,hzc,hib,cu.1 lD⟩;cases hd<;>simp only[CA] at A<;>(try exact A.elim)
 case cW=>
  grind [cX,wm]
 case own b k cap n C q R r hn T N ht=>
  exact nz (n:=C.len) (cap:=cap) o ap A B hf q (λxs hl=>by grind) (Zah _) T (.inl ⟨r,rfl,N,ht⟩) g f
 case l5 b k n C q R r hn hl=>
  exact nz (n:=0) (cap:=0) o ap A B hf q (λxs hx0=>by grind) (Zaj _) ω (.inr ⟨r,rfl,hl⟩) g f
 case pre b k l cap n C q R r hn T hl N ht=>
  grind [nz,dv]
 case oL b k n C q R r hn hl=>
  subst hn;exact nz (n:=0) (cap:=0) o ap A B hf q (λxs _=>by rfl) (Zaj _) ω (.inr ⟨r,rfl,hl⟩) g f
 case grow c2 b cap xs C q r hl hzz hs T N ht=>
  have⟨c3,e3,htk,F⟩:=bq.1 A;have⟨q1,x'⟩:=bz.1 F;have⟨y,I⟩:=bz.1 x';rw[aN] at q1 y;subst q1 y;have⟨xs2,W,J⟩:=an.1 I;obtain⟨rfl,hq⟩:=cM W;cases hq;have⟨j,K⟩:=cX.1 J;have⟨s2,m,p⟩:=an.1 K;have hlen:(xs++ys).length<=140737488355328:=by
   have:=ve (n:=(xs++ys).length) j;have A:(xs++ys).length<=(xs++ys).length*bytes:=Zcn _ (cu.1 lD);omega
  by_cases V:xs.length+ys.length<=cap
  ·exact Wz o ap (Wy htk) m p B hf q r hl hzz hs ht rfl g f V ω
  ·have⟨k1,k2⟩:=kJ m;have a:=cP.drop (b:=b) B s.nx;have L:dX M s2.h.get w:=by rw[k1];exact a.fJ
   have Q:bW M s2.nx s'.nx:=by grind
   have⟨old',hol,_,U⟩:=(pG o B hs).run (P:=P);have hrn:=U w.drew rfl;rw[bb o] at hrn;have⟨M',v',w',q1,y,q3⟩:=rF (mu:=false) (len:=xs.length) (cap:=cap) (base:=some ⟨C.bZ,C.sh,none⟩) (ty:=ty) o ap p L Q rfl hol (by grind [Builtin.firstCells]) g f ω j;refine⟨M',v',w',q1,y,?_⟩;rw[k1,k2] at q3;exact a.trans q3
 case j6 c2 b C q r=>
  have⟨c3,e3,htk,F⟩:=bq.1 A;have⟨q1,x'⟩:=bz.1 F;have⟨y,I⟩:=bz.1 x';rw[aN] at q1 y;subst q1 y;have⟨xs2,W,J⟩:=an.1 I;obtain⟨rfl,hq⟩:=cM W;cases hq;have⟨j,K⟩:=cX.1 J;have⟨s2,m,p⟩:=an.1 K;have⟨k1,k2⟩:=kJ m;have a:=cP.drop (b:=b) B s.nx;have L:dX M s2.h.get w:=by rw[k1];exact a.fJ
  have Q:bW M s2.nx s'.nx:=by grind
  have⟨M',v',w',q1,y,q3⟩:=wm (mu:=false) (ty:=ty) o ap p L Q g f j;refine⟨M',v',w',q1,y,?_⟩;rw[k1,k2] at q3;exact a.trans q3
end
section
variable {P:Program} {D:Data} {cd:TypeId->Option Nat} {M M':Pm D} {φ:T (AV D.E)} {a:Act} {N:Nat} {w w':World} {H:Hp D} {s s':St D.E}
variable {b c:Nat} {v:AV D.E} {Z:Type} {Y:TypeId} {d:List Value} {X:Array (Nat×Operand)}
theorem Jt (i:a7 D) {e o:Nat} {xs a:List (D.E c)} {vs':List Value} {d:MI} (m:H b=some (.arr c xs e false)) (n:M.pl b=some d) (r:d.real) (l:dX M H w) (s:LR M (aY c a) vs') (x:o+a.length<=xs.length) (lo:Nat):
  (storeCells ⟨d.bZ,d.sh+o*d.jh,none⟩ vs' 0).run P w=.ok () (w.setCells d.bZ (d.sh+o*d.jh) vs')/\cP H M w (jc H b (some (.arr c (xs.take o++a++xs.drop (o+a.length)) e false))) M (w.setCells d.bZ (d.sh+o*d.jh) vs') lo lo:=by
 obtain⟨A,g,hl,f,j⟩:=l.obj b _ m;rw[n] at g;cases g;obtain⟨C,u,k1,k2,k3,k4,k5⟩:=j r;rw[bb i] at k3;have y:vs'.length=a.length*D.size c:=by rw[<-s.1,bb i]
 have hmul:(o+a.length)*D.size c<=xs.length*D.size c:=Zbc _ x;rw[ZbL] at hmul;have z:(xs.take o++a++xs.drop (o+a.length)).length=xs.length:=by
  grind
 have k:(aY c (xs.take o)).length=o*D.size c:=by grind [bb]
 have e2:(aY c a).length=a.length*D.size c:=bb i c a;have p:aY c xs=aY c (xs.take o)++aY c ((xs.drop o).take a.length)++aY c (xs.drop (o+a.length)):=by
  grind [fQ,List.drop_drop,List.take_append_drop]
 have I:(aY c ((xs.drop o).take a.length)).length=a.length*D.size c:=by grind [bb]
 obtain⟨c1,c2,c3⟩:=rD (o1:=.arr c (xs.take o++a++xs.drop (o+a.length)) e false) (q:=d.sh+o*d.jh) (vs':=vs') l m rfl n r k1 k2 (by grind) (k5 rfl) (λ_=>trivial) (λt B F G=>⟨ω,f,λ_=>⟨t,u,B,F.trans k2,by grind [bb],λq v h=>by
  rw[fQ,fQ] at h;rw[G,f];by_cases h1:q<o*D.size c
  ·rw[Zat (by grind),Zat ω] at h;rw[Zaa ω];exact k4 q v (by grind)
  ·by_cases J:q<o*D.size c+a.length*D.size c
   ·rw[Zat (by grind),Zaz ω,k] at h;rw[Zac ω,show d.sh+q-(d.sh+o*D.size c)=q-o*D.size c by omega];exact s.get h
   ·rw[Zaz (by grind),Zab,k,e2] at h;rw[Zaa ω];exact k4 q v (by grind),k5⟩⟩) lo
 grind [run_storeCells_cells,sN,CO]
def CQ (xs a:List Z) (o n:Nat):Cx xs (o:Int) (n:Int) a=xs.take o++a.take n++xs.drop (o+(a.take n).length):=by rfl
theorem Ju (a b:Nat):ga (a:Int) (b:Int)=((Nat.min b a:Nat):Int):=by
 grind [ga]
theorem nA (b:a7 D) (c:Nat) (a:List (D.E c)) (n:Nat):aY c (a.take n)=(aY c a).take (n*D.size c):=by
 by_cases h:n<=a.length
 ·grind [fQ,List.take_append_drop,bb]
 ·grind [List.take_of_length_le,bb,Nat.mul_le_mul_right]
def At (M:Pm D) (b:Nat) (o n:Nat) (c:Value):Prop:=∃a,M.pl b=some a/\((a.real/\o+n<=a.len/\n<=9223372036854775807/\∃cap,c=.slice (some ⟨a.bZ,a.sh+o*a.jh,none⟩) n cap)\/(n=0/\∃d cap,c=.slice d 0 cap))
theorem nB (r:a7 D) {ty e c:TypeId} {o n:Nat} {x:AV D.E} {G O:Value} {N:Array TypeId} {F:Array Value} (h:(A3 D s b (o:Int) (n:Int) v c).H (x,s')) (W:At M b o n G) (Z:VR M v O) (q:dX M s.h.get w)
  (ht:P.underlying Y=some (.slice e)) (dd:uu P e=some (D.size c)) (h0:N[0]?=some Y) (h1:F[0]?=some G) (I:F[1]?=some O):vd s M w ((Builtin.copy_ N ty F).run P w) x s':=by
 obtain⟨⟨c2,xs,e2,ro⟩,U,J⟩:=an.1 h;have u:=jx U;cases ro with
 | true=>exact J.elim
 | false=>
  obtain⟨d,C,R⟩:=an.1 (show(aA (aW D s c2 v) _).H (x,s') from J);obtain⟨j,S⟩:=bz.1 R;rw[aN] at j;subst j;obtain⟨s2,p,T⟩:=an.1 S;cases av.1 T;obtain⟨g1,g2⟩:=kJ p;obtain⟨news,g⟩:=ny (P:=P) r C Z q;obtain⟨mi,K,y⟩:=W;obtain⟨N7,l,hl,z,V⟩:=q.obj b _ u;rw[K] at l;cases l;simp only at hl z u;have m:Nat.min d.length n<=d.length:=ZdI _ _;have a:=g.cells (Nat.min d.length n) m w rfl;have B:d.take n=d.take (Nat.min d.length n):=by
   grind
  have A:LR M (aY c (d.take n)) (news.take (Nat.min d.length n*D.size c)):=by
   rw[B,nA r];exact g.lr.take _
  have f:VR M (.int .i64 (ga (n:Int) (ah d)):AV D.E) (goInt (Nat.min d.length n))\/9223372036854775807<n:=by
   by_cases L:n<=9223372036854775807
   ·left;rw[show ah d=(d.length:Int) from rfl,Ju];exact .int (jw (Zav (ZcW _ _) L))
   ·omega
  rw[CQ] at g1;rcases y with⟨t,X,L,cap,rfl⟩ | ⟨rfl,Q,cap,rfl⟩
  ·have f:=f.resolve_right ω;obtain⟨q1,q2⟩:=Jt (P:=P) r u K t q A (o:=o) (by grind) s.nx;refine⟨M,_,_,?_,f,by rw[g1,g2];exact q2⟩;simp only[Builtin.copy_,h0,h1,I,Zzd,Zzb,Zza ht,g.len,cJ dd,a,Zzc];rw[q1];rfl
  ·have f:=f.resolve_right ω;have i:jc s.h.get b (some (.arr c (xs.take o++d.take 0++xs.drop (o+(d.take 0).length)) e2 false))=s.h.get:=by
    funext k;unfold jc;simp_all
   rw[i] at g1;refine⟨M,_,w,?_,f,by rw[g1,g2];exact .refl q _⟩;have hz:Nat.min d.length 0=0:=by grind
   rw[hz] at a ⊢;rw[ZbS,ZcA] at a;cases Q<;>simp[Builtin.copy_,h0,h1,I,Zza ht,g.len,cJ dd,a,storeCells]
theorem zd (off:Nat):∀(a:List Value) (k:Nat) (C:Array Value),off+k+a.length<=C.size->
  ((a.zipIdx k).foldl (λcs (p:Value×Nat)=>cs.setIfInBounds (off+p.2) p.1) C).size=C.size/\
  ∀i,((a.zipIdx k).foldl (λcs (p:Value×Nat)=>cs.setIfInBounds (off+p.2) p.1) C)[i]?=if off+k<=i/\i<off+k+a.length then a[i-(off+k)]? else C[i]?
 | [],k,C,h=>⟨rfl,λi=>by simp;omega⟩
 | v::a,k,C,h=>by
  simp only[Zae] at h;obtain⟨h1,b⟩:=zd off a (k+1) (C.setIfInBounds (off+k) v) (by grind);grind [List.zipIdx_cons]
theorem rG {aF:Nat->C (Nat×Nat)} {place':Nat->Option (Nat×Nat)} (G:∀i p,(aF i).H p->place' i=some p) (o:FR M φ a N):∀{d:List (Nat×Operand)} {cs r:List (AV D.E)} {C:Array Value},(vW P D aF φ d cs).H r->LR M cs C.toList->
  ∃f,Instr.fill place' C (d.map λp=>(p.1,a.eval p.2))=some f/\LR M r f.toList
 | [],cs,r,C,h,hl=>by cases av.1 (show(sx.C.ret cs).H r from h);exact⟨C,rfl,hl⟩
 | (i,x)::d,cs,r,C,h,hl=>by
  have h1:(aQ (aF i) λoff size=>aA (ev P D φ x) λv=>bB (Nat.beq (kg (cR v)) size) (aA (cN (Cw off (cR v) cs)) λcs=>vW P D aF φ d cs)).H r:=h;obtain⟨off,size,I,y⟩:=bq.1 h1;obtain⟨v,J,z⟩:=an.1 y;obtain⟨hs,A⟩:=bz.1 z;obtain⟨g,c,B⟩:=an.1 A;have m:=dF J o;have b:=fg m;obtain⟨p1,p2,p3⟩:=jg (bC.1 c);rw[aN,hI] at hs;have dd:(a.eval x).cells.size=size:=by rw[<-hs,b.1,Zba]
  have F:cs.length=C.size:=by rw[hl.1,Zba]
  have q:off+(a.eval x).cells.size<=C.size:=ω;obtain⟨t,w⟩:=zd off (a.eval x).cells.toList 0 C (by assumption);have l:LR M g (((a.eval x).cells.toList.zipIdx 0).foldl (λcs (p:Value×Nat)=>cs.setIfInBounds (off+p.2) p.1) C).toList:=by
   refine⟨p2.trans (F.trans (t.symm.trans Array.length_toList.symm)),λj u s e k=>?_⟩;rw[p3] at e;rw[ZaL,w] at k;by_cases n:off<=j/\j<off+(cR v).length
   ·rw[Zac n] at e;rw[Zac (by grind)] at k;exact b.2 _ u s e (by assumption)
   ·rw[Zaa n] at e;rw[Zaa (by grind)] at k;exact hl.2 j u s e (by grind)
  obtain⟨f,g1,g2⟩:=rG G o B l;grind [Instr.fill,Array.toList_zipIdx]
theorem rH:∀{fs:List Field},Qac P fs->∃a,fs.mapM (λf=>(P.info? f.type).map λi=>(f.offset,i.size))=some a/\∀i p,(Ox P fs i).H p->a[i]?=some p
 | [],_=>⟨[],rfl,λi p h=>by
  obtain⟨f,b,_⟩:=an.1 h;have b:=bC.1 b;rw[fb] at b;simp at b⟩
 | f::fs,h=>by
  have e:=dV.1 h;have b:=e f (by simp);have hi:∃k,uu P f.type=some k:=by
   cases hs:uu P f.type with
   | none=>rw[hs] at b;cases b
   | some k=>exact⟨k,rfl⟩
  obtain⟨k,hk⟩:=hi;obtain⟨i,hi,l⟩:=pE hk;obtain⟨a,o,d⟩:=rH (fs:=fs) (dV.2 λx q=>e x (by grind));refine⟨(f.offset,i.size)::a,by simp_all,λj p m=>?_⟩;cases j with
  | zero=>
   obtain⟨g,c,n⟩:=an.1 m;cases(show some f=some g from bC.1 c);grind [an,av,sP]
  | succ j=>
   refine d j p ?_;assumption
theorem CR (h:(I' P D φ Y X.toList).H v) (q:FR M φ a N):
  ∃r,(∀w,(Instr.build Y (X.map λ(i,x)=>(i,a.eval x))).run P w=.ok r w)/\VR M v r:=by
 obtain⟨z,hz,h1⟩:=an.1 h;obtain⟨d,u,j⟩:=an.1 h1;rw[gT] at u;obtain⟨it,K,B,F,g⟩:=mm hz;have e:(X.map λ(i,x)=>(i,a.eval x)).toList=X.toList.map λp=>(p.1,a.eval p.2):=by simp
 cases d<;>simp only at j<;>(try exact j.elim)
 case struct G=>
  obtain⟨s,l⟩:=bz.1 j;obtain⟨cs,c,m⟩:=an.1 l;cases av.1 m;obtain⟨b,I,C⟩:=rH s;obtain⟨f,g1,g2⟩:=rG (place':=(b.toArray[·]?)) (λi p o=>by grind) q c (fg (g M));refine⟨.agg f,λw=>run_build w Y _ f ?_,.agg g2.1 g2.2⟩;grind [Program.built]
 case array n el=>
  obtain⟨k,hk,l⟩:=an.1 j;obtain⟨cs,c,m⟩:=an.1 l;cases av.1 m;rw[sP] at hk;obtain⟨J,y,A⟩:=pE hk;obtain⟨f,g1,g2⟩:=rG (place':=λi=>some (i*k,k)) (λi p o=>by grind [av]) q c (fg (g M));refine⟨.agg f,λw=>run_build w Y _ f ?_,.agg g2.1 g2.2⟩;grind [Program.built]
theorem wo (z:List Z):∀n,(LD n z).length=n*z.length
 | 0=>by show([]:List Z).length=_;simp
 | n+1=>by rw[y6,Zab,wo z n,ZaV];omega
theorem CS (z:List Z):∀(n i:Nat),i<n*z.length->(LD n z)[i]?=z[i % z.length]?
 | 0,i,h=>by omega
 | n+1,i,h=>by
  rw[y6];by_cases hi:i<z.length
  ·grind [Nat.mod_eq_of_lt]
  ·rw[Zaz ω,CS z n _ (by grind)];congr 1
   conv=>rhs;rw[show i=(i-z.length)+z.length by omega,Nat.add_mod_right]
theorem O0 {a:Value} {n:Nat} (d:VR M v a) (hz:(cR v).length=c) (hk:1<=c):LR M (LD n (cR v)) ((Array.range (n*c)).map λi=>a.cells[i % a.cells.size]!).toList:=by
 have b:=fg d;have dd:a.cells.size=c:=by rw[<-hz,b.1,Zba]
 refine⟨by grind [wo],λi z g e k=>?_⟩;have hi:i<n*c:=by
  grind
 rw[CS _ _ _ (by grind),hz] at e;simp[hi] at k;rw[dd] at k;have f:i % c<a.cells.size:=by grind
 rw[Zck a.cells (i % c) f] at k;refine b.2 (i % c) z g e ?_;grind
theorem vg (a:a7 D) {row:List (AV D.E)} {x:D.E b} (h:(uw D b row).H x) (hl:LR M row d):LR M (D.ba b x) d:=by
 obtain⟨c,g⟩:=a.dec b row x (bC.1 h);refine⟨by rw[a.len,<-c];exact hl.1,λi v f e j=>?_⟩;have hi:i<row.length:=by rw[c,<-a.len b x];exact(Zam.1 e).1
 exact g i _ v (Zaf hi) e M f (hl.2 i _ f (Zaf hi) j)
theorem ze (d:a7 D):∀{n:Nat} {cs:List (AV D.E)} {xs:List (D.E b)} {c:List Value},(Fl D b (D.size b) n cs).H xs->LR M cs c->cs.length=n*D.size b->xs.length=n/\LR M (aY b xs) c
 | 0,cs,xs,c,h,hl,i=>by
  cases av.1 (show(C.ret []).H xs from h);grind [aY]
 | n+1,cs,xs,c,h,hl,i=>by
  obtain⟨row,a,h1⟩:=an.1 (show(aA (cN (tH (D.size b) cs)) λrow=>aA (uw D b row) λx=>aA (Fl D b (D.size b) n (oe (D.size b) cs)) λr=>.ret (x::r)).H xs from h);obtain⟨x,j,f⟩:=an.1 h1;obtain⟨r,e,g⟩:=an.1 f;cases av.1 g;obtain⟨_,rfl⟩:=jf (bC.1 a);rw[mj] at e;obtain⟨i1,i2⟩:=ze d e (hl.drop (D.size b)) (by grind);refine⟨by grind,?_⟩;have:=(vg d j (hl.take (D.size b))).app i2;grind [List.take_append_drop,aY]
theorem yw (W:a7 D) {mu:Bool} (h:(yX P D cd mu s φ Y b X.toList).H (v,s')) (hf:FR M φ a N) (hS:dX M s.h.get w) (Q:bW M s.nx s'.nx):
  vd s M w ((Instr.buildSlice Y b (X.map λ(i,x)=>(i,a.eval x))).run P w) v s':=by
 obtain⟨d,K,h1⟩:=an.1 h;obtain⟨e,parts,A⟩:=an.1 h1;obtain⟨c,J,B⟩:=an.1 A;obtain⟨z,hz,F⟩:=an.1 B;obtain⟨q,G⟩:=bz.1 F;obtain⟨m,h6⟩:=bz.1 G;obtain⟨cs,O,h8⟩:=an.1 h6;obtain⟨Z,h9⟩:=bz.1 h8;obtain⟨xs,S,y⟩:=an.1 h9;rw[gT] at K;obtain⟨hk,l⟩:=rE J;obtain⟨it,z',R,V,U⟩:=mm hz;rw[aN,hI] at q;rw[cu] at m;have t:b*D.size c<=100000:=m;have L:d=.slice e:=by cases d<;>first | (cases av.1 parts;rfl) | exact parts.elim
 subst L;have len:(X.map λ(i,x)=>(i,a.eval x)).toList=X.toList.map λp=>(p.1,a.eval p.2):=by simp
 have T:=O0 (n:=b) (U M) q l;obtain⟨g,g1,g2⟩:=rG (place':=λi=>some (i*D.size c,D.size c)) (λi p hip=>by grind [av]) hf O T;have k:cs.length=b*D.size c:=by
  have:∀{u:List (Nat×Operand)} {cs r:List (AV D.E)},(vW P D (λi=>.ret (Nat.mul i (D.size c),D.size c)) φ u cs).H r->r.length=cs.length:=by
   intro u
   induction u with
   | nil=>intro cs r h;cases av.1 (show(C.ret cs).H r from h);rfl
   | cons p u ih=>
    intro cs r h;obtain⟨i,x⟩:=p;have h1:(aQ (.ret (Nat.mul i (D.size c),D.size c)) λoff size=>aA (ev P D φ x) λv=>bB (Nat.beq (kg (cR v)) size) (aA (cN (Cw off (cR v) cs)) λcs=>vW P D (λi=>.ret (Nat.mul i (D.size c),D.size c)) φ u cs)).H r:=h;obtain⟨off,size,hpl,A⟩:=bq.1 h1;obtain⟨v,hv,B⟩:=an.1 A;obtain⟨_,F⟩:=bz.1 B;obtain⟨cs2,o,G⟩:=an.1 F;rw[ih G];exact(jg (bC.1 o)).2.1
  grind [wo]
 obtain⟨i1,i2⟩:=ze W S g2 k;have I:g.size=b*D.size c:=by rw[<-Zba,<-g2.1,k]
 have hll:b<=b*D.size c:=Zcn _ l;obtain⟨M',k1,k2⟩:=nw (w:=w) (w':=w.alloc (.cells g e)) (C:=g) (fz:=(0,0)) (cap:=b) W y hS Q (by simp) (λc J=>Below.heap_alloc _ _ _ J) (by show(w.heap.push _)[w.heap.size]?=_;simp) (.inl rfl) rfl rfl rfl
  (λj u' hj=>by
   obtain⟨v2,q1,q2⟩:=i2.get hj;exact⟨v2,by grind,q2⟩) I ω ω
 refine⟨M',.slice (some ⟨w.heap.size,0,none⟩) b b,w.alloc (.cells g e),?_,by grind,k2⟩;have f:¬(b*D.size c>2 ^ 24):=ω;have hnr:(do pure (Value.slice (some (<-Go.newRow e g)) b b):Sem Value).run P w=.ok (.slice (some ⟨w.heap.size,0,none⟩) b b) (w.alloc (.cells g e)):=by
  rfl
 by_cases h0:b*D.size c=0
 ·rw[h0] at g1;simp only[Instr.buildSlice,Zzd,Zza K,Zzb,cJ hk,Zaa f,Zac h0,Zzc,len];grind
 ·simp only[Instr.buildSlice,Zzd,Zza K,Zzb,cJ hk,Zaa f,Zaa h0,Zzc,rC R V,len,g1];rfl
end
section
variable {P:Program} {D:Data} {cd:TypeId->Option Nat} {M M':Pm D} {φ:T (AV D.E)} {a:Act} {N:Nat} {w w':World} {H:Hp D} {s s':St D.E}
variable {v c U:AV D.E} {b I:Value} {e Z:TypeId} {m o:Nat} {G:Array Value} {Y:Int} {X:Bool} {l:List (AV D.E)} {F:Array TypeId} {k:IntKind} {W:List UInt8} {V:List Value} {d:TypeDesc}
theorem iH (h:(da v).H (k,Y)) (r:VR M v b):b=.int k Y/\jv k Y:=by
 cases r<;>simp only[da] at h<;>(try exact h.elim)
 all_goals grind [av]
theorem FB (h:(asN v).H m) (r:VR M v b):∃k,b=.int k (m:Int):=by
 cases r<;>simp only[asN] at h<;>(try exact h.elim)
 case num k n a=>
  cases n with
  | negSucc n=>exact h.elim
  | ofNat n=>cases av.1 h;exact⟨k,rfl⟩
theorem FC {c:Bool} (h:(AZ v).H (X,c)) (r:VR M v b):b=.bool X:=by
 cases r<;>simp only[AZ] at h<;>(try exact h.elim)
 all_goals grind [av]
theorem mv (h:(gR v).H W) (r:VR M v b):b=.string ⟨⟨W⟩⟩/\W.length<=9223372036854775807:=by
 cases r<;>simp only[gR] at h<;>(try exact h.elim);grind [av]
def mw (h:(asAgg v).H l) (r:VR M v b):∃a:Array Value,b=.agg a/\LR M l a.toList:=by
 cases r<;>simp only[asAgg] at h<;>(try exact h.elim)
 case agg hl c=>cases av.1 h;exact⟨_,rfl,hl,c⟩
def O3 (h:(Ol v).H l) (r:VR M v b):∃a:Array Value,b=.tuple a/\LR M l a.toList:=by
 cases r<;>simp only[Ol] at h<;>(try exact h.elim)
 case tuple hl c=>cases av.1 h;exact⟨_,rfl,hl,c⟩
theorem zf (b:a7 D) {x:D.E m} (hl:LR M (D.ba m x) V) (n:Nat):LR M (aY m (List.replicate n x)) (List.replicate n V).flatten:=by
 induction n with
 | zero=>exact .nil
 | succ n d=>
  rw[ Zc9];have:=hl.app d;assumption
theorem oO (z:Array Value) (n:Nat):(Builtin.zeroCells z n).toList=(List.replicate n z.toList).flatten:=by
 by_cases hz:z.size=0
 ·have:=Zap (by assumption);rw[this];simp[Builtin.zeroCells,hz]
 ·apply Zb6;intro i;have key:∀n i,(List.replicate n z.toList).flatten[i]?=if i<n*z.size then z.toList[i % z.size]? else none:=by
   intro n
   induction n with
   | zero=>intro i;simp
   | succ n a=>
    intro i;rw[Zc9,Zcf];by_cases hi:i<z.size
    ·grind [Nat.mod_eq_of_lt]
    ·rw[Zaz (by grind)];have e:(i-z.toList.length) % z.size=i % z.size:=by
      rw[Zba]
      conv=>rhs;rw[show i=(i-z.size)+z.size by omega,Nat.add_mod_right]
     grind
  grind [Nat.mod_lt,Builtin.zeroCells]
theorem Bi (hD:a7 D) {l v:AV D.E} (h:(CB P D cd X s e l c).H (v,s')) (hl:VR M l b) (hc:VR M c I) (hS:dX M s.h.get w) (hf:bW M s.nx s'.nx):vd s M w ((Instr.makeSlice e b I).run P w) v s':=by
 have⟨d,hd,h1⟩:=an.1 h;have⟨t,he,h2⟩:=an.1 h1;have⟨kl,n,hn,h3⟩:=bq.1 h2;have⟨hkl,W⟩:=bz.1 h3;have⟨kc,m,hm,h4⟩:=bq.1 W;have⟨hkc,mu⟩:=bz.1 h4;have⟨cc,hcc,h5⟩:=an.1 mu;obtain rfl:=fV.1 hkl;obtain rfl:=fV.1 hkc;have⟨l',N9,h6⟩:=an.1 h5;have⟨z,hz,h7⟩:=an.1 h6;have⟨O,h8⟩:=bz.1 h7;have⟨hb64,h9⟩:=bz.1 h8;have⟨x,hx,S⟩:=an.1 h9;have⟨hn0,T⟩:=cX.1 S;have⟨hnm,U⟩:=cX.1 T;have⟨G,V⟩:=cX.1 U;rw[gT] at hd;have⟨dd,hk1⟩:=rE hcc;obtain⟨rfl,q⟩:=iH hn hl;obtain⟨rfl,hmr⟩:=iH hm hc;have QtB:0<=n:=ZaH hn0;have hnm':=ZaH hnm;obtain⟨g,rfl⟩:∃k:Nat,n=k:=⟨n.toNat,ω⟩;obtain⟨a,rfl⟩:∃k:Nat,m=k:=⟨m.toNat,ω⟩;have QsW:=ve G;have F:P.underlying e=some (.slice t):=by cases d<;>first | (cases av.1 he;exact hd) | exact he.elim
 have⟨it,f,A,hzz,Q⟩:=mm hz;have⟨i,hi,hib⟩:=y7 (bC.1 N9);rw[A] at hi;cases hi;rw[aN,hI] at O;have hmax:a<=9223372036854775807:=by
  grind [cH,sJ]
 have hlr:=vg hD hx (fg (Q M));have y:f.cells.size=D.size cc:=by rw[<-Zba,<-(fg (Q M)).1,O]
 have Z:(Builtin.zeroCells f.cells a).size=a*D.size cc:=by rw[oN,y]
 have Y:LR M (aY cc (List.replicate a x)) (Builtin.zeroCells f.cells a).toList:=by
  grind [oO,zf]
 have c':∀(k:Nat),k<=a->∀(i:Nat) (u:AV D.E),(aY cc (List.replicate k x))[i]?=some u->∃u',(Builtin.zeroCells f.cells a)[i]?=some u'/\VR M u u':=λk hk i u hu=>by
  have e1:aY cc (List.replicate a x)=aY cc (List.replicate k x)++aY cc (List.replicate (a-k) x):=by
   rw[<-fQ,List.replicate_append_replicate,show k+(a-k)=a by omega]
  have⟨v',q1,q2⟩:=Y.get (i:=i) (v:=u) (by grind);grind
 have N:IntKind.i64.wrap ↑g=↑g:=IntWalk.i64_in _ ω;have L:IntKind.i64.wrap ↑a=↑a:=IntWalk.i64_in _ ω;have K:(typeInfo t).run P w=.ok it w:=by simp[typeInfo,A]
 have QsX:((l':Int)*↑a)=((l'*a:Nat):Int):=by simp
 have QsY:a*l'=l'*a:=Zb9 _ _;have o:((decide ((a:Int)<0)||decide ((l':Int)*↑a>2 ^ 48))||decide ((g:Int)<0)||decide ((g:Int)>↑a))=false:=by
  grind
 have B:(askRoom (a*l')).run P w=.ok () w:=by
  simp_all
 have J:(Instr.makeSlice e (.int .i64 ↑g) (.int .i64 ↑a)).run P w=.ok (.slice (some ⟨w.heap.size,0,none⟩) g a) (w.alloc (.cells (Builtin.zeroCells f.cells a) t)):=by
  subst hib;have q:(Go.newRow t (Builtin.zeroCells f.cells a)).run P w=.ok ⟨w.heap.size,0,none⟩ (w.alloc (.cells (Builtin.zeroCells f.cells a) t)):=by
   rfl
  by_cases h0:a*D.size cc=0
  ·have r:Builtin.zeroCells f.cells a=#[]:=by grind
   rw[r] at q ⊢;simp only[Instr.makeSlice,Zzd,Zza F,Zzb,Go.asInt,asIntOf,Zzc,K,N,L,o,ZaE,Za0,Zad,cJ dd,h0];simp[Array.range_zero',q]
  ·have e2:(Array.range (a*D.size cc)).map (λi=>f.cells[i % f.cells.size]!)=Builtin.zeroCells f.cells a:=by simp[Builtin.zeroCells,y]
   simp only[Instr.makeSlice,Zzd,Zza F,Zzb,Go.asInt,asIntOf,Zzc,K,N,L,o,ZaE,Za0,Zad,B,cJ dd,Zaa h0,rC A hzz,e2,q]
 have go:∀(R:Bool) (k:Nat),(newRow D R s cc (List.replicate k x) t).H (v,s')->k<=a->k=g->vd s M w ((Instr.makeSlice e (.int .i64 ↑g) (.int .i64 ↑a)).run P w) v s':=λR k hk hkm hkn=>by
  have⟨M',k1,k2⟩:=nw (w:=w) (w':=w.alloc (.cells (Builtin.zeroCells f.cells a) t)) (C:=Builtin.zeroCells f.cells a) (fz:=(0,0)) (cap:=a) hD hk hS hf (by simp) (λc hc=>Below.heap_alloc _ _ _ hc) (by show(w.heap.push _)[w.heap.size]?=_;simp) (.inl rfl) rfl rfl rfl
   (c' k hkm) Z (by grind) (by simp;omega)
  refine⟨M',_,_,J,?_,k2⟩;grind
 rcases gS.1 V with⟨r,p⟩ | ⟨_,p⟩
 ·have hzero:g=0:=by
   rw[iG] at r;have j:=r.1;unfold Qe0 at j;split at j
   ·rename_i k0 n0
    have:=iH hn hl;cases av.1 hn;rw[qE] at j;simp[zI] at j;omega
   ·cases j
  exact go false 0 p (Zaj _) hzero.symm
 ·have e3:mf ↑g x=List.replicate g x:=by rfl
  rw[e3] at p;exact go true g p ω rfl
theorem zh {C:Array Value} (h:(OA D s e l).H (v,s')) (f:dX M s.h.get w) (g:bW M s.nx s'.nx) (hl:LR M l C.toList):
  vd s M w ((do pure (Value.pointer (some (<-Go.newRow e C))):Sem Value).run P w) v s':=by
 have⟨_,h0⟩:=bz.1 h;have⟨b,cs,h1,d⟩:=bq.1 h0;cases av.1 d;obtain⟨rfl,g1,g2⟩:=qw h1;have a:=g _ (Zah _) ω
 let mi:MI:=⟨w.heap.size,0,C.size,0,0,true⟩
 have c:=cP.alloc (o:=.cells l e false) (ob:=.cells C e) (mi:=mi) f a rfl ⟨⟨rfl,rfl,by show C.size=l.length;rw[hl.1,Zba]⟩,C,(0,0),by show(w.heap.push _)[w.heap.size]?=_;simp,rfl,by show 0+l.length<=C.size;rw[hl.1,Zba];omega,λi u hu=>by
  have⟨j,k,a2⟩:=hl.get hu;exact⟨j,by grind,a2.mono (Pm.qD (mi:=mi) a)⟩,λ_=>.inl rfl⟩
 refine⟨M.add s.nx mi,.pointer (some ⟨w.heap.size,0,none⟩),_,by rfl,?_,by rw[g1,g2];exact c⟩;exact VR.ptr (mi:=mi) (o:=0) (by simp[Pm.add]) rfl
theorem lL (S:a7 D) {t:TypeId} {n k:Nat} {it:TypeInfo} (h:(u0 D s m (o:Int) (n:Int) k (cR c)).H (v,s')) (V:At M m o n I) (j:dX M s.h.get w)
  (ht:P.underlying e=some (.slice t)) (r:P.info? t=some it) (x:it.zero=some b) (hzv:VR M c b) (h0:F[0]?=some e) (h1:G[0]?=some I):vd s M w ((Builtin.clear_ F Z G).run P w) v s':=by
 have d:VR M (undef:AV D.E) (.tuple #[]):=.tuple rfl (λi v v' t=>by cases t);have⟨⟨z,xs,e2,ro⟩,T,N⟩:=an.1 h;have l:=jx T;have⟨ty,O⟩:=bz.1 N;have⟨_,Q⟩:=bz.1 O;have⟨y,hy,B⟩:=an.1 Q;cases ro with
 | true=>exact B.elim
 | false=>
  have⟨s2,g,R⟩:=an.1 (B);cases av.1 R;have⟨g1,g2⟩:=kJ g;have⟨mi,C,A⟩:=V;have⟨N7,f,hl,p,U⟩:=j.obj m _ l;rw[C] at f;cases f;simp only at hl p l;have K:mf ↑n y=List.replicate n y:=by rfl
  have L:(List.replicate n y).take n=List.replicate n y:=ZaA (by simp);rw[K,CQ,L] at g1;have u:LR M (aY z (List.replicate n y)) (Builtin.zeroCells b.cells n).toList:=by
   grind [oO,zf,vg,fg]
  have a:n=0->s'.h.get=s.h.get:=λW=>by
   rw[g1];funext q;unfold jc;simp_all
  rcases A with⟨Y,X,W,cap,rfl⟩ | ⟨rfl,J,cap,rfl⟩
  ·have⟨q1,q2⟩:=Jt (P:=P) S l C Y j u (o:=o) (by grind) s.nx;cases n with
   | zero=>
    refine⟨M,.tuple #[],w,?_,d,by rw[a rfl,g2];exact .refl j _⟩;simp[Builtin.clear_,h0,h1,Zza ht]
   | succ n=>
    refine⟨M,.tuple #[],_,?_,d,by rw[g1,g2];exact q2⟩;simp only[Builtin.clear_,h0,h1,Zzd,Zzb,Zza ht,rC r x];rw[q1];rfl
  ·refine⟨M,.tuple #[],w,?_,d,by rw[a rfl,g2];exact .refl j _⟩;cases J<;>simp[Builtin.clear_,h0,h1,Zza ht]
theorem O4 (h:VR M (.own m o Y) b):∃k:Nat,Y=k/\At M m 0 k b:=by
 cases h with
 | own h hk c a e g ht=>exact⟨_,a,_,h,.inl ⟨c,ω,e,_,by rw[ZbS,Zbn]⟩⟩
 | l5 h hk c a hl=>exact⟨0,a,_,h,.inr ⟨rfl,_,_,rfl⟩⟩
theorem O5 (h:VR M (.pre m o Y) b):∃k:Nat,Y=k/\At M m 0 k b:=by
 cases h with
 | pre h hk c a g hl f ht=>exact⟨_,a,_,h,.inl ⟨c,ω,ω,_,by rw[ZbS,Zbn]⟩⟩
 | oL h hk c a hl=>exact⟨0,a,_,h,.inr ⟨rfl,_,_,rfl⟩⟩
def CT (q:a7 D) {ty:TypeId} (h:(Jc P D s e v).H (c,s')) (r:VR M v b) (m:dX M s.h.get w) (h0:F[0]?=some e) (h1:G[0]?=some b):
  vd s M w ((Builtin.clear_ F ty G).run P w) c s':=by
 have⟨I,p,J⟩:=an.1 h;have⟨t,A,K⟩:=an.1 J;have⟨z,hz,L⟩:=an.1 K;have⟨k,hk,g⟩:=an.1 L;rw[gT] at p;have a:P.underlying e=some (.slice t):=by cases I<;>first | (cases av.1 A;exact p) | exact A.elim
 have⟨it,T,x,f,d⟩:=mm hz;cases v<;>simp only at g<;>(try exact g.elim)
 case cW=>
  cases av.1 g;cases r;exact vd.pure m (v':=.tuple #[]) (by simp[Builtin.clear_,h0,h1,Zza a]) (.tuple rfl (λi c v' t=>by cases t))
 case own C B n=>
  obtain⟨k,rfl,j⟩:=O4 r;exact lL q g j m a x f (d M) h0 h1
 case pre C B n=>
  obtain⟨k,rfl,j⟩:=O5 r;exact lL q g j m a x f (d M) h0 h1
 case part C B o n=>
  cases r with
  | part l u O y N hl S R=>
   subst y;obtain⟨Q,rfl⟩:∃k:Nat,o=k:=⟨o.toNat,ω⟩;rw[Zad] at hl;exact lL q g ⟨_,l,.inl ⟨O,hl,ω,_,by rfl⟩⟩ m a x f (d M) h0 h1
  | jC l u y N=>
   subst y;obtain⟨Q,rfl⟩:∃k:Nat,o=k:=⟨o.toNat,ω⟩;exact lL (n:=0) q g ⟨_,l,.inr ⟨rfl,_,_,rfl⟩⟩ m a x f (d M) h0 h1
theorem tN (d:a7 D) {xs:List (D.E D.bc)} (h:LR M (aY D.bc xs) V):V=(D.ym xs).map λb=>Value.int .u8 b.toNat:=by
 rw[qF d] at h;apply Zb6;intro i;cases e:(D.ym xs)[i]? with
 | none=>
  have hl:=h.1;grind
 | some b=>
  have⟨f,h1,c⟩:=h.get (i:=i) (v:=.int .u8 b.toNat) (by grind);rw[h1,Zbk,e];cases c;rfl
theorem wq:∀{cs:List (AV D.E)} {i:Nat} {r:List (AV D.E)} {a:List Value},(I9 D W cs i).H r->LR M cs a->
  LR M r (((W.drop i).take cs.length).map (λb=>Value.int .u8 b.toNat)++a.drop ((W.drop i).take cs.length).length)
 | [],i,r,a,h,hl=>by
  cases av.1 (h);assumption
 | v::cs,i,r,a,h,hl=>by
  have⟨k,n,p,h0⟩:=bq.1 (show(aQ (da v) λk n=>bB (AW k .u8) (aA (I9 D W cs (i+1)) λr=>.ret (.int .u8 (cw (az ↑i (dS W)) (sat W ↑i) n)::r))).H r from h);have⟨hk,h1⟩:=bz.1 h0;obtain rfl:=fV.1 hk;have⟨q,o,m⟩:=an.1 h1;cases av.1 m;obtain⟨s,rest,rfl,g,c⟩:=hl.aP;have d:=wq o c;obtain⟨rfl,f⟩:=iH p g;by_cases hi:i<W.length
  ·have e:(W.drop i).take (cs.length+1)=W[i]::(W.drop (i+1)).take cs.length:=by
    grind [List.drop_eq_getElem_cons]
   rw[Zae,e,Zae,Zc8];refine .cons ?_ d;have e2:cw (az ↑i (dS W)) (sat W ↑i) n=(W[i].toNat:Int):=by
    grind [az,dS,cw,sat]
   rw[e2];exact .int (rB _)
  ·have e:W.drop i=[]:=Zbu ω;have j:W.drop (i+1)=[]:=Zbu ω;rw[j] at d;rw[e];simp only[Zdl,ZbQ] at d ⊢;refine .cons ?_ d;have e2:cw (az ↑i (dS W)) (sat W ↑i) n=n:=by
    grind [az,dS,cw]
   rw[e2];exact .int f
theorem nC (h:(sK D s m o []).H s'):s'.h.get=s.h.get/\s'.nx=s.nx:=by
 have⟨cs,e,hw,c⟩:=bq.1 h;have⟨a,f,d⟩:=an.1 c;have⟨q1,g⟩:=kJ d;have⟨p1,p2,p3⟩:=jg (bC.1 f);have i:=Bg hw;have e:a=cs:=by
  apply Zb6;grind
 subst e;refine⟨?_,g⟩;rw[q1];grind [jc]
theorem LM (J:a7 D) {ty:TypeId} (h:(Qab P D cd s e v c).H (U,s')) (hd:VR M v b) (hx:VR M c I) (vs:dX M s.h.get w) (h0:F[0]?=some e) (h1:G[0]?=some b) (Q:G[1]?=some I):
  vd s M w ((Builtin.copy_ F ty G).run P w) U s':=by
 have⟨dt,hdt,h3⟩:=an.1 h;have⟨t,he,h4⟩:=an.1 h3;have⟨x,hc,d⟩:=an.1 h4;rw[gT] at hdt;have f:P.underlying e=some (.slice t):=by cases dt<;>first | (cases av.1 he;exact hdt) | exact he.elim
 have⟨dd,_⟩:=rE hc;cases v<;>simp only at d<;>(try exact d.elim)
 case own d' k0 n=>
  obtain⟨k,rfl,V⟩:=O4 hd;exact nB J d V hx vs f dd h0 h1 Q
 case pre d' k0 n=>
  obtain⟨k,rfl,V⟩:=O5 hd;exact nB J d V hx vs f dd h0 h1 Q
 case part d' k0 o n=>
  cases hd with
  | part j hke hr hn ho hl hm hc=>
   subst hn;obtain⟨o',rfl⟩:∃k:Nat,o=k:=⟨o.toNat,ω⟩;rw[Zad] at hl;exact nB J d ⟨_,j,.inl ⟨hr,hl,ω,_,by rfl⟩⟩ hx vs f dd h0 h1 Q
  | jC j hke hn ho=>
   subst hn;obtain⟨o',rfl⟩:∃k:Nat,o=k:=⟨o.toNat,ω⟩;exact nB (n:=0) J d ⟨_,j,.inr ⟨rfl,_,_,rfl⟩⟩ hx vs f dd h0 h1 Q
 case sub d' o n=>
  have⟨hcb,h6⟩:=bz.1 d;rw[aN] at hcb;subst hcb;have⟨B,h7⟩:=bz.1 h6;have B:=cu.1 B;rw[J.b1] at dd;have hvn:∀m:Nat,m<=9223372036854775807->VR M (.int .i64 ↑m:AV D.E) (goInt m):=λm hm=>.int (jw hm)
  by_cases hsub:∃b' o' ts,c=.sub b' o' ts
  ·obtain⟨b',o',ts,rfl⟩:=hsub;have⟨cs,X,h8⟩:=an.1 h7;have⟨l,hl,h9⟩:=an.1 h8;have⟨z,R⟩:=bz.1 h9;have⟨s2,p,S⟩:=an.1 R;have⟨cv,Y,T⟩:=an.1 S;cases av.1 T;have Y:=rA.1 (bC.1 Y);subst Y;obtain⟨N,rfl⟩:=jf (bC.1 hl);rw[mj] at p z N;rw[Be] at p z N ⊢;have hmn:Nat.min ts n=min ts n:=rfl
   
   have Z:∃y,LR M ((cs.drop o').take (min ts n)) y/\y.length=min ts n/\(Builtin.firstCells 1 (min ts n) I).run P w=.ok y.toArray w/\(∀w2:World,(Builtin.lenOf I).run P w2=.ok ts w2):=by
    cases hx with
    | sub j hr hcc _=>
     have⟨e2,ro,hb⟩:=pF X;have⟨N7,x',_,W⟩:=vs.obj b' _ hb;rw[j] at x';cases x';have⟨y,q1,q2,q3⟩:=((W.rd.drop o').take (min ts n)).run (P:=P);have hle:((cs.drop o').take (min ts n)).length=min ts n:=by grind
     rw[hle] at q2 q3;exact⟨y,q1,q2,by grind [Builtin.firstCells],λw2=>by rfl⟩
    | oM=>
     refine⟨[],?_,by simp,by rfl,λw2=>by rfl⟩;simpa using LR.nil
   have⟨y,q1,q2,q3,q4⟩:=Z;have hb64:min ts n<=9223372036854775807:=ω;cases hd with
   | sub j hr hcc _=>
    have⟨r1,r2⟩:=wj (P:=P) p j vs q1 z;refine⟨M,_,_,?_,.num (jw hb64),r2⟩;simp only[Builtin.copy_,h0,h1,Q,Zzd,Zzb,Zza f,q4,cJ dd,q3];rw[r1];rfl
   | oM=>
    have hz:min ts 0=0:=ω;rw[hz] at p q2 q3 ⊢;have hv0:=Zap q2;subst hv0;refine⟨M,_,w,?_,.num (jw (Zaj _)),by rw[(nC p).1,(nC p).2];exact .refl vs _⟩;have Qcn:Nat.min ts 0=0:=by assumption
    simp[Builtin.copy_,h0,h1,Q,Zza f,q4,cJ dd,q3,storeCells,goInt]
  ·have h8:(aA (aW D s D.bc c) λg=>aA (pA s d') λcs=>aA (cN (tH n (oe o cs))) λl=>aA (I9 D (D.ym g) l (nat_lit 0)) λl=>aA (sK D s d' o l) λs=>.ret (.int .i64 (ga (.ofNat n) (dS (D.ym g))),s)).H (U,s'):=by
    grind
   have⟨g,hys,h9⟩:=an.1 h8;have⟨cs,X,R⟩:=an.1 h9;have⟨l,hl,S⟩:=an.1 R;have⟨r,K,T⟩:=an.1 S;have⟨s2,p,h13⟩:=an.1 T;cases av.1 h13;obtain⟨N,rfl⟩:=jf (bC.1 hl);rw[mj] at K N;have⟨news,L⟩:=ny (P:=P) J hys hx vs;have hbl:=J.bl g;have hmin:Nat.min g.length n<=g.length:=ZdI _ _;have a:=L.cells (Nat.min g.length n) hmin w rfl;rw[J.b1,Zb8] at a;have hmn:Nat.min g.length n=min g.length n:=rfl;have O:VR M (.int .i64 (ga (Int.ofNat n) (dS (D.ym g))):AV D.E) (goInt (Nat.min g.length n)):=by
    grind [dS,Ju]
   cases hd with
   | @sub _ _ _ cap0 mi j hr hcc _=>
    have⟨cs0,e0,hw0,k1⟩:=bq.1 p;have⟨cs1,hp1,k2⟩:=an.1 k1;have⟨g1,g2⟩:=kJ k2;have hb:=Bg hw0;have⟨e3,ro3,hb3⟩:=pF X;rw[hb] at hb3;cases hb3;have⟨N7,x',hr3,W⟩:=vs.obj d' _ hb;rw[j] at x';cases x';have⟨C,fz,c1,c2,c3,c4,c5⟩:=W;have⟨p1,p2,p3⟩:=jg (bC.1 hp1);have⟨old,hold,hc0⟩:=((N6.rd ⟨C,fz,c1,c2,c3,c4,c5⟩).drop o).take n |>.list
    have hln:((cs.drop o).take n).length=n:=by grind
    have A:=wq K hold;rw[ZbQ,hln] at A;have htk:(D.ym g).take n=(D.ym g).take (Nat.min g.length n):=by
     grind
    have hvs:((D.ym g).take n).map (λd'=>Value.int .u8 d'.toNat)=news.take (Nat.min g.length n):=by rw[htk,List.map_take,(tN J L.lr)]
    rw[hvs] at A;have hvl:(news.take (Nat.min g.length n)).length=Nat.min g.length n:=by
     grind
    have QlY:((D.ym g).take n).length=Nat.min g.length n:=by
     grind
    rw[QlY] at A;have z:∀u∈news.take (Nat.min g.length n),u.oneCell':=by
     rw[<-hvs];intro u hu;obtain⟨q,_,rfl⟩:=ZcL.1 hu;rfl
    generalize news.take (Nat.min g.length n)=y at A a hvl z;have hk:Nat.min g.length n<=n:=ZcW _ _;generalize hkk:Nat.min g.length n=k at A a hvl hk O;have hrl:r.length=n:=by
     have h20:r.length=y.length+(old.length-k):=by rw[A.1];simp
     have h21:=hold.1;omega
    have hol:old.length=n:=by rw[<-hold.1,hln]
    have⟨d1,d2,d3⟩:=rD (o1:=.cells cs1 e0 false) (q:=mi.sh+o) (vs':=y) vs hb rfl j hr c1 c2 ω (c5 rfl) (λ_=>trivial) (λC' w1 w2 w3=>⟨⟨hr3.1,hr3.2.1,ω⟩,C',fz,w1,w2.trans c2,ω,λi u hi=>by
     rw[p3 i] at hi;rw[w3];by_cases hc:o<=i/\i<o+r.length
     ·rw[Zac hc] at hi;have⟨v',a1,a2⟩:=A.get hi;by_cases hik:i-o<k
      ·rw[ show mi.sh+i-(mi.sh+o)=i-o by omega];grind
      ·rw[Zaa ω];rw[Zaz ω,ZbX,hvl,show k+(i-o-k)=i-o by omega] at a1;have:=hc0 (i-o) v' a1;refine⟨v',?_,a2⟩;simp only[World.cell?] at this;grind
     ·rw[Zaa hc] at hi;rw[Zaa ω];exact c4 i u hi,c5⟩) s.nx
    refine⟨M,_,_,?_,O,by rw[g1,g2];exact d3⟩;simp only[Builtin.copy_,h0,h1,Q,Zzd,Zzb,Zza f,L.len,cJ dd,hkk,a];rw[(run_storeCells_cells (P:=P) mi.bZ (mi.sh+o) y 0 w (by assumption) (by assumption) z)];rfl
   | oM=>
    have hz:Nat.min g.length 0=0:=ω;rw[hz] at a O;rw[ZcA] at a;have QlZ:r=[]:=by
     rw[ZcA] at K;cases av.1 (K);rfl
    subst QlZ;refine⟨M,_,w,?_,O,by rw[(nC p).1,(nC p).2];exact .refl vs _⟩;simp[Builtin.copy_,h0,h1,Q,Zza f,L.len,cJ dd,a,storeCells]
theorem FD (h:dU8 d):d=.int .u8:=by
 cases d<;>simp only[dU8] at h<;>(try cases h);grind
theorem tP {a:TypeDesc} (h:(uZ D a Y X).H v) (hs:P.underlying e=some d) (b:P.underlying Z=some a):∃src,(∀w,(convert e Z (.int k Y)).run P w=.ok src w)/\VR M v src:=by
 cases a<;>simp only[uZ] at h<;>(try exact h.elim)
 case int ds=>
  refine⟨.int ds (ds.wrap Y),λw=>by simp[convert,Zza hs,Zza b,Conv.intToInt],?_⟩;cases X with
  | true=>
   have⟨c,f,h1⟩:=an.1 (h);cases av.1 h1;have:=bC.1 f;rw[gj,jE] at this;subst this;exact .num (cE _ _)
  | false=>cases av.1 (h);exact .int (cE _ _)
 case string=>
  cases av.1 h;refine⟨.string (Utf8.encode Y),λw=>by simp[convert,Zza hs,Zza b,Conv.intToString],?_⟩;have hl:(Utf8.encode Y).data.toList.length<=9223372036854775807:=by
   grind [Utf8.encode]
  exact .str hl
theorem tQ:∀(l':List Value) (r:List UInt8) (s0:ByteArray),l'.length=r.length->(∀(i:Nat) (v:Value),l'[i]?=some v->∃m:Nat,v=.int .u8 m/\r[i]?=some (UInt8.ofNat m))->∀w,
  ((forIn l' s0 λc (s:ByteArray)=>(match c with
   | .int .u8 n=>Pure.pure (ForInStep.yield (s.push (UInt8.ofNat n.toNat)))
   | _=>do
    stuck "bytesToString: byte expected"
    Pure.pure (ForInStep.yield s):Sem (ForInStep ByteArray)):Sem ByteArray)).run P w=.ok ⟨⟨s0.data.toList++r⟩⟩ w
 | [],r,s0,hl,_,w=>by
  have:r=[]:=Zap (by grind);simp_all
 | v::l',r,s0,hl,h,w=>by
  cases r with
  | nil=>simp at hl
  | cons b r=>
   obtain⟨m,rfl,e⟩:=h 0 v rfl;have eb:b=UInt8.ofNat m:=by grind
   have ih:=tQ l' r (s0.push (UInt8.ofNat m)) (by grind) (λi v hv=>h (i+1) v (by assumption)) w;simp_all
theorem FE {xs:List (D.E o)} {a:MI} {H:Hp D} {r:Nat×Nat} (b:dX M H w) (n:H m=some (.arr o xs e false)) (i:M.pl m=some a) (k:a.real) (h1:a.jh=1) (t:w.heap[a.bZ]?=some (.cells G e r)) (dd:G.size=a.qu) (lo:Nat):
  cP H M w H M (w.freeze ⟨a.bZ,G.size,none⟩ 1) lo lo:=by
 have⟨u,g,hl,q,p⟩:=b.obj m _ n;rw[i] at g;cases g;have⟨A,s,k1,k2,k3,k4,k5⟩:=p k;rw[t] at k1;cases k1;have hk:∀x,x≠a.bZ->(w.freeze ⟨a.bZ,G.size,none⟩ 1).heap[x]?=w.heap[x]?:=λx B=>by
  grind [World.freeze]
 have hw:∃d:Nat×Nat,(w.freeze ⟨a.bZ,G.size,none⟩ 1).heap[a.bZ]?=some (.cells G e d)/\a.qu<=d.1:=by
  grind [World.freeze]
 have⟨d,y,z⟩:=hw;have f:∀j,M.sg a.bZ j=none:=λj=>b.sep m _ a n rfl i k j trivial
 have:=cP.upon (M1:=M) (sg1:=M.sg) (b0:=m) (b1:=m) (o1:=.arr o xs e false) (Bd:=a) (w':=w.freeze ⟨a.bZ,G.size,none⟩ 1) (lo:=lo) (hi:=lo) b n rfl i k k rfl (by
   cases M with
   | mk pl sg=>
    congr 1;funext o;by_cases e:o=m
    ·rw[Zac e,e];exact i
    ·rw[Zaa e]) (.inl ⟨rfl,rfl,rfl⟩) (λ_ _ _ h=>h) (λ_ _ h=>.inl h) (by grind [World.freeze]) hk (by rfl) (by rfl) (by rfl)
  ⟨hl,q,λ_=>⟨G,d,y,dd,k3,k4,λ_=>.inr ⟨z,h1⟩⟩⟩
  (λc v h=>by grind) (λ_ j _=>f j) (λo xs e h=>by cases h)
 have e2:(λl=>if l=m then some (.arr o xs e false) else if l=m then none else H l)=H:=by
  grind
 grind
theorem FF (p:a7 D) (h:(Oz P D cd X s e Z v).H (c,s')) (J:VR M v b) (L:dX M s.h.get w) (hf:bW M s.nx s'.nx):vd s M w ((convert e Z b).run P w) c s':=by
 have⟨ds,j,h1⟩:=an.1 h;have⟨dst,g,m⟩:=an.1 h1;rw[gT] at j g
 
 have sl:∀{y:AV D.E},y=v->(Fp P D cd s ds dst y).H (c,s')->(∀l,b≠.string l)->vd s M w ((convert e Z b).run P w) c s':=by
  intro y hy o hns;subst hy;have⟨src,R,A⟩:=an.1 o;have U:P.underlying e=some (.slice src):=by cases ds<;>first | (cases av.1 R;exact j) | exact R.elim
  cases dst<;>simp only at A<;>(try exact A.elim)
  case string=>
   have⟨de,f,N⟩:=an.1 A;have⟨hu,O⟩:=bz.1 N;have⟨x,Q,h7⟩:=an.1 O;have⟨hcb,h8⟩:=bz.1 h7;have⟨t,hys,h9⟩:=an.1 h8;cases av.1 h9;rw[gT,FD hu] at f;have⟨news,r⟩:=ny (P:=P) p hys J L;have F:=tN p r.lr;have hbl:=p.bl t;have d:=r.cells t.length (Zah _) w rfl;have hnl:news.length=t.length:=by grind
   rw[p.b1,Zb8,<-hnl,ZaM] at d;have hlen:=r.len w;have q:=tQ (P:=P) news (D.ym t) ByteArray.empty ω (λi c W=>by
    rw[F,Zbk] at W;cases hq:(D.ym t)[i]? with
    | none=>rw[hq] at W;cases W
    | some Y=>rw[hq] at W;cases W;exact⟨Y.toNat,rfl,by simp⟩) w
   have K:(D.ym t).length<=9223372036854775807:=by
    rw[hbl];exact r.max
   refine vd.pure L (v':=.string ⟨⟨D.ym t⟩⟩) ?_ (.str K)
   
   cases b<;>simp only[Builtin.lenOf] at hlen<;>(try (simp at hlen;done))
   case string l=>exact absurd rfl (hns l)
   case slice ad n cap=>
    have hn:n=t.length:=by simp_all
    subst hn;cases ad with
    | none=>
     simp only[Builtin.firstCells,Zzc,Result.ok.injEq] at d;have h20:news=[]:=by
      grind
     have h21:D.ym t=[]:=by
      grind
     rw[h21];simp[convert,Zza U,Zza g,Zza f];rfl
    | some a0=>
     simp only[Builtin.firstCells] at d;simp only[convert,Zza U,Zza g,Zza f,Conv.bytesToString,Zzd,Zzb];simp_all
 cases v<;>simp only at m<;>(try (refine sl rfl m (λl src=>?_);subst src;cases J;done))
 case own Y k n=>
  rcases gS.1 m with⟨_,o⟩ | ⟨_,o⟩
  ·have⟨e0,S,A⟩:=an.1 o;have⟨src,R,N⟩:=an.1 A;have⟨G,O⟩:=bz.1 N;have⟨hk1,h7⟩:=bz.1 O;have⟨de,f,h8⟩:=an.1 h7;have⟨hu,h9⟩:=bz.1 h8;have⟨ar,har,h10⟩:=an.1 h9;rcases gS.1 h10 with⟨_,z⟩ | ⟨hro,z⟩
   ·exact z.elim
   have⟨hn,h12⟩:=cX.1 z;cases av.1 h12;have V:P.underlying e=some (.slice e0):=by cases ds<;>first | (cases av.1 S;exact j) | exact S.elim
   have hd1:P.underlying Z=some (.slice src):=by cases dst<;>first | (cases av.1 R;exact g) | exact R.elim
   rw[gT,FD hu] at f;have G:=aN.1 G;subst G;have q:=jx har;rw[hro] at q;cases J with
   | l5 h hk hr B hl=>rw[B] at hn;exact absurd hn (by decide)
   | own h hk hr B hm0 Q ht=>
    rename_i cap mu
    have⟨N7,T,_,_,hcl⟩:=L.obj Y _ q;rw[h] at T;cases T;have⟨C,fz,k1,k2,_⟩:=hcl hr;refine⟨M,.slice (some ⟨mu.bZ,mu.sh,none⟩) mu.len cap,w.freeze ⟨mu.bZ,C.size,none⟩ 1,?_,.own h hk hr B hm0 Q ht,FE L q h hr (hk.trans (aN.1 hk1)) k1 k2 _⟩;have hsh:w.shape? mu.bZ=some (ar.e,C.size):=by unfold World.shape?;rw[k1]
    simp[convert,Zza V,markStringish];cases V.symm.trans hd1;simp[Zza f,hsh]
  ·refine sl rfl o (λl src=>?_);subst src;cases J
 case int k n=>
  have⟨v2,I,o⟩:=an.1 m;cases av.1 o;cases J;have⟨v',k1,k2⟩:=tP (M:=M) (k:=k) I j g;grind [vd.pure]
 case num k n=>
  have⟨v2,I,o⟩:=an.1 m;cases av.1 o;cases J;have⟨v',k1,k2⟩:=tP (M:=M) (k:=k) I j g;grind [vd.pure]
 case str l=>
  cases J with
  | str hl=>
  replace m:=(bz.1 m).2;cases dst<;>simp only at m<;>(try exact m.elim)
  case string=>
   cases av.1 m;refine vd.pure L (v':=.string ⟨⟨l⟩⟩) ?_ (.str hl);cases ds<;>simp[convert,Zza j,Zza g]
  case slice src=>
   have⟨de,f,o⟩:=an.1 m;have⟨hu,A⟩:=bz.1 o;have⟨x,Q,N⟩:=an.1 A;have⟨xs,hxs,O⟩:=an.1 N;obtain⟨rfl,hq⟩:=cM hxs;cases hq;rw[gT,FD hu] at f;have hbs:(⟨⟨l⟩⟩:ByteArray).size=l.length:=rfl;have hol:(D.ofB l).length=l.length:=by rw[<-p.bl,p.bo]
   have hge:=grownCap_ge w l.length 0 src;have hCs:(Lib.bytesCells w src ⟨⟨l⟩⟩).size=grownCap w l.length 0 src:=by
    grind [Lib.bytesCells]
   have⟨M',k1,k2⟩:=nw (w:=w) (w':=Lib.bytesWorld w src ⟨⟨l⟩⟩) (C:=Lib.bytesCells w src ⟨⟨l⟩⟩) (cap:=grownCap w l.length 0 src) p O L hf (by rw[Lib.bytesWorld_size];omega) (λx Q=>Lib.bytesWorld_at_old w src _ x Q) (Lib.bytesWorld_at_new w src _) (.inr ⟨Zah _,p.b1⟩) rfl rfl rfl
    (λi u hu=>by
     rw[qF p,p.bo,Zbk] at hu;cases q:l[i]? with
     | none=>rw[q] at hu;cases hu
     | some Y=>
      rw[q] at hu;cases hu;have hi:=(Zam.1 q).1;refine⟨.int .u8 Y.toNat,?_,.int (rB Y)⟩;unfold Lib.bytesCells;rw[ZbT (by grind),Zdg];show(l.toArray[i]?).map _=_
      rw[Zc0,q];rfl) (by rw[hCs,p.b1,Zb8]) ω ω
   refine⟨M',_,_,(Lib.run_convert_string_bytes (P:=P) w e Z src ⟨⟨l⟩⟩ j g f),?_,k2⟩;grind
end
section
variable {P:Program} {D:Data} {cd:TypeId->Option Nat} {M M':Pm D} {φ:T (AV D.E)} {a:Act} {N:Nat} {w w':World} {H:Hp D} {s s':St D.E}
variable {m y l:Nat} {e d F:Option Value} {x X W:Option (AV D.E)} {Z U:TypeId} {Y v L:AV D.E} {z:Value} {h V:Int} {O:Option Addr}
variable {K J:Nat}
def LN (M:Pm D) (x:Option (AV D.E)) (b:Option Value):Prop:=(x=none/\b=none)\/∃u a,x=some u/\b=some a/\VR M u a
theorem LN.map {v:Option Operand} (h:(evO P D φ v).H x) (b:FR M φ a N):LN M x (v.map a.eval):=by
 cases v with
 | none=>cases av.1 (h);exact .inl ⟨rfl,rfl⟩
 | some y=>
  have⟨u,hu,h1⟩:=an.1 (h);cases av.1 h1;exact .inr ⟨u,_,rfl,rfl,dF hu b⟩
theorem cY {k:IntKind} (h:m<=y) (ae:BoundsCode) (w:World):(Instr.sliceBound (.int k (m:Int)) y ae).run P w=.ok m w:=by
 grind [Instr.sliceBound,asIntOf,Sem.run_pure]
theorem eA {b:Bool} (c:(F=none/\J=y)\/∃k,F=some (.int k (J:Int))/\J<=y)
  (a:(d=none/\F=none/\K=m)\/∃k,d=some (.int k (K:Int))/\K<=J) (hl:(e=none/\l=0)\/∃k,e=some (.int k (l:Int))/\l<=K) (w:World):
  (Instr.sliceBounds b m y e d F).run P w=.ok (l,K,J) w:=by
 rcases c with⟨rfl,rfl⟩ | ⟨k1,rfl,c⟩<;>rcases a with⟨rfl,h0,rfl⟩ | ⟨k2,rfl,a⟩<;>rcases hl with⟨rfl,rfl⟩ | ⟨k3,rfl,hl⟩
 all_goals first
  | (cases h0;done)
  | (simp only[Instr.sliceBounds,Zzd,Zzc,Zzb,cY c,cY a,cY hl])
  | (simp only[Instr.sliceBounds,Zzd,Zzc,Zzb,cY c,cY a])
  | (simp only[Instr.sliceBounds,Zzd,Zzc,Zzb,cY a,cY hl])
  | (simp only[Instr.sliceBounds,Zzd,Zzc,Zzb,cY a])
  | (simp only[Instr.sliceBounds,Zzd,Zzc,Zzb,cY hl])
  | (simp only[Instr.sliceBounds,Zzd,Zzc,Zzb])
theorem gD {size:Nat} (ht:P.underlying Z=some (.slice U)) (hs:uu P U=some m)
  (a:∀w,(Instr.sliceBounds true y l e d F).run P w=.ok (K,J,size) w) (w:World):
  (Instr.sliceAt Z (.slice O y l) e d F).run P w=.ok (.slice (if size=K then O else O.map (·.add (K*m))) (J-K) (size-K)) w:=by
 simp only[Instr.sliceAt,Zzd,Zza ht,Zzb,Instr.slice,a,cJ hs,Zzc]
theorem wu {α:Type} {xs r:List α} (h:(LF D xs x X W).H r) (G:LN M x e) (C:LN M X d) (I:LN M W F):∃l a:Nat,l<=a/\a<=xs.length/\r=(xs.take a).drop l/\
  ∀cap,xs.length<=cap->∃m,a<=m/\m<=cap/\∀(b:Bool) (w:World),(Instr.sliceBounds b xs.length cap e d F).run P w=.ok (l,a,m) w:=by
 have⟨_,h1,U⟩:=an.1 h;have⟨S,N,O⟩:=an.1 U
 
 obtain⟨a,hle,rfl,s⟩:∃a:Nat,a<=xs.length/\S=xs.take a/\((X=none/\d=none/\a=xs.length)\/∃k u,X=some u/\d=some (.int k ↑a)/\∀k2 v,(da u).H (k2,v)->v=a):=by
  rcases C with⟨rfl,rfl⟩ | ⟨u,R,rfl,rfl,hu⟩
  ·cases av.1 (N);simp_all
  ·have⟨k,n,i,j⟩:=bq.1 (show(aQ (da u) λ_ h=>ask (aI zI h) (ask (aI h (ah xs)) (.ret (dv xs h)))).H S from N);have⟨g,o⟩:=cX.1 j;have⟨p,c⟩:=cX.1 o;cases av.1 c;obtain⟨rfl,_⟩:=iH i hu;have A:0<=n:=ZaH g;have B:n<=↑xs.length:=ZaH p;grind [dv,Qe9]
 obtain⟨l,t,rfl,f⟩:∃l:Nat,l<=a/\r=(xs.take a).drop l/\((e=none/\l=0)\/∃k,e=some (.int k ↑l)/\l<=a):=by
  have hlen:(xs.take a).length=a:=by grind
  rcases G with⟨rfl,rfl⟩ | ⟨u,R,rfl,rfl,hu⟩
  ·cases av.1 (O);simp_all
  ·have⟨k,n,i,j⟩:=bq.1 (show(aQ (da u) λ_ l=>ask (aI zI l) (ask (aI l (ah (xs.take a))) (.ret (vU (xs.take a) l)))).H r from O);have⟨g,o⟩:=cX.1 j;have⟨p,c⟩:=cX.1 o;cases av.1 c;obtain⟨rfl,_⟩:=iH i hu;have A:0<=n:=ZaH g;have B:n<=((xs.take a).length:Int):=ZaH p;grind [vU]
 refine⟨l,a,t,hle,rfl,λcap Q=>?_⟩;rcases I with⟨rfl,rfl⟩ | ⟨u,R,rfl,rfl,hu⟩
 ·refine⟨cap,ω,Zah _,λb w=>eA (.inl ⟨rfl,rfl⟩) ?_ f w⟩;grind
 ·have⟨k,m,i,j⟩:=bq.1 (show(aQ (da u) λ_ m=>aA (cN X) λX=>aQ (da X) λ_ h=>ask (aI h m) (ask (aI m (ah xs)) (.ret ()))).H _ from h1);have⟨mx,g,o⟩:=an.1 j;have⟨k2,v,p,c⟩:=bq.1 o;have⟨lo,y⟩:=cX.1 c;have⟨z,_⟩:=cX.1 y;obtain⟨rfl,_⟩:=iH i hu;have L:m<=↑xs.length:=ZaH z;have K:=ZaH lo;rcases s with⟨J,_⟩ | ⟨k3,hi,J,e2,T⟩
  ·grind [bC]
  ·rw[ J] at g;cases g;have:=T k2 v p;subst this;obtain⟨V,rfl⟩:∃q:Nat,m=q:=⟨m.toNat,ω⟩;exact⟨V,ω,ω,λb w=>eA (.inr ⟨k,rfl,ω⟩) (.inr ⟨k3,e2,ω⟩) f w⟩
theorem wv {m:Int} (d:(iB D x h V).H m) (l:LN M x e):(x=none/\e=none/\m=h)\/∃(k:IntKind) (q:Nat),m=q/\e=some (.int k (q:Int))/\m<=V:=by
 rcases l with⟨rfl,rfl⟩ | ⟨u,p,rfl,rfl,hu⟩
 ·cases av.1 (d);exact .inl ⟨rfl,rfl,rfl⟩
 ·have⟨k,n,c,b⟩:=bq.1 (show(aQ (da u) λ_ m=>ask (aI zI m) (ask (aI m V) (.ret m))).H m from d);have⟨f,i⟩:=cX.1 b;have⟨j,a⟩:=cX.1 i;cases av.1 a;obtain⟨rfl,_⟩:=iH c hu;have g:0<=m:=ZaH f;obtain⟨o,rfl⟩:∃q:Nat,m=q:=⟨m.toNat,ω⟩;exact .inr ⟨k,o,rfl,rfl,ZaH j⟩
theorem hV (h:(oF D x m y).H l) (b:LN M x e):(x=none/\e=none/\l=m)\/∃k,e=some (.int k (l:Int))/\l<=y/\x≠none:=by
 rcases b with⟨rfl,rfl⟩ | ⟨u,a,rfl,rfl,hu⟩
 ·cases av.1 (h);exact .inl ⟨rfl,rfl,rfl⟩
 ·have⟨n,c,h1⟩:=an.1 (h);grind [bz,av,FB,cu]
theorem CU {Qfc:Option Value} (l:Ov D x) (b:(iB D x zI V).H h):h=0:=by
 cases x with
 | none=>exact(av.1 (b)).symm
 | some v=>
  have⟨k,n,c,d⟩:=bq.1 (show(aQ (da v) λ_ m=>ask (aI zI m) (ask (aI m V) (.ret m))).H h from b);have⟨_,e⟩:=cX.1 d;have⟨_,a⟩:=cX.1 e;cases av.1 a;cases v<;>simp only[Ov] at l<;>(try cases l)
  case num k2 f=>
   cases av.1 c;rw[qE] at l;simpa [zI] using l
theorem oP:(some (⟨m,y,none⟩:Addr)).map (·.add l)=some ⟨m,y+l,none⟩:=by grind [OZ]
theorem Bj {len cap:Nat} {base:Option Addr} (ht:P.underlying Z=some (.slice U)) (hs:uu P U=some m) (k:LN M W F) (v:W=none) (y:(iB D X (len:Int) (len:Int)).H h) (hl:(iB D x zI h).H V)
  (j:LN M x e) (r:LN M X d) (o:len<=cap):∃b a:Nat,h=b/\V=a/\a<=b/\b<=len/\∀w,(Instr.sliceAt Z (.slice base len cap) e d F).run P w=.ok (.slice (if cap=a then base else base.map (·.add (a*m))) (b-a) (cap-a)) w:=by
 have g:F=none:=by rcases k with⟨_,U⟩ | ⟨u,z,U,_⟩;exact U;rw[v] at U;cases U
 subst g;obtain⟨b,rfl,n,p⟩:∃b:Nat,h=b/\b<=len/\((d=none/\b=len)\/∃q,d=some (.int q ↑b)):=by
  grind [wv]
 obtain⟨a,rfl,i,s⟩:∃a:Nat,V=a/\a<=b/\((e=none/\a=0)\/∃q,e=some (.int q ↑a)/\a<=b):=by
  rcases wv hl j with⟨_,e2,rfl⟩ | ⟨q,a,rfl,e2,lo⟩
  ·exact⟨0,rfl,Zaj _,.inl ⟨e2,rfl⟩⟩
  ·grind
 refine⟨b,a,rfl,rfl,i,n,λw=>?_⟩;grind [gD,eA]
theorem FG (_hD:a7 D) (h:(Ow P D Z Y x X W).H v) (hx:VR M Y z) (J:LN M x e) (I:LN M X d) (C:LN M W F):
  ∃S,(∀w,(Instr.sliceAt Z z e d F).run P w=.ok S w)/\VR M v S:=by
 have⟨G,hd,h1⟩:=an.1 h;rw[gT] at hd;cases G<;>simp only at h1<;>(try exact h1.elim)
 case string=>
  have⟨A,U⟩:=bz.1 h1;have⟨l,hl,K⟩:=an.1 U;have⟨r,x',L⟩:=an.1 K;cases av.1 L;obtain⟨rfl,QtC⟩:=mv hl hx;obtain⟨y,f,hln,Q,rfl,t⟩:=wu (P:=P) x' J I C;have⟨m,_,_,hi⟩:=t l.length (Zah _);have O:F=none:=by
   rcases C with⟨_,B⟩ | ⟨u,u',B,_⟩
   all_goals grind
  subst O;refine⟨.string ⟨⟨(l.take f).drop y⟩⟩,λw=>?_,.str (by grind)⟩;have dd:(⟨⟨l⟩⟩:ByteArray).size=l.length:=rfl;simp only[Instr.sliceAt,Zzd,Zza hd,Zzb,Instr.slice,Option.isSome_none,ZaE,Za0,dd,hi,Zzc,tM ⟨⟨l⟩⟩ y f hln Q];grind [List.drop_take]
 case slice B=>
  have⟨k,hk,U⟩:=an.1 h1;rw[sP] at hk
  
  have lst:∀{c b o cap:Nat} {xs r:List (D.E c)},k=D.size c->(LF D xs x X W).H r->cx M b o c xs->xs.length<=9223372036854775807->xs.length<=cap->∃S,(∀w,(Instr.sliceAt Z (.slice (some ⟨b,o,none⟩) xs.length cap) e d F).run P w=.ok S w)/\VR M (.list c r) S:=by
   intro c b o cap xs r hkc x' qG V T;obtain⟨y,f,hln,Q,rfl,t⟩:=wu (P:=P) x' J I C;have⟨m,hm1,hm2,hi⟩:=t cap T;refine⟨_,λw=>gD hd hk (hi true) w,?_⟩;have hlen:((xs.take f).drop y).length=f-y:=by grind
   by_cases hml:m=y
   ·have h0:f-y=0:=ω;have he:(xs.take f).drop y=[]:=Zap ω;rw[he,h0];exact .dW
   ·rw[Zaa hml,oP,<-hlen];refine .list (λi X j u hu=>?_) ω ω;have hi2:y+i<xs.length:=ω;have hg:((xs.take f).drop y)[i]=xs[y+i]:=by simp
    rw[hg] at hu;have:=qG (y+i) hi2 j u hu;grind
  have emp:∀{c cap:Nat} {ad:Option Addr} {r:List (D.E c)},(LF D ([]:List (D.E c)) x X W).H r->∃S,(∀w,(Instr.sliceAt Z (.slice ad 0 cap) e d F).run P w=.ok S w)/\VR M (.list c r) S:=by
   intro c cap ad r x';obtain⟨y,f,hln,Q,rfl,t⟩:=wu (P:=P) x' J I C;have⟨m,hm1,hm2,hi⟩:=t cap (Zaj _);refine⟨_,λw=>gD hd hk (hi true) w,?_⟩;have h0:f-y=0:=by grind
   rw[h0];simp only[Zdl,List.drop_nil];exact .dW
  
  have Qfd:∀{b:Nat} {len cap:Nat} {s:MI} {h0 mx:Int},M.pl b=some s->s.jh=k->s.real->len<=s.len->s.len<=9223372036854775807->s.len<=cap->s.sh+cap*s.jh=s.qu->Option.isNone W->(iB D X ↑len ↑len).H h0->(iB D x zI h0).H mx->
    ∃S,(∀w,(Instr.sliceAt Z (.slice (some ⟨s.bZ,s.sh,none⟩) len cap) e d F).run P w=.ok S w)/\VR M (yW D b k mx h0 (Ov D x)) S:=by
   intro b len cap s h0 mx g p x' hlen h64 hcap htot A N hl;obtain⟨f,y,rfl,rfl,hll,Q,R⟩:=Bj (P:=P) (base:=some ⟨s.bZ,s.sh,none⟩) (cap:=cap) hd hk C (by simpa using A) N hl J I ω;refine⟨_,R,?_⟩;unfold yW;cases hz:Ov D x with
   | true=>
    have:=CU (Qfc:=e) hz hl;have hl0:y=0:=ω;subst hl0;have Ql0:(if cap=0 then some (⟨s.bZ,s.sh,none⟩:Addr) else(some (⟨s.bZ,s.sh,none⟩:Addr)).map (·.add (0*k)))=some ⟨s.bZ,s.sh,none⟩:=by
     split
     ·rfl
     ·rw[oP];simp
    rw[Ql0];exact .pre g p x' rfl h64 ω hcap htot
   | false=>
    show VR M (.part b k ↑y ((f:Int) -↑y)) _
    have hsub:((f:Int) -↑y)=((f-y:Nat):Int):=ω;by_cases hcl:cap=y
    ·rw[Zac hcl];have h1:f-y=0:=ω;rw[hsub,h1];exact .jC g p rfl ω
    ·rw[ oP];have:=VR.part (M:=M) (b:=b) (k:=k) (l:=f-y) (cap:=cap-y) (o:=↑y) (n:=((f-y:Nat):Int)) g p x' rfl ω ω h64 ω;grind
  have Qfe:∀{b:Nat} {s:MI} {h0 mx:Int},M.pl b=some s->s.jh=k->s.real=false->s.len=0->Option.isNone W->(iB D X (0:Int) (0:Int)).H h0->(iB D x zI h0).H mx->
    ∃S,(∀w,(Instr.sliceAt Z (.slice none 0 0) e d F).run P w=.ok S w)/\VR M (yW D b k mx h0 (Ov D x)) S:=by
   intro b s h0 mx g p x' hlen A N hl;obtain⟨f,y,rfl,rfl,hll,Q,R⟩:=Bj (P:=P) (len:=0) (base:=none) (cap:=0) hd hk C (by simpa using A) N hl J I (Zah _);refine⟨_,R,?_⟩;obtain rfl:f=0:=ω;obtain rfl:y=0:=ω;unfold yW;cases hz:Ov D x with
   | true=>exact .oL g p x' rfl hlen
   | false=>exact .jC g p (by simp) (by simp)
  cases Y<;>simp only at U<;>(try exact U.elim)
  case list c xs=>
   have⟨hkc,K⟩:=bz.1 U;have⟨r,x',L⟩:=an.1 K;cases av.1 L;cases hx with
   | list hs V T=>exact lst (aN.1 hkc) x' hs V T
   | dW=>exact emp x'
  case grow c xs b=>
   have⟨hkc,K⟩:=bz.1 U;have⟨r,x',L⟩:=an.1 K;cases av.1 L;cases hx with
   | grow g hr2 hl hz hs V T ht=>exact lst (aN.1 hkc) x' hs V T
   | j6 g hr2=>exact emp x'
  case cW=>
   cases hx;have⟨m,V,K⟩:=an.1 U;have⟨f,N,L⟩:=an.1 K;have⟨l,hl,lo⟩:=an.1 L;have hmh:Bool.and (Option.isSome W) (Option.isNone X)=false/\v=.cW:=by
    rcases gS.1 lo with⟨_,h9⟩ | ⟨h8,h9⟩
    ·exact h9.elim
    ·grind [av]
   obtain⟨hmh,rfl⟩:=hmh;have rm:=hV V C;have rh:=hV N I;have rl:=hV hl J;have m0:m=0:=ω;have h0:f=0:=ω;have mx:l=0:=ω;subst m0 h0 mx;have hi:∀w,(Instr.sliceBounds true 0 0 e d F).run P w=.ok (0,0,0) w:=λw=>eA (by
     rcases rm with⟨_,e2,_⟩ | ⟨q,e2,_⟩
     ·exact .inl ⟨e2,rfl⟩
     ·exact .inr ⟨q,e2,Zah _⟩) (by
     rcases rh with⟨e1,e2,_⟩ | ⟨q,e2,_⟩
     ·refine .inl ⟨e2,?_,rfl⟩;rcases C with⟨_,B⟩ | ⟨u,u',B,_⟩
      ·exact B
      ·rw[B,e1] at hmh;cases hmh
     ·exact .inr ⟨q,e2,Zah _⟩) (by
     rcases rl with⟨_,e2,_⟩ | ⟨q,e2,_⟩
     ·exact .inl ⟨e2,rfl⟩
     ·exact .inr ⟨q,e2,Zah _⟩) w
   refine⟨_,λw=>gD hd hk hi w,?_⟩;simp;exact .cW
  case own b k' n=>
   have⟨hq,K⟩:=bz.1 U;rw[iG,aN] at hq;obtain⟨rfl,A⟩:=hq;have⟨h0,N,L⟩:=an.1 K;have⟨mx,hl,lo⟩:=an.1 L;cases av.1 lo;cases hx with
   | own g p x' f V T ht=>subst f;exact Qfd g p x' (Zah _) V T ht A N hl
   | l5 g p x' f hlz=>subst f;exact Qfe g p x' hlz A N hl
  case pre b k' n=>
   have⟨hq,K⟩:=bz.1 U;rw[iG,aN] at hq;obtain⟨rfl,A⟩:=hq;have⟨h0,N,L⟩:=an.1 K;have⟨mx,hl,lo⟩:=an.1 L;cases av.1 lo;cases hx with
   | pre g p x' f V hle T ht=>subst f;exact Qfd g p x' hle V T ht A N hl
   | oL g p x' f hlz=>subst f;exact Qfe g p x' hlz A N hl
  case part b k' o n=>
   have⟨hq,K⟩:=bz.1 U;rw[iG,aN] at hq;obtain⟨rfl,A⟩:=hq;have⟨h0,N,L⟩:=an.1 K;have⟨mx,hl,lo⟩:=an.1 L;cases av.1 lo;have key:∀{len cap:Nat} {base:Option Addr} {s:MI},n=↑len->M.pl b=some s->s.jh=k'->0<=o->len<=cap->s.len<=9223372036854775807\/len=0->(len≠0->s.real/\o.toNat+len<=s.len/\base=some ⟨s.bZ,s.sh+o.toNat*s.jh,none⟩)->
     ∃S,(∀w,(Instr.sliceAt Z (.slice base len cap) e d F).run P w=.ok S w)/\VR M (Fj D b k' o mx h0 (Ov D x)) S:=by
    intro len cap base s f g p ho hcap h64 hne;subst f;obtain⟨f,y,rfl,rfl,hll,Q,R⟩:=Bj (P:=P) (base:=base) (cap:=cap) hd hk C (by simpa using A) N hl J I hcap;refine⟨_,R,?_⟩;unfold Fj;have hsub:((f:Int) -↑y)=((f-y:Nat):Int):=ω;cases hz:Ov D x with
    | true=>
     have:=CU (Qfc:=e) hz hl;have hl0:y=0:=ω;subst hl0;show VR M (.part b k' o ↑f) _
     by_cases hz0:f=0
     ·subst hz0;exact .jC g p rfl ho
     ·obtain⟨x',hle,rfl⟩:=hne ω;rw[Zaa ω,ZbS];exact .part g p x' rfl ho ω ω ω
    | false=>
     show VR M (.part b k' (o+↑y) ((f:Int) -↑y)) _
     rw[hsub];by_cases hz0:f-y=0
     ·rw[hz0];exact .jC g p rfl ω
     ·obtain⟨x',hle,rfl⟩:=hne ω;rw[ oP];have ht:(o+↑y).toNat=o.toNat+y:=ω;have:=VR.part (M:=M) (b:=b) (k:=k') (l:=f-y) (cap:=cap-y) (o:=o+↑y) (n:=((f-y:Nat):Int)) g p x' rfl ω ω ω ω;rw[ht,ZbL,<-Za4] at this;grind
   cases hx with
   | part g p x' f ho hle V T=>exact key f g p ho T (.inl V) λ_=>⟨x',hle,rfl⟩
   | jC g p f ho=>exact key (len:=0) f g p ho (Zaj _) (.inr rfl) λh=>absurd rfl h
  case sub b o n=>
   have⟨f,N,K⟩:=an.1 U;have⟨l,hl,L⟩:=an.1 K;have⟨Qcn,lo⟩:=bz.1 L;rw[iG,aN] at Qcn;obtain⟨rfl,A⟩:=Qcn;cases av.1 lo;have O:F=none:=by
    rcases C with⟨_,B⟩ | ⟨u,u',B,_⟩
    all_goals grind
   subst O;have rh:=hV N I;have rl:=hV hl J;have Q:f<=n:=ω;have hll:l<=f:=ω;have hi:∀cap,n<=cap->∀w,(Instr.sliceBounds true n cap e d none).run P w=.ok (l,f,cap) w:=λcap T w=>eA (.inl ⟨rfl,rfl⟩) (by
     rcases rh with⟨e1,e2,e3⟩ | ⟨q,e2,_⟩
     ·exact .inl ⟨e2,rfl,e3⟩
     ·exact .inr ⟨q,e2,ω⟩) (by
     rcases rl with⟨_,e2,e3⟩ | ⟨q,e2,_⟩
     ·exact .inl ⟨e2,e3⟩
     ·exact .inr ⟨q,e2,ω⟩) w
   cases hx with
   | @sub _ _ _ cap s g x' T V=>
    refine⟨_,λw=>gD hd hk (hi cap T) w,?_⟩;by_cases hcl:cap=l
    ·have h1:f-l=0:=ω;rw[Zac hcl,show Nat.sub f l=f-l from rfl,h1];exact .oM
    ·rw[ oP];have:=VR.sub (M:=M) (b:=b) (o:=o+l) (n:=f-l) (cap:=cap-l) g x' ω ω;grind
   | @oM _ _ cap ad=>
    refine⟨_,λw=>gD hd hk (hi cap (Zaj _)) w,?_⟩;have h1:f-l=0:=ω;rw[show Nat.sub f l=f-l from rfl,h1];split
    ·exact .oM
    ·rw[Zcp];exact .oM
 case array n B=>
  cases Y<;>simp only at h1<;>(try exact h1.elim)
  case ptr b o=>
   have⟨k,hk,U⟩:=an.1 h1;rw[sP] at hk;have⟨hk1,K⟩:=bz.1 U;rw[aN] at hk1;subst hk1;have⟨hq,L⟩:=bz.1 K;rw[iG,cu] at hq;have⟨Ql1,A⟩:=hq;have⟨f,N,lo⟩:=an.1 L;have⟨l,hl,h6⟩:=an.1 lo;cases av.1 h6;have QsZ:=Ql1;have O:F=none:=by
    rcases C with⟨_,B⟩ | ⟨u,u',B,_⟩
    all_goals grind
   subst O;have rh:=hV N I;have rl:=hV hl J;have Q:f<=n:=ω;have hll:l<=f:=ω;have hi:∀w,(Instr.sliceBounds false n n e d none).run P w=.ok (l,f,n) w:=λw=>eA (.inl ⟨rfl,rfl⟩) (by
     rcases rh with⟨e1,e2,e3⟩ | ⟨q,e2,_⟩
     ·exact .inl ⟨e2,rfl,e3⟩
     ·exact .inr ⟨q,e2,ω⟩) (by
     rcases rl with⟨_,e2,e3⟩ | ⟨q,e2,_⟩
     ·exact .inl ⟨e2,e3⟩
     ·exact .inr ⟨q,e2,ω⟩) w
   cases hx with
   | @ptr _ _ s g x'=>
    refine⟨.slice (some (if n=l then⟨s.bZ,s.sh+o,none⟩ else⟨s.bZ,s.sh+o+l*1,none⟩)) (f-l) (n-l),λw=>?_,?_⟩
    ·simp only[Instr.sliceAt,Zzd,Zza hd,Zzb,Instr.sureAddr,Zzc,hi,cJ hk,OZ]
    ·by_cases hcl:n=l
     ·have h1:f-l=0:=ω;rw[ show Nat.sub f l=f-l from rfl,h1];exact .oM
     ·rw[Zaa hcl];have:=VR.sub (M:=M) (b:=b) (o:=o+l) (n:=f-l) (cap:=n-l) g x' ω ω;grind
theorem ux (h:(tJ P D Z Y m).H v) (n:VR M Y z):∃u,(∀w,(Instr.fieldAt Z z m).run P w=.ok u w)/\VR M v u:=by
 have⟨d,s,h1⟩:=an.1 h;have⟨I,f,B⟩:=an.1 h1;have⟨fd,a,C⟩:=an.1 B;have⟨k,hk,F⟩:=an.1 C;have⟨G,l⟩:=bz.1 F;rw[gT] at s;rw[sP] at hk;rw[bC] at a;have p:¬k=0:=by grind [cu]
 cases d<;>first | exact f.elim | skip
 rename_i A
 cases av.1 f;rw[fb,ZaL] at a;have run:∀(b o:Nat) (w:World),(Instr.fieldAt Z (.pointer (some ⟨b,o,none⟩)) m).run P w=.ok (.pointer (some ⟨b,o+fd.offset,none⟩)) w:=λb o w=>by
  simp only[Instr.fieldAt,Zzd,Zza s,Zzb,a,Instr.sureAddr,Zzc,fieldPlace,cJ hk,Zaa p,OZ]
 cases Y<;>simp only at l<;>(try exact l.elim)
 case ptr b o=>
  cases av.1 l;cases n with
  | ptr e r=>exact⟨_,run _ _,by rw[Za4];exact .ptr e r⟩
 case kF g o=>
  cases av.1 l;cases n<;>exact⟨_,run _ _,.kF _ _⟩
 case ma b k2 i j=>
  cases av.1 l;cases n with
  | ma e r q hi=>exact⟨_,run _ _,by rw[Za4];exact .ma e r q hi⟩
 case nu c y j=>
  cases av.1 l;cases n with
  | nu hs=>exact⟨_,run _ _,by rw[Za4];exact .nu hs⟩
def CW (h:(Ja P D Z Y m).H v) (o:VR M Y z):∃c,(∀w,(Instr.field Z z m).run P w=.ok c w)/\VR M v c:=by
 have⟨d,e,h1⟩:=an.1 h;have⟨q,b,i⟩:=an.1 h1;have⟨cs,l,j⟩:=an.1 i;have⟨fd,a,k⟩:=an.1 j;rw[gT] at e;rw[bC] at a;obtain⟨p,rfl,hl⟩:=mw l o;cases d<;>first | exact b.elim | skip
 cases av.1 b;rw[fb,ZaL] at a;have⟨c,f,n⟩:=ku k hl;exact⟨c,λw=>by simp only[Instr.field,Zzd,Zza e,Zzb,a,Go.asAgg,Zzc,f],n⟩
theorem yx {x i:AV D.E} {i':Value} (h:(yY P D Z x i).H L) (R:VR M x z) (hi:VR M i i'):∃J,(∀w,(Instr.indexAt Z z i').run P w=.ok J w)/\VR M L J:=by
 have⟨d,Y,h1⟩:=an.1 h;rw[gT] at Y;cases d<;>simp only at h1<;>(try exact h1.elim)
 case slice e=>
  have⟨k,hk,X⟩:=an.1 h1;have⟨T,n,Q,K⟩:=bq.1 X;rw[sP] at hk;obtain⟨rfl,_⟩:=iH Q hi;have run:∀(b o len cap q:Nat) (w:World),n=↑q->q<len->(Instr.indexAt Z (.slice (some ⟨b,o,none⟩) len cap) (.int T n)).run P w=.ok (.pointer (some ⟨b,o+q*k,none⟩)) w:=λb o len cap q w S O=>by
   subst S;have s:0<=(q:Int)/\(q:Int)<↑len:=⟨ω,ω⟩;simp only[Instr.indexAt,asIntOf,Zzd,Zzc,Zza Y,Zzb,Zac s,cJ hk,OZ,Zad]
  
  have U:∀{c b o cap:Nat} {xs:List (D.E c)},k=D.size c->aI zI n->az n (ah xs)->cx M b o c xs->∃J,(∀w,(Instr.indexAt Z (.slice (some ⟨b,o,none⟩) xs.length cap) (.int T n)).run P w=.ok J w)/\VR M (.nu c (gt (D.Wn c) xs n.toNat) 0) J:=by
   intro c b o cap xs g r F hs;have C:0<=n:=ZaH r;have h6':n<↑xs.length:=ZaH F;obtain⟨q,rfl⟩:∃q:Nat,n=q:=⟨n.toNat,ω⟩;have S:q<xs.length:=ω;refine⟨_,λw=>run b o xs.length cap q w rfl S,?_⟩;rw[Zad,Bh S,g];have:=VR.nu (M:=M) (j:=0) (x:=xs[q]) (b:=b) (o:=o+q*D.size c) (λj u e=>hs q S j u e);assumption
  have I:∀{b q:Nat} {A:MI} {len cap o:Nat},M.pl b=some A->A.real->A.jh=k->n=↑q->q<len->o+len<=A.len->∃J,(∀w,(Instr.indexAt Z (.slice (some ⟨A.bZ,A.sh+o*A.jh,none⟩) len cap) (.int T n)).run P w=.ok J w)/\VR M (.ma b k (o+q) 0) J:=by
   intro b q A len cap o f x' p S O hle;refine⟨_,λw=>run _ _ _ _ q w S O,?_⟩;have:=VR.ma (M:=M) (b:=b) (k:=k) (i:=o+q) (j:=0) f x' p ω;grind
  cases x<;>simp only at K<;>(try exact K.elim)
  case list c xs=>
   have⟨g,B⟩:=bz.1 K;have⟨r,F⟩:=cX.1 B;have⟨G,N⟩:=cX.1 F;cases av.1 N;cases R with
   | list hs W V=>exact U (aN.1 g) r G hs
   | dW=>exfalso;have C:0<=n:=ZaH r;have v:n<0:=ZaH G;omega
  case grow c xs b=>
   have⟨g,B⟩:=bz.1 K;have⟨r,F⟩:=cX.1 B;have⟨G,N⟩:=cX.1 F;cases av.1 N;cases R with
   | grow f x' hl hz hs W V ht=>exact U (aN.1 g) r G hs
   | j6=>exfalso;have C:0<=n:=ZaH r;have v:n<0:=ZaH G;omega
  case own b k' m=>
   have⟨g,B⟩:=bz.1 K;have⟨r,F⟩:=cX.1 B;have⟨G,N⟩:=cX.1 F;cases av.1 N;rw[aN] at g;subst g;have C:0<=n:=ZaH r;have v:=ZaH G;obtain⟨q,rfl⟩:∃q:Nat,n=q:=⟨n.toNat,ω⟩;cases R with
   | @own _ _ cap _ A f p x' Q W V ht=>
    have⟨J,k1,k2⟩:=I (q:=q) (o:=0) (len:=A.len) (cap:=cap) f x' p rfl ω ω;grind
   | l5 f p x' Q t=>exfalso;omega
  case pre b k' m=>
   have⟨g,B⟩:=bz.1 K;have⟨r,F⟩:=cX.1 B;have⟨G,N⟩:=cX.1 F;cases av.1 N;rw[aN] at g;subst g;have C:0<=n:=ZaH r;have v:=ZaH G;obtain⟨q,rfl⟩:∃q:Nat,n=q:=⟨n.toNat,ω⟩;cases R with
   | @pre _ _ l cap _ A f p x' Q W hle V ht=>
    have⟨J,k1,k2⟩:=I (q:=q) (o:=0) (len:=l) (cap:=cap) f x' p rfl ω ω;grind
   | oL f p x' Q t=>exfalso;omega
  case part b k' o m=>
   have⟨g,B⟩:=bz.1 K;have⟨r,F⟩:=cX.1 B;have⟨G,N⟩:=cX.1 F;cases av.1 N;rw[aN] at g;subst g;have C:0<=n:=ZaH r;have v:=ZaH G;obtain⟨q,rfl⟩:∃q:Nat,n=q:=⟨n.toNat,ω⟩;cases R with
   | @part _ _ l cap _ _ A f p x' Q ho hle W V=>
    have⟨J,k1,k2⟩:=I (q:=q) (o:=o.toNat) (len:=l) (cap:=cap) f x' p rfl ω hle;grind
   | jC f p Q ho=>exfalso;omega
 case array len e=>
  have⟨k,hk,X⟩:=an.1 h1;have⟨hk1,K⟩:=bz.1 X;have⟨n,Q,B⟩:=an.1 K;have⟨O,r⟩:=bz.1 B;rw[sP] at hk;have hlt':=cu.1 O;obtain⟨T,rfl⟩:=FB Q hi;have run:∀(b o:Nat) (w:World),(Instr.indexAt Z (.pointer (some ⟨b,o,none⟩)) (.int T ↑n)).run P w=.ok (.pointer (some ⟨b,o+n*k,none⟩)) w:=λb o w=>by
   have s:0<=(n:Int)/\(n:Int)<↑len:=⟨ω,ω⟩;simp only[Instr.indexAt,asIntOf,Zzd,Zzc,Zza Y,Zzb,Instr.sureAddr,Zac s,cJ hk,OZ,Zad]
  cases x<;>simp only at r<;>(try exact r.elim)
  case ptr b o=>
   cases av.1 r;cases R with
   | ptr f x'=>exact⟨_,run _ _,by rw[Za4];exact .ptr f x'⟩
  case ma b k2 i j=>
   cases av.1 r;cases R with
   | ma f x' p hi=>exact⟨_,run _ _,by rw[Za4];exact .ma f x' p hi⟩
  case nu c y j=>
   cases av.1 r;cases R with
   | nu hs=>exact⟨_,run _ _,by rw[Za4];exact .nu hs⟩
theorem CX {u:Value} (h:(Jb P D Z Y v).H L) (s:VR M Y z) (hi:VR M v u):∃b,(∀w,(Instr.index Z z u).run P w=.ok b w)/\VR M L b:=by
 have⟨d,m,h1⟩:=an.1 h;rw[gT] at m;cases d<;>simp only at h1<;>(try exact h1.elim)
 case string=>
  have⟨i,n,p,c⟩:=bq.1 h1;have⟨l,hl,f⟩:=an.1 c;have⟨g,j⟩:=cX.1 f;have⟨A,C⟩:=cX.1 j;cases av.1 C;obtain⟨rfl,_⟩:=iH p hi;obtain⟨rfl,_⟩:=mv hl s;have y:0<=n:=ZaH g;have B:n<↑l.length:=ZaH A;obtain⟨q,rfl⟩:∃q:Nat,n=q:=⟨n.toNat,ω⟩;have I:q<l.length:=ω;have F:(⟨⟨l⟩⟩:ByteArray)[q]?=some l[q]:=by
   rw[getElem?_pos (⟨⟨l⟩⟩:ByteArray) q I];rfl
  refine⟨.int .u8 (l[q].toNat:Int),λw=>by simp[Instr.index,asIntOf,Zza m,F],?_⟩;have e:sat l ↑q=(l[q].toNat:Int):=by
   grind [sat]
  rw[e];exact .int (rB _)
 case array len e=>
  have⟨k,hk,c⟩:=an.1 h1;have⟨n,p,f⟩:=an.1 c;have⟨cs,G,g⟩:=an.1 f;have⟨o,j⟩:=bz.1 g;rw[sP] at hk;obtain⟨i,rfl⟩:=FB p hi;obtain⟨N,rfl,hl⟩:=mw G s;have r:=cu.1 o;have⟨b,J,K⟩:=ku j hl;have a:0<=(n:Int)/\(n:Int)<↑len:=⟨ω,ω⟩;refine⟨b,λw=>?_,K⟩;simp only[Instr.index,asIntOf,Zzd,Zzc,Zza m,Zzb,Zac a,cJ hk];exact J w
def yy (h:(yZ D Y m).H v) (f:VR M Y z):∃a,(∀w,(Instr.extract z m).run P w=.ok a w)/\VR M v a:=by
 have⟨l,hl,h1⟩:=an.1 h;obtain⟨g,rfl,b⟩:=O3 hl f;rw[bC,fb] at h1;have⟨a,c,e⟩:=b.get h1;rw[ZaL] at c;exact⟨a,λw=>by simp[Instr.extract,c],e⟩
end
section
variable {P:Program} {D:Data} {cd:TypeId->Option Nat} {M M':Pm D} {φ:T (AV D.E)} {a:Act} {N:Nat} {w w':World} {H:Hp D} {s s':St D.E}
variable {v z:Value} {x y X:AV D.E} {e:TypeId} {b c:Bool} {Z:BinOp} {Y W:Operand} {d:TypeDesc}
def Ql2 (v:Value):Option Bool:=match v with
 | .pointer a=>some a.isNone
 | .map a=>some a.isNone
 | .slice a _ _=>some a.isNone
 | .nilIface=>some true
 | .iface _ _=>some false
 | .nilFunc=>some true
 | .func _ _ _=>some false
 | _=>none
def tR (v:Value):Nat:=match v with
 | .pointer _=>1 | .slice _ _ _=>2 | .map _=>3 | .nilFunc=>4 | .func _ _ _=>4 | .nilIface=>5 | .iface _ _=>5
 | _=>0
def zj (h:(A1 D x).H b) (c:VR M x v):Ql2 v=some b/\tR v=Ff D x:=by
 cases c<;>simp only[A1] at h<;>first | (exact h.elim) | (cases av.1 h;exact⟨rfl,rfl⟩) | (obtain⟨h0,h1⟩:=cX.1 h;first | (cases av.1 h1;exact⟨rfl,rfl⟩) | (simp[az,ah] at h0))
def Qaj (h:tR v=1):∃a,v=.pointer a:=by cases v<;>first | exact⟨_,rfl⟩ | cases h
def Qak (h:tR v=2):∃a l c,v=.slice a l c:=by cases v<;>first | exact⟨_,_,_,rfl⟩ | cases h
def Qal (h:tR v=3):∃a,v=.map a:=by cases v<;>first | exact⟨_,rfl⟩ | cases h
def Qam (h:tR v=4):v=.nilFunc\/∃f a b,v=.func f a b:=by cases v<;>first | exact .inl rfl | exact .inr ⟨_,_,_,rfl⟩ | cases h
def Qan (h:tR v=5):v=.nilIface\/∃t u,v=.iface t u:=by cases v<;>first | exact .inl rfl | exact .inr ⟨_,_,rfl⟩ | cases h
def Qff:tR v≠6:=by cases v<;>simp[tR]
theorem LO (h:(Qaa D d x y).H (b,c)) (i:P.underlying e=some d) (s:VR M x v) (u:VR M y z) (n:Nat) (w:World):(Op.equalIn (n+1) e v z).run P w=.ok b w:=by
 obtain⟨r,h1⟩:=bz.1 h;obtain⟨f,m⟩:=bz.1 h1;obtain⟨b1,l,o⟩:=an.1 m;obtain⟨j,e2,p⟩:=an.1 o;obtain⟨g1,k1⟩:=zj l s;obtain⟨g2,k2⟩:=zj e2 u;rw[aN,<-k1] at r;rw[aN,<-k2] at f;have A:b=(b1&&j)/\(b1||j):=by
  rcases gS.1 p with⟨B,q⟩ | ⟨_,q⟩
  ·grind [av]
  ·exact q.elim
 obtain⟨rfl,a⟩:=A;clear h h1 m o p l e2 k1 k2 s u;cases d with
 | pointer t=>
  obtain⟨g,rfl⟩:=Qaj r;obtain⟨a2,rfl⟩:=Qaj f;cases g<;>cases a2<;>cases g1<;>cases g2<;>first | (cases a;done) | simp[Op.equalIn,Zza i]
 | slice t=>
  obtain⟨g,C,c1,rfl⟩:=Qak r;obtain⟨a2,F,c2,rfl⟩:=Qak f;cases g<;>cases a2<;>cases g1<;>cases g2<;>first | (cases a;done) | simp[Op.equalIn,Zza i]
 | map k t=>
  obtain⟨g,rfl⟩:=Qal r;obtain⟨a2,rfl⟩:=Qal f;cases g<;>cases a2<;>cases g1<;>cases g2<;>first | (cases a;done) | simp[Op.equalIn,Zza i]
 | func G rs I=>
  rcases Qam r with rfl | ⟨_,_,_,rfl⟩<;>rcases Qam f with rfl | ⟨_,_,_,rfl⟩<;>cases g1<;>cases g2<;>first | (cases a;done) | simp[Op.equalIn,Zza i]
 | interface ms=>
  rcases Qan r with rfl | ⟨_,_,rfl⟩<;>rcases Qan f with rfl | ⟨_,_,rfl⟩<;>cases g1<;>cases g2<;>first | (cases a;done) | simp[Op.equalIn,Zza i]
 | _=>exact absurd r Qff
theorem LP (h:(IZ D x y).H (b,c)) (g:VR M x v) (f:VR M y z):∃k a r,v=.int k a/\z=.int k r/\b=decide (a=r):=by
 cases x<;>simp only[IZ] at h<;>(try exact h.elim)
 case int k a=>
  obtain⟨i,r,h1,m⟩:=bq.1 h;obtain⟨d,e⟩:=bz.1 m;obtain rfl:=fV.1 d;cases av.1 e;cases g;obtain⟨rfl,_⟩:=iH h1 f;exact⟨_,_,_,rfl,rfl,rfl⟩
 case num k a=>
  cases g;cases y<;>simp only at h<;>(try exact h.elim)
  case int i r=>
   obtain⟨d,e⟩:=bz.1 h;obtain rfl:=fV.1 d;cases av.1 e;cases f;exact⟨_,_,_,rfl,rfl,rfl⟩
  case num i r=>
   obtain⟨d,e⟩:=bz.1 h;obtain rfl:=fV.1 d;cases av.1 e;cases f;grind [qE]
theorem FH (h:(Fh D d x y).H (b,c)) (l:P.underlying e=some d) (f:VR M x v) (g:VR M y z) (n:Nat) (w:World):(Op.equalIn (n+1) e v z).run P w=.ok b w:=by
 cases d with
 | bool=>
  obtain⟨a,p,i,h1⟩:=bq.1 (show(aQ (AZ x) λa p=>aQ (AZ y) λr q=>.ret (kE a r,Bool.and p q)).H (b,c) from h);obtain⟨r,q,j,t⟩:=bq.1 h1;have t:=av.1 t;simp only[Zbx] at t;obtain⟨rfl,_⟩:=t;obtain rfl:=FC i f;obtain rfl:=FC j g;cases a<;>cases r<;>simp[Op.equalIn,Zza l,kE]
 | int s=>
  obtain⟨k,a,r,rfl,rfl,rfl⟩:=LP (show(IZ D x y).H (b,c) from h) f g;simp only[Op.equalIn,Zza l,Zzd,Zzb];simp
  try rfl
 | string=>
  obtain⟨a,i,h1⟩:=an.1 (show(aA (gR x) λa=>aA (gR y) λr=>.ret (seq a r,false)).H (b,c) from h);obtain⟨r,j,t⟩:=an.1 h1;have t:=av.1 t;simp only[Zbx] at t;obtain⟨rfl,_⟩:=t;obtain⟨rfl,_⟩:=mv i f;obtain⟨rfl,_⟩:=mv j g;grind [run_equalIn_string,ByteArray.toList_eq,seq]
 | _=>exact LO h l f g n w
def zk (a b:Bool×Bool):(Cz a b).1=(a.1&&b.1):=by
 obtain⟨x,p⟩:=a;obtain⟨y,q⟩:=b;cases x<;>cases p<;>cases y<;>cases q<;>rfl
theorem rI {ih:TypeId->AV D.E->AV D.E->C (Bool×Bool)} {n:Nat} {xs ys:List (AV D.E)} {X Y:Array Value} (hX:LR M xs X.toList) (hY:LR M ys Y.toList)
  (hih:∀(t:TypeId) (x y:AV D.E) (x' y':Value) (r:Bool×Bool),(ih t x y).H r->VR M x x'->VR M y y'->∀w,(Op.equalIn n t x' y').run P w=.ok r.1 w):∀{fs:List Field} {r:Bool×Bool},(eqFields P D ih xs ys fs).H r->∀w,
  (forIn fs ((none,()):Option Bool×Unit) λf __s=>(if f.name≠ "_" then do
    let __do_lift <-part f.type X f.offset
    let oQ <-part f.type Y f.offset
    let __do_lift <-Op.equalIn n f.type __do_lift oQ
    if (!__do_lift)=true then Pure.pure (ForInStep.done (some false,())) else Pure.pure (ForInStep.yield (none,()))
   else Pure.pure (ForInStep.yield (none,())):Sem (ForInStep (Option Bool×Unit)))).run P w=.ok (if r.1 then(none,()) else(some false,())) w
 | [],r,h,w=>by cases av.1 (show(C.ret (true,true)).H r from h);simp
 | f::fs,r,h,w=>by
  obtain⟨hn,h1⟩:decide (f.name= "_")=false/\(aA (j4 P D f.type xs f.offset) λx=>aA (j4 P D f.type ys f.offset) λy=>aA (ih f.type x y) λr=>aA (eqFields P D ih xs ys fs) λr'=>.ret (Cz r r')).H r:=by
   rcases gS.1 (show(bE (decide (f.name= "_")) .fail _).H r from h) with⟨_,h9⟩ | ⟨h8,h9⟩
   ·exact h9.elim
   ·exact⟨h8,h9⟩
  have hn':f.name≠ "_" :=by grind
  obtain⟨x,hx,h2⟩:=an.1 h1;obtain⟨y,hy,h3⟩:=an.1 h2;obtain⟨q,hq,h4⟩:=an.1 h3;obtain⟨q2,hq2,h5⟩:=an.1 h4;cases av.1 h5;obtain⟨x',rx,vx⟩:=ku hx hX;obtain⟨y',ry,vy⟩:=ku hy hY;have he:=hih _ _ _ _ _ _ hq vx vy w;have ihf:=rI hX hY hih hq2 w;rw[ZdJ,zk];cases hq1:q.1 with
  | true=>
   rw[hq1] at he;simp only[Zac hn',Zzd,rx,ry,he,Zzb,ZcF,ZaE,Za0,Zzc,ZbI];exact ihf
  | false=>
   rw[hq1] at he;simp only[Zac hn',Zzd,rx,ry,he,Zzb,Bool.not_false,Zbv,Zzc,ZaE,Za0,Zcw]
theorem tS {d:TypeId->AV D.E->AV D.E->C (Bool×Bool)} {n k:Nat} {xs f:List (AV D.E)} {X Y:Array Value} (p:LR M xs X.toList) (s:LR M f Y.toList)
  (a:∀(t:TypeId) (x y:AV D.E) (l o:Value) (r:Bool×Bool),(d t x y).H r->VR M x l->VR M y o->∀w,(Op.equalIn n t l o).run P w=.ok r.1 w):∀{m i:Nat} {r:Bool×Bool},(uY P D d e k xs f m i).H r->∀w,
  (forIn (List.range' i m) ((none,()):Option Bool×Unit) λi v=>(do
    let __do_lift <-part e X (i*k)
    let oQ <-part e Y (i*k)
    let __do_lift <-Op.equalIn n e __do_lift oQ
    if (!__do_lift)=true then Pure.pure (ForInStep.done (some false,())) else Pure.pure (ForInStep.yield (none,())):Sem (ForInStep (Option Bool×Unit)))).run P w=.ok (if r.1 then(none,()) else(some false,())) w
 | 0,i,r,h,w=>by cases av.1 (show(C.ret (true,true)).H r from h);simp
 | m+1,i,r,h,w=>by
  obtain⟨x,I,z⟩:=an.1 (show(aA (j4 P D e xs (i*k)) λx=>aA (j4 P D e f (i*k)) λy=>aA (d e x y) λr=>aA (uY P D d e k xs f m (i+1)) λK=>.ret (Cz r K)).H r from h);obtain⟨y,J,A⟩:=an.1 z;obtain⟨q,G,B⟩:=an.1 A;obtain⟨O,g,F⟩:=an.1 B;cases av.1 F;obtain⟨l,rx,L⟩:=ku I p;obtain⟨o,u,N⟩:=ku J s;have c:=a _ _ _ _ _ _ G L N w;have j:=tS p s a g w;rw[List.range'_succ,ZdJ,zk];cases b:q.1 with
  | true=>
   rw[b] at c;simp only[Zzd,rx,u,c,Zzb,ZcF,ZaE,Za0,Zzc,ZbI];exact j
  | false=>
   rw[b] at c;simp only[Zzd,rx,u,c,Zzb,Bool.not_false,Zbv,Zzc,ZaE,Za0,Zcw]
theorem Jv:∀(m:Nat) (n:Nat) (t:TypeId) (x y:AV D.E) (f g:Value) (r:Bool×Bool),(N5 P D m t x y).H r->VR M x f->VR M y g->∀w,(Op.equalIn (n+m) t f g).run P w=.ok r.1 w
 | 0,n,t,x,y,f,g,r,h,_,_,w=>(h:False).elim
 | m+1,n,t,x,y,f,g,r,h,l,o,w=>by
  obtain⟨d,p,h1⟩:=an.1 (show(aA (uv P t) λd=>eqD P D (N5 P D m) t d x y).H r from h);rw[gT] at p;have j:=λt x y f g r h l o w=>Jv m n t x y f g r h l o w
  have base:∀q,q=d->(Fh D q x y).H r->(Op.equalIn (n+(m+1)) t f g).run P w=.ok r.1 w:=λq e G=>FH (c:=r.2) G (e▸p) l o (n+m) w
  cases d with
  | struct C=>
   obtain⟨xs,a,s⟩:=an.1 (show(aA (asAgg x) λxs=>aA (asAgg y) λi=>bE (P.stoodInHeld t) .fail (eqFields P D (N5 P D m) xs i C.toList)).H r from h1);obtain⟨i,b,u⟩:=an.1 s;obtain⟨B,v⟩:P.stoodInHeld t=false/\(eqFields P D (N5 P D m) xs i C.toList).H r:=by
    rcases gS.1 u with⟨_,F⟩ | ⟨I,F⟩
    ·exact F.elim
    ·grind
   obtain⟨X,rfl,z⟩:=mw a l;obtain⟨Y,rfl,A⟩:=mw b o;have hl:=rI z A j v w;rw[Nat.add_succ];unfold Op.equalIn;simp only[Zzd,Zza p,Zzb,program,Sem.run,B,ZaE,Za0];rw[<-Array.forIn_toList];rw[hl];cases r.1<;>simp
  | array len e=>
   obtain⟨xs,a,s⟩:=an.1 (show(aA (asAgg x) λxs=>aA (asAgg y) λi=>aA (sz P e) λk=>uY P D (N5 P D m) e k xs i len 0).H r from h1);obtain⟨i,b,u⟩:=an.1 s;obtain⟨k,hk,v⟩:=an.1 u;rw[sP] at hk;obtain⟨X,rfl,z⟩:=mw a l;obtain⟨Y,rfl,A⟩:=mw b o;have hl:=tS z A j v w;rw[Nat.add_succ];unfold Op.equalIn;simp only[Zzd,Zza p,Zzb,cJ hk];rw[Std.Legacy.Range.forIn_eq_forIn_range'];simp only[Std.Legacy.Range.size];rw[show(len-0+1-1) / 1=len by simp,hl];cases r.1<;>simp
  | _=>exact base _ rfl h1
def WB (x y:Value):Bool:=match x with
 | .agg _=>match y with
  | .agg _=>false
  | _=>true
 | .nilIface=>match y with
  | .nilIface=>false
  | _=>true
 | _=>true
def gU (op:BinOp) (t:TypeId) (a b:Operand) (x y:Value) (h:WB x y) (w:World):(eqGuard op t a b x y).run P w=.ok () w:=by
 cases op<;>first | rfl | (cases x<;>first | rfl | (cases y<;>first | rfl | cases h))
def zl {r:Bool×Bool} (h:(Oo P D e x y).H r) (f:VR M x v) (l:VR M y z) (op:BinOp) (c d:Operand) (w:World):(Op.equal e v z).run P w=.ok r.1 w/\(eqGuard op e c d v z).run P w=.ok () w:=by
 have a:(N5 P D 4 e x y).H r->(Op.equal e v z).run P w=.ok r.1 w:=λh=>Jv 4 9996 e x y v z r h f l w
 by_cases h1:∃cs,x=.agg cs
 ·obtain⟨cs,rfl⟩:=h1;rcases gS.1 (show(bE (P.eqGuardType P.depth e) .fail (N5 P D 4 e (.agg cs) y)).H r from h) with⟨_,k⟩ | ⟨m,k⟩
  ·exact k.elim
  ·refine⟨a k,?_⟩;cases f;cases z<;>first | exact run_eqGuard_agg w op e c d _ _ m | exact gU op e c d _ _ rfl w
 ·by_cases g:x=.nilIface
  ·subst g;by_cases i:y=.nilIface
   ·subst i;exact(h:False).elim
   ·have j:(N5 P D 4 e .nilIface y).H r:=by
     cases y<;>first | exact h | exact absurd rfl i
    refine⟨a j,gU op e c d _ _ ?_ w⟩;cases f;cases l<;>first | rfl | exact absurd rfl i
  ·have j:(N5 P D 4 e x y).H r:=by
    cases x<;>first | exact h | exact absurd ⟨_,rfl⟩ h1 | exact absurd rfl g
   refine⟨a j,gU op e c d _ _ ?_ w⟩;cases f<;>first | rfl | exact absurd ⟨_,rfl⟩ h1 | exact absurd rfl g
def FI (b c:Bool):VR M (mkT D b c) (.bool b):=by
 cases c
 ·exact .bool b
 ·exact .lit b
theorem O6 (h:(QeS P D Z e x y).H X) (q:VR M x v) (n:VR M y z) (l m:Operand) (w:World):
  ∃d,(do eqGuard Z e l m v z;binOp Z e v z:Sem Value).run P w=.ok d w/\VR M X d:=by
 have eqs:∀(s:∀(j:Value),(binOp .eql e v j)=(do Pure.pure (.bool (<-Op.equal e v j)))/\(binOp .neq e v j)=(do Pure.pure (.bool (!(<-Op.equal e v j))))),(Oq P D Z e x y).H X->
   ∃d,(do eqGuard Z e l m v z;binOp Z e v z:Sem Value).run P w=.ok d w/\VR M X d:=by
  intro s h1;cases Z<;>simp only[Oq] at h1<;>(try exact h1.elim)
  ·obtain⟨r,c,p,f⟩:=bq.1 h1;cases av.1 f;obtain⟨o,e2⟩:=zl p q n .eql l m w;exact⟨.bool r,by simp_all,FI r c⟩
  ·obtain⟨r,c,p,f⟩:=bq.1 h1;cases av.1 f;obtain⟨o,e2⟩:=zl p q n .neq l m w;exact⟨.bool (!r),by simp_all,FI (!r) c⟩
 have ints:∀{k i:IntKind} {a b:Int},v=.int k a->z=.int i b->(∃d,(∀w,(binOp Z e (.int k a) (.int i b)).run P w=.ok d w)/\VR M X d)->∃d,(do eqGuard Z e l m v z;binOp Z e v z:Sem Value).run P w=.ok d w/\VR M X d:=by
  rintro k i a b rfl rfl ⟨d,h1,f⟩;exact⟨d,by simp only[Zzd,gU Z e l m (.int k a) (.int i b) rfl w,Zzb,h1],f⟩
 cases q with
 | @int k a g=>
  obtain⟨i,b,h1,f⟩:=bq.1 (show(aQ (da y) λi b=>Wr D Z k i a b).H X from h);obtain⟨rfl,_⟩:=iH h1 n;exact ints rfl rfl (CM f g e)
 | num g=>
  cases y<;>first | exact(h:False).elim | skip
  case int i b=>
   cases n;exact ints rfl rfl (CM h g e)
  case num i b=>
   cases n;obtain⟨u,h1,f⟩:=an.1 h;cases av.1 f;obtain⟨o,e2⟩:=Fy (P:=P) (bC.1 h1) g e;exact ints rfl rfl ⟨_,o,Qfa e2⟩
 | @str a hl=>
  obtain⟨b,h1,f⟩:=an.1 (show(aA (gR y) λb=>A0 D Z a b).H X from h);obtain⟨rfl,_⟩:=mv h1 n;obtain⟨d,o,e2⟩:=Fz (P:=P) (M:=M) f e;exact⟨d,by simp only[Zzd,gU Z e l m (.string ⟨⟨a⟩⟩) (.string ⟨⟨b⟩⟩) rfl w,Zzb,o],e2⟩
 | _=>exact eqs (λj=>⟨rfl,rfl⟩) h
def WC {op:UnOp} (h:(unA D op x).H y) (d:VR M x v):∃f,(∀w,(Op.unary op v).run P w=.ok f w)/\VR M y f:=by
 cases op<;>simp only[unA] at h<;>(try exact h.elim)
 case neg=>
  cases x<;>simp only at h<;>(try exact h.elim)
  case int k n=>
   cases av.1 h;cases d;refine⟨.int k (k.wrap (0-n)),λw=>by rfl,?_⟩;rw[Int.zero_sub];exact .int (cE _ _)
  case num k n=>
   obtain⟨c,a,h1⟩:=an.1 h;cases av.1 h1;have a:=bC.1 a;rw[gj,jE] at a;subst a;cases d;refine⟨.int k (k.wrap (0-n)),λw=>by rfl,?_⟩;rw[Int.zero_sub];exact .num (cE _ _)
 case xor=>
  have e:∀(k:IntKind) (n:Int),(BitVec.ofInt k.bits (if k.signed then-1 else k.max) ^^^ BitVec.ofInt k.bits n).toNat=Nat.xor (ur k-1) (Cv k n):=λk n=>by
   rw[Zdu,<-kI,<-kI];congr 1;cases k<;>rfl
  cases x<;>simp only at h<;>(try exact h.elim)
  case int k n=>
   cases av.1 h;cases d;exact⟨_,λw=>by rfl,by rw[e];exact .int (cE _ _)⟩
  case num k n=>
   obtain⟨c,a,h1⟩:=an.1 h;cases av.1 h1;have a:=pD (bC.1 a);subst a;cases d;exact⟨_,λw=>by rfl,by rw[e];exact .num (cE _ _)⟩
 case not=>
  obtain⟨b,c,h1,i⟩:=bq.1 h;cases av.1 i;obtain rfl:=FC h1 d;exact⟨.bool (!b),λw=>by rfl,FI (!b) c⟩
theorem Bk (h:isConst Y):∃v,Y=.const v:=by
 cases Y<;>first | exact⟨_,rfl⟩ | cases(show false=true from h)
def zm (h:Qca D x):x=.nilIface:=by
 cases x<;>first | rfl | cases(show false=true from h)
def O7 (c:(∃v,Y=.const v)\/(∃v,W=.const v)) (w:World):(eqGuard Z e Y W .nilIface .nilIface).run P w=.ok () w:=by
 rcases c with⟨v,rfl⟩ | ⟨v,rfl⟩
 ·cases Z<;>rfl
 ·cases Y<;>cases Z<;>rfl
theorem O8 (h:(QeU P D Z e Y W x y).H X) (l:VR M x v) (m:VR M y z) (w:World):
  ∃n,(do eqGuard Z e Y W v z;binOp Z e v z:Sem Value).run P w=.ok n w/\VR M X n:=by
 rcases gS.1 h with⟨h1,c⟩ | ⟨_,c⟩
 ·obtain⟨A,o⟩:=l4 h1;obtain⟨p,q⟩:=l4 o;obtain rfl:=zm p;obtain rfl:=zm q;have k:(∃X,Y=.const X)\/(∃X,W=.const X):=by
   grind [Bk]
  obtain⟨d,i,r⟩:=an.1 c;obtain⟨s,f⟩:=bz.1 r;have i:P.underlying e=some d:=bC.1 i;cases l;cases m;have t:(Op.equal e .nilIface .nilIface).run P w=.ok true w:=by
   cases d<;>first | (cases(show false=true from s);done) | skip
   show(Op.equalIn (9999+1) e _ _).run P w=_
   unfold Op.equalIn;simp only[Zzd,Zza i,Zzb,Zzc]
  have g:(eqGuard Z e Y W .nilIface .nilIface).run P w=.ok () w:=O7 k w;cases Z<;>first | exact(show False from f).elim | skip
  ·cases av.1 f;have u:binOp .eql e .nilIface .nilIface=(do Pure.pure (.bool (<-Op.equal e .nilIface .nilIface))):=rfl;exact⟨.bool true,by simp_all,.lit true⟩
  ·cases av.1 f;have u:binOp .neq e .nilIface .nilIface=(do Pure.pure (.bool (!(<-Op.equal e .nilIface .nilIface)))):=rfl;exact⟨.bool false,by simp_all,.lit false⟩
 ·exact O6 c l m Y W w
end
section
variable {P:Program} {D:Data} {cd:TypeId->Option Nat} {M M':Pm D} {φ φ':T (AV D.E)} {a:Act} {N:Nat} {w w':World} {H:Hp D} {s s':St D.E}
variable {v i:AV D.E} {o:Oper} {c:Value} {Z:TypeId} {b:List (AV D.E)} {Y:Bool} {X:Array TypeId} {W:World} {A:Array Value} {V:Array Operand}
theorem LQ {x v:AV D.E} {x':Value} (h:(Oy D x).H v) (hx:VR M x x'):∀w,((match x' with
  | .pointer none | .nilIface | .nilFunc=>runtimePanic .nilDeref
  | .func (.method name) first captured=>
   match (first[0]?:Option Value) with
   | some .nilIface=>runtimePanic .nilDeref
   | some (.iface t w)=>do
    if (<-nilAhead ((<-program).types.size+Made.depth) t w name) !=some false then
     unsupported (.noEntry "op/nilCheck.the method's receiver behind this interface value is a nil pointer, or cannot be seen to be none, and the arguments act or may panic (ledger 612)")
    Pure.pure (.value (.func (.method name) first captured))
   | _=>Pure.pure (.value (.func (.method name) first captured))
  | x=>Pure.pure (.value x):Sem Next)).run P w=.ok (.value x') w/\v=x:=by
 intro w;unfold Oy at h;cases hx<;>simp only at h<;>(try exact h.elim)
 case ptr=>cases av.1 h;exact⟨rfl,rfl⟩
 case kF=>cases av.1 h;exact⟨rfl,rfl⟩
 case ma=>cases av.1 h;exact⟨rfl,rfl⟩
 case nu=>cases av.1 h;exact⟨rfl,rfl⟩
 case func fn _ _ _ _ _ _ _ _=>
  cases fn<;>simp only at h<;>(try exact h.elim);cases av.1 h;simp_all
def CY (h:(I_ P D Z v).H i) (e:VR M v c):∃b,(∀w,(Instr.makeInterface Z c).run P w=.ok b w)/\VR M i b:=by
 obtain⟨d,a,h1⟩:=an.1 h;rw[gT] at a;cases d<;>simp only at h1<;>(try exact h1.elim)
 all_goals (cases av.1 h1;exact⟨_,λw=>by simp only[Instr.makeInterface,Zzd,Zza a,Zzb,Zzc],.iface Z e⟩)
theorem qH {F:Value->Value->Sem Value} (p:∀(k:IntKind) (x y:Int) (w:World),(F (.int k x) (.int k y)).run P w=.ok (.int k (bif Y then ga x y else imax x y)) w):∀{d:List (AV D.E)} {c:List Value} {x v:AV D.E} {e:Value},(oG D Y d x).H v->LR M d c->VR M x e->
  ∃g,(∀w,(c.foldlM F e).run P w=.ok g w)/\VR M v g
 | [],c,x,v,e,h,hl,i=>by
  cases av.1 (show(C.ret x).H v from h);rw[hl.jD];simp_all
 | y::d,c,x,v,e,h,hl,i=>by
  obtain⟨k,a,l,h1⟩:=bq.1 (show(aQ (da x) λk a=>aQ (da y) λj b=>bB (AW k j) (oG D Y d (.int k (bif Y then ga a b else imax a b)))).H v from h);obtain⟨j,b,e2,n⟩:=bq.1 h1;obtain⟨m,o⟩:=bz.1 n;obtain rfl:=fV.1 m;obtain⟨z,r,rfl,s,q⟩:=hl.aP;obtain⟨rfl,i1⟩:=iH l i;obtain⟨rfl,i2⟩:=iH e2 s;have f:jv k (bif Y then ga a b else imax a b):=by
   grind [imax,ga]
  obtain⟨g,t,u⟩:=qH p o q (.int f);simp_all
theorem WD {ts:Array TypeId} {ty:TypeId} (h:(oG D true (oe 1 b) v).H i) (h0:gM b 0=some v) (hl:LR M b A.toList):∃a,(∀w,(Builtin.min_ ts ty A).run P w=.ok a w)/\VR M i a:=by
 cases b with
 | nil=>cases h0
 | cons y b=>
  cases(show some y=some v from h0);obtain⟨g,r,e,d,c⟩:=hl.aP;obtain⟨a,h1,f⟩:=qH (P:=P) (F:=Builtin.min2) (λk v y w=>by rfl) (show(oG D true b v).H i from h) c d;grind [Builtin.min_]
theorem WE {ts:Array TypeId} {ty:TypeId} (h:(oG D false (oe 1 b) v).H i) (h0:gM b 0=some v) (hl:LR M b A.toList):∃a,(∀w,(Builtin.max_ ts ty A).run P w=.ok a w)/\VR M i a:=by
 cases b with
 | nil=>cases h0
 | cons y b=>
  cases(show some y=some v from h0);obtain⟨g,r,e,d,c⟩:=hl.aP;obtain⟨a,h1,f⟩:=qH (P:=P) (F:=Builtin.max2) (λk v y w=>by rfl) (show(oG D false b v).H i from h) c d;grind [Builtin.max_]
def O9 (h:(Ot D v).H i) (o:VR M v c):∃l n cap,c=.slice l n cap/\VR M i (goInt n):=by
 have f:∀n:Nat,n<=9223372036854775807->VR M (.int .i64 (n:Int):AV D.E) (goInt n):=λn d=>.int (jw d)
 cases o<;>simp only[Ot] at h<;>(try exact h.elim)
 case cW=>cases av.1 h;exact⟨_,_,_,rfl,.num (jw (Zaj _))⟩
 case own a e x d g j ht=>cases av.1 h;subst d;exact⟨_,_,_,rfl,f _ g⟩
 case l5 a e x d hl=>cases av.1 h;subst d;exact⟨_,_,_,rfl,f 0 (Zaj _)⟩
 case pre a e x d g hl j ht=>cases av.1 h;subst d;exact⟨_,_,_,rfl,f _ ω⟩
 case oL a e x d hl=>cases av.1 h;subst d;exact⟨_,_,_,rfl,f 0 (Zaj _)⟩
 case part a e x d m hl g j=>cases av.1 h;subst d;exact⟨_,_,_,rfl,f _ ω⟩
 case jC a e d m=>cases av.1 h;subst d;exact⟨_,_,_,rfl,f 0 (Zaj _)⟩
 case grow a x hl hz hs g j ht=>cases av.1 h;exact⟨_,_,_,rfl,f _ g⟩
 case j6 a x=>cases av.1 h;exact⟨_,_,_,rfl,f 0 (Zaj _)⟩
 case sub a x j g=>
  obtain⟨k,b,h1⟩:=an.1 h;cases av.1 h1;have b:=rA.1 (bC.1 b);subst b;exact⟨_,_,_,rfl,.num (jw g)⟩
 case oM=>
  obtain⟨k,b,h1⟩:=an.1 h;cases av.1 h1;have b:=rA.1 (bC.1 b);subst b;exact⟨_,_,_,rfl,.num (jw (Zaj _))⟩
 case list hs g j=>cases av.1 h;exact⟨_,_,_,rfl,f _ g⟩
 case dW=>cases av.1 h;exact⟨_,_,_,rfl,f 0 (Zaj _)⟩
def O' {ty:TypeId} (h:(QeW P D Z v).H i) (j:VR M v c) (k:Array TypeId) (o:Array Value) (h0:k[0]?=some Z) (h1:o[0]?=some c):
  ∃m,(Builtin.len_ k ty o).run P w=.ok m w/\VR M i m:=by
 obtain⟨d,g,b⟩:=an.1 h;rw[gT] at g;cases d<;>simp only at b<;>(try exact b.elim)
 case string=>
  obtain⟨l,hl,x⟩:=an.1 b;cases av.1 x;obtain⟨rfl,f⟩:=mv hl j;have dd:(⟨⟨l⟩⟩:ByteArray).size=l.length:=rfl;exact⟨goInt l.length,by simp[Builtin.len_,h0,h1,Zza g,dd],.int (jw f)⟩
 case slice e=>
  obtain⟨y,n,cap,rfl,u⟩:=O9 b j;exact⟨goInt n,by simp[Builtin.len_,h0,h1,Zza g],u⟩
 case array n e=>
  obtain⟨p,a,x⟩:=an.1 b;obtain⟨r,q⟩:=bz.1 x;cases av.1 q;have a:=rA.1 (bC.1 a);subst a;have s:n<=1099511627776:=cu.1 r;exact⟨_,by simp[Builtin.len_,h0,h1,Zza g];rfl,.num (jw ω)⟩
def Qco (e:Ex):Exit:=match e with
 | .normal=>.normal
 | .exit id=>.exit id
 | .ret=>.ret
def FJ (P:Program) (D:Data) (f:FuncId) (args:List (AV D.E)) (s:St D.E) (v:AV D.E) (a:St D.E):Prop:=s.nx<=a.nx/\(∃fn c,P.funcs[f]?=some fn/\fn.body=some c)/\
 ∀(M:Pm D) (A:Array Value) (w:World),LR M args A.toList->dX M s.h.get w->bW M s.nx a.nx->
  ∀R:Ending->World->Prop,(∀b d e,VR b v d->cP s.h.get M w a.h.get b e s.nx a.nx->R (.returned d) e)->Calls P f A w R
def sR (P:Program) (D:Data) (b:tK D.E):Prop:=∀(f:FuncId) (args:List (AV D.E)) (s:St D.E) (v:AV D.E) (a:St D.E),(b f args s).H (v,a)->FJ P D f args s v a
def eu (P:Program) (o:Oper) (a:Act) (s:St D.E) (M:Pm D) (w:World) (v:AV D.E) (e:St D.E):Prop:=
 (∃d b c,((execOp a.eval o).run P w=.ok (.value b) c\/((execOp a.eval o).run P w=.ok .skip c/\b=Go.undef))/\VR d v b/\cP s.h.get M w e.h.get d c s.nx e.nx)\/
 (∃f A,(execOp a.eval o).run P w=.ok (.enter f A) w/\∀R:Ending->World->Prop,(∀d b c,VR d v b->cP s.h.get M w e.h.get d c s.nx e.nx->R (.returned b) c)->Calls P f A w R)
def eu.wp {a2:Act} (h:eu P o a s M w v s') (j:execOp a2.eval o=execOp a.eval o) (K:Act->World->Prop) (Q:Exit->Act->World->Prop)
  (g:∀b d c,VR b v d->cP s.h.get M w s'.h.get b c s.nx s'.nx->K (a2.put o.dst d) c):o.wp P a2 w K Q:=by
 unfold Oper.wp;rw[j];rcases h with⟨b,d,c,h1 | ⟨h1,rfl⟩,e,hs⟩ | ⟨f,A,h1,i⟩
 ·rw[h1];exact g b d c e hs
 ·rw[h1];exact g b Go.undef c e hs
 ·rw[h1];exact i _ λb d c e hs=>g b d c e hs
def eu.same (h:eu P o a s M w v s') (g:∀b c,VR b v c->VR b i c):eu P o a s M w i s':=by
 rcases h with⟨b,c,e,h1,d,hs⟩ | ⟨f,A,h1,d⟩
 ·exact .inl ⟨b,c,e,h1,g _ _ d,hs⟩
 ·exact .inr ⟨f,A,h1,λR k=>d R λb c e j hs=>k b c e (g _ _ j) hs⟩
def eu.value (h:(execOp a.eval o).run P w=.ok (.value c) W) (d:VR M' v c) (hs:cP s.h.get M w s'.h.get M' W s.nx s'.nx):eu P o a s M w v s':=
 .inl ⟨M',c,W,.inl h,d,hs⟩
def eu.res {r:Result Value} (d:vd s M w r v s') (h:∀b c,r=.ok b c->(execOp a.eval o).run P w=.ok (.value b) c):eu P o a s M w v s':=by
 obtain⟨g,b,c,e,f,hs⟩:=d;exact .value (h b c e) f hs
theorem eu.pure {v':Value} (b:dX M s.h.get w) (h:(execOp a.eval o).run P w=.ok (.value v') w) (c:VR M v v'):eu P o a s M w v s:=.value h c (.refl b _)
def eu.skip {r:Result Unit} (d:Qfb s M w r s') (h:∀b,r=.ok () b->(execOp a.eval o).run P w=.ok .skip b):eu P o a s M w undef s':=by
 obtain⟨c,b,e,hs⟩:=d;exact .inl ⟨c,Go.undef,b,.inr ⟨h b e,rfl⟩,.undef,hs⟩
theorem dB {x:C (AV D.E)} (h:(iC D s x).H (v,s')):x.H v/\s'=s:=by
 obtain⟨u,hu,h1⟩:=an.1 h;grind [av]
theorem Qcp {x:C (St D.E)} (h:(Qe1 D x).H (v,s')):x.H s'/\v=undef:=by
 obtain⟨u,hu,h1⟩:=an.1 h;grind [av]
theorem gk {α:Type} {x:Sem α} {f:α->Next} {v:α} {a:World} (h:x.run P W=.ok v a):(do Pure.pure (f (<-x)):Sem Next).run P W=.ok (f v) a:=by
 simp_all
theorem Qfg {x:Sem Unit} {a:World} (h:x.run P W=.ok () a):(do x;Pure.pure .skip:Sem Next).run P W=.ok .skip a:=by
 simp_all
theorem pH (h:(Om P D φ V.toList).H b) (c:FR M φ a N):LR M b (V.map a.eval).toList:=by
 grind [Array.toList_map,OY]
theorem zn {i:Nat} (h:(Om P D φ V.toList).H b) (e:FR M φ a N) (c:gM b i=some v):∃d,(V.map a.eval)[i]?=some d/\VR M v d:=by
 rw[fb] at c;obtain⟨d,h1,f⟩:=(pH h e).get c;grind
theorem O_ {i:Nat} (h:gM X.toList i=some Z):X[i]?=some Z:=by
 grind [fb]
theorem Bl (G:a7 D) {L:Builtin} {c:Call} (S:o.op=.call c) (R:c.callee=.builtin L) (g:(Om P D φ c.args.toList).H b) (h:(kt P D cd Y L s c.argTypes.toList b).H (v,s')) (p:dX M s.h.get w) (l:FR M φ a N) (I:bW M s.nx s'.nx):
  eu P o a s M w v s':=by
 have J:∀(x:Sem Next),(do let d <-resolve a.eval c o.type;invoke d.target d.args:Sem Next)=x->(execOp a.eval o)=x:=λx J=>by
  unfold execOp;rw[S];exact J
 have q:(execOp a.eval o)=builtin L c.argTypes o.type (c.args.map λ| .const _=>true | _=>false) (c.args.map a.eval):=J _ (by
  unfold resolve;rw[R];rfl)
 cases L<;>simp only[kt] at h<;>(try exact h.elim)
 case append=>
  obtain⟨t,ht,h1⟩:=an.1 h;obtain⟨u,hu,Q⟩:=an.1 h1;obtain⟨d,A,F⟩:=an.1 Q;obtain⟨x,f,k⟩:=an.1 F;rw[bC] at ht hu A f;obtain⟨K,m,n⟩:=zn g l A;obtain⟨C,i,j⟩:=zn g l f;have T:=CP (ty:=o.type) G k n j p I;refine eu.res T λB O e=>?_
  rw[q];have e2:(Builtin.append_ c.argTypes o.type (c.args.map a.eval))=Builtin.append_ #[t,u] o.type #[K,C]:=by
   unfold Builtin.append_;rw[O_ ht,O_ hu,m,i];rfl
  exact gk (by grind)
 case copy=>
  obtain⟨t,ht,h1⟩:=an.1 h;obtain⟨d,A,F⟩:=an.1 h1;obtain⟨x,f,k⟩:=an.1 F;rw[bC] at ht A f;obtain⟨K,m,n⟩:=zn g l A;obtain⟨C,i,j⟩:=zn g l f;exact eu.res (LM (ty:=o.type) G k n j p (O_ ht) m i) λB O e=>by rw[q];exact gk e
 case len=>
  obtain⟨t,ht,h1⟩:=an.1 h;obtain⟨x,f,k⟩:=an.1 h1;rw[bC] at ht f;obtain⟨C,i,j⟩:=zn g l f;obtain⟨r,rfl⟩:=dB k;obtain⟨B,y,z⟩:=O' (P:=P) (w:=w) (ty:=o.type) r j c.argTypes (c.args.map a.eval) (O_ ht) i;exact eu.pure p (by rw[q];exact gk y) z
 case min=>
  obtain⟨x,f,k⟩:=an.1 h;rw[bC] at f;obtain⟨r,rfl⟩:=dB k;obtain⟨B,y,z⟩:=WD (P:=P) (ts:=c.argTypes) (ty:=o.type) r f (pH g l);exact eu.pure p (by rw[q];exact gk (y w)) z
 case max=>
  obtain⟨x,f,k⟩:=an.1 h;rw[bC] at f;obtain⟨r,rfl⟩:=dB k;obtain⟨B,y,z⟩:=WE (P:=P) (ts:=c.argTypes) (ty:=o.type) r f (pH g l);exact eu.pure p (by rw[q];exact gk (y w)) z
 case clear=>
  obtain⟨t,ht,h1⟩:=an.1 h;obtain⟨x,f,k⟩:=an.1 h1;rw[bC] at ht f;obtain⟨C,i,j⟩:=zn g l f;exact eu.res (CT (ty:=o.type) G k j p (O_ ht) i) λB O e=>by rw[q];exact gk e
def sS (P:Program):Prop:=∀(f:FuncId) (fn:Func),P.funcs[f]?=some fn->(fn.name== "runtime.NumGoroutine" &&fn.body.isSome)=false
theorem vj (h:(vX D v).H Y) (a:VR M v c):c=.bool Y:=by
 cases a<;>simp only[vX] at h<;>(try exact h.elim)
 all_goals grind [u9,av]
theorem FK (hD:a7 D) {mu:Bool} {ex:tK D.E} {o:Oper} {v:AV D.E} (N':sS P) (hex:sR P D ex) (h:(OB P D cd mu o.op ex s φ).H (v,s')) (hS:dX M s.h.get w) (hf:FR M φ a N) (hfr:bW M s.nx s'.nx):eu P o a s M w v s':=by
 cases ho:o.op<;>rw[ho] at h<;>simp only[OB] at h<;>(try exact h.elim)
 case move x=>
  obtain⟨h1,rfl⟩:=dB h;exact eu.pure hS (by unfold execOp;rw[ho];rfl) (dF h1 hf)
 case assign x=>
  obtain⟨h1,rfl⟩:=dB h;exact eu.pure hS (by unfold execOp;rw[ho];rfl) (dF h1 hf)
 case pick c x y=>
  obtain⟨vc,hc,h1⟩:=an.1 h;obtain⟨vx,hx,h2⟩:=an.1 h1;obtain⟨vy,hy,h3⟩:=an.1 h2;obtain⟨h4,rfl⟩:=dB h3;obtain⟨t,ht,h5⟩:=an.1 h4;have et:=vj ht (dF hc hf);rcases gS.1 h5 with⟨rfl,h6⟩ | ⟨rfl,h6⟩
  ·cases av.1 h6;exact eu.pure hS (by grind [execOp,Go.asBool,Sem.run_pure]) (dF hx hf)
  ·cases av.1 h6;exact eu.pure hS (by grind [execOp,Go.asBool,Sem.run_pure]) (dF hy hf)
 case alloc e=>
  obtain⟨z,hz,h1⟩:=an.1 h;obtain⟨it,z',hit,hzz,hzv⟩:=mm hz;refine eu.res (zh (P:=P) (C:=z'.cells) h1 hS hfr (fg (hzv M))) λv' w' e1=>?_
  unfold execOp;rw[ho];refine gk ?_;unfold Instr.alloc newVar;simp only[Zzd,rC hit hzz,Zzb];exact e1
 case box e x=>
  obtain⟨u,hu,h1⟩:=an.1 h;refine eu.res (zh (P:=P) (C:=(a.eval x).cells) h1 hS hfr (fg (dF hu hf))) λv' w' e1=>?_
  unfold execOp;rw[ho];exact gk e1
 case build t parts=>
  obtain⟨h1,rfl⟩:=dB h;obtain⟨v',h2,h3⟩:=CR h1 hf;exact eu.pure hS (by unfold execOp;rw[ho];exact gk (h2 w)) h3
 case buildSlice t len parts=>
  exact eu.res (yw hD h hf hS hfr) λv' w' e1=>by unfold execOp;rw[ho];exact gk e1
 case load t x=>
  obtain⟨u,hu,h1⟩:=an.1 h;obtain⟨h3,rfl⟩:=dB h1;obtain⟨v',ad,e1,h4,_,h5⟩:=y8 (P:=P) hD h3 (dF hu hf) hS;exact eu.pure hS (by unfold execOp;rw[ho];exact gk h4) h5
 case store t x y=>
  obtain⟨vx,hx,h1⟩:=an.1 h;obtain⟨vy,hy,h2⟩:=an.1 h1;obtain⟨h3,rfl⟩:=Qcp h2;exact eu.skip (CN hD h3 (dF hx hf) (dF hy hf) hS) λw' e1=>by unfold execOp;rw[ho];exact Qfg e1
 case nilCheck x=>
  obtain⟨u,hu,h1⟩:=an.1 h;obtain⟨h2,rfl⟩:=dB h1;obtain⟨h3,rfl⟩:=LQ (P:=P) h2 (dF hu hf) w;grind [eu.pure,execOp,dF]
 case binOp op t x y yt=>
  obtain⟨vx,hx,h1⟩:=an.1 h;obtain⟨vy,hy,h2⟩:=an.1 h1;obtain⟨h3,rfl⟩:=dB h2;obtain⟨v',h4,h5⟩:=O8 h3 (dF hx hf) (dF hy hf) w;exact eu.pure hS (by unfold execOp;rw[ho];exact gk h4) h5
 case unOp op t x=>
  obtain⟨vx,hx,h1⟩:=an.1 h;obtain⟨h3,rfl⟩:=dB h1;obtain⟨v',h4,h5⟩:=WC (P:=P) h3 (dF hx hf);exact eu.pure hS (by unfold execOp;rw[ho];exact gk (h4 w)) h5
 case convert src dst x=>
  obtain⟨vx,hx,h1⟩:=an.1 h;exact eu.res (FF hD h1 (dF hx hf) hS hfr) λv' w' e1=>by unfold execOp;rw[ho];exact gk e1
 case makeInterface t x=>
  obtain⟨vx,hx,h1⟩:=an.1 h;obtain⟨h3,rfl⟩:=dB h1;obtain⟨v',h4,h5⟩:=CY h3 (dF hx hf);exact eu.pure hS (by unfold execOp;rw[ho];exact gk (h4 w)) h5
 case makeFunc fn first captured=>
  obtain⟨vf,h1,h2⟩:=an.1 h;obtain⟨vc,h3,h4⟩:=an.1 h2;cases av.1 h4;have l1:=pH h1 hf;have l2:=pH h3 hf;exact eu.pure hS (by unfold execOp;rw[ho];exact gk rfl) (.func fn l1.1 l1.2 l2.1 l2.2)
 case makeSlice t l c=>
  obtain⟨vl,hl,h1⟩:=an.1 h;obtain⟨vc,hc,h2⟩:=an.1 h1;exact eu.res (Bi hD h2 (dF hl hf) (dF hc hf) hS hfr) λv' w' e1=>by unfold execOp;rw[ho];exact gk e1
 case slice t x lo hi mx=>
  obtain⟨vx,hx,h1⟩:=an.1 h;obtain⟨vl,hl,h2⟩:=an.1 h1;obtain⟨vh,hh,h3⟩:=an.1 h2;obtain⟨vm,hm,h4⟩:=an.1 h3;obtain⟨h5,rfl⟩:=dB h4;obtain⟨v',h6,h7⟩:=FG hD h5 (dF hx hf) (.map hl hf) (.map hh hf) (.map hm hf);exact eu.pure hS (by unfold execOp;rw[ho];exact gk (h6 w)) h7
 case fieldAddr t x f=>
  obtain⟨vx,hx,h1⟩:=an.1 h;obtain⟨h3,rfl⟩:=dB h1;obtain⟨v',h4,h5⟩:=ux h3 (dF hx hf);exact eu.pure hS (by unfold execOp;rw[ho];exact gk (h4 w)) h5
 case field t x f=>
  obtain⟨vx,hx,h1⟩:=an.1 h;obtain⟨h3,rfl⟩:=dB h1;obtain⟨v',h4,h5⟩:=CW h3 (dF hx hf);exact eu.pure hS (by unfold execOp;rw[ho];exact gk (h4 w)) h5
 case indexAddr t x i=>
  obtain⟨vx,hx,h1⟩:=an.1 h;obtain⟨vi,hi,h2⟩:=an.1 h1;obtain⟨h3,rfl⟩:=dB h2;obtain⟨v',h4,h5⟩:=yx h3 (dF hx hf) (dF hi hf);exact eu.pure hS (by unfold execOp;rw[ho];exact gk (h4 w)) h5
 case index t x i=>
  obtain⟨vx,hx,h1⟩:=an.1 h;obtain⟨vi,hi,h2⟩:=an.1 h1;obtain⟨h3,rfl⟩:=dB h2;obtain⟨v',h4,h5⟩:=CX h3 (dF hx hf) (dF hi hf);exact eu.pure hS (by unfold execOp;rw[ho];exact gk (h4 w)) h5
 case extract x i=>
  obtain⟨vx,hx,h1⟩:=an.1 h;obtain⟨h3,rfl⟩:=dB h1;obtain⟨v',h4,h5⟩:=yy (P:=P) h3 (dF hx hf);exact eu.pure hS (by unfold execOp;rw[ho];exact gk (h4 w)) h5
 case call c=>
  cases hc:c.callee with
  | builtin b=>
   rw[hc] at h;obtain⟨vs,hvs,h1⟩:=an.1 (show(aA (Om P D φ c.args.toList) λvs=>kt P D cd mu b s c.argTypes.toList vs).H (v,s') from h);grind [Bl]
  | invoke r m=>rw[hc] at h;exact(h:False).elim
  | value x=>
   rw[hc] at h;obtain⟨f,args,h1,h2⟩:=bq.1 (show(aQ (Qad P D φ x c) λf args=>ex f args s).H (v,s') from h);obtain⟨u,hu,h3⟩:=an.1 h1;obtain⟨f',p,hfn,h4⟩:=bq.1 h3;obtain⟨Qvg,has,h5⟩:=an.1 h4;obtain⟨fs,cs⟩:=p;have h5:=av.1 h5;simp only[Zbx] at h5;obtain⟨rfl,rfl⟩:=h5;rw[fD,fD] at h2;have hv:=dF hu hf;have hfun:∃(F C:Array Value),a.eval x=.func (.func f') F C/\LR M fs F.toList/\LR M cs C.toList:=by
    generalize a.eval x=xv at hv;cases hv<;>simp only[Qe2] at hfn<;>(try exact hfn.elim)
    rename_i fn _ _ _ _ g1 g2 g3 g4
    cases fn<;>simp only at hfn<;>(try exact hfn.elim);have hfn:=av.1 hfn;simp only[Zbx] at hfn;obtain⟨rfl,rfl,rfl⟩:=hfn;exact⟨_,_,rfl,⟨g1,g2⟩,⟨g3,g4⟩⟩
   obtain⟨F,C,e1,l1,l2⟩:=hfun
   have hl:LR M (fs++(Qvg++cs)) (F++c.args.map a.eval++C).toList:=by
    rw[Array.toList_append,Array.toList_append,ZaD];exact l1.app ((pH has hf).app l2)
   obtain⟨_,⟨fn,body,g1,g2⟩,hcall⟩:=hex f' _ s v s' h2;have hcall:=hcall M _ w hl hS hfr;have hn:(fn.name== "runtime.NumGoroutine")=false:=by
    have:=N' f' fn g1;grind
   have hrun:(execOp a.eval o).run P w=.ok (.enter f' (F++c.args.map a.eval++C)) w:=by
    unfold execOp;rw[ho];simp only[resolve,hc,e1,Deferred.ofValue,Zzd,Zzc,Zzb,invoke,callFunc,program,Sem.run,g1,hn,ZaE,Za0,g2,Option.isNone_some]
   exact .inr ⟨f',_,hrun,hcall⟩
end
section
variable {P:Program} {D:Data} {cd:TypeId->Option Nat} {M M':Pm D} {φ φ':T (AV D.E)} {a:Act} {N:Nat} {w:World} {s s':St D.E}
variable {v:AV D.E} {b:Bool} {c:Value} {d:Option Tmp} {Z:Array Oper} {Y:tK D.E}
theorem wx (a:Act) (d:Option Tmp) (v:Value) (t:Tmp) (h:∀x,d=some x->x<a.tmps.size):(a.put d v).tmps.getD t Go.undef=if d=some t then v else a.tmps.getD t Go.undef:=by
 cases d with
 | none=>rw[Zaa (by simp)];rfl
 | some x=>
  show(a.tmps.setIfInBounds x v).getD t Go.undef=_
  rw[ZaT,ZaT];grind
theorem zp (h:(v_ D N φ d v).H φ'):(∀x,d=some x->x<N)/\∀t,φ'.get t=if d=some t then some v else φ.get t:=by
 cases d with
 | none=>cases av.1 (show(C.ret φ).H φ' from h);exact⟨λx b=>(nomatch b),λt=>by simp⟩
 | some x=>
  obtain⟨h1,a⟩:=bz.1 (show(bB (Nat.ble (x+1) N) (cN (φ.put x (some v)))).H φ' from h);rw[bC] at a;refine⟨λy c=>by grind [cu],λt=>?_⟩;rw[T.dU _ _ _ _ a t];grind
def size_put (a:Act) (d:Option Tmp) (v:Value):(a.put d v).tmps.size=a.tmps.size:=by cases d<;>simp[Act.put]
def wy (a:Act) (d:Option Tmp) (v:Value):(a.put d v).defers=a.defers:=by cases d<;>rfl
theorem Jw (h:(v_ D N φ d v).H φ') (b:FR M φ a N) (i:VR M v c):FR M φ' (a.put d c) N:=by
 obtain⟨h1,f⟩:=zp h;refine⟨λt u hu=>?_,by rw[size_put,b.size],by rw[wy,b.defers]⟩;rw[wx a d c t (λx g=>by rw[b.size];exact h1 x g)];rw[f] at hu;by_cases e:d=some t
 ·grind
 ·rw[Zaa e] at hu;rw[Zaa e];exact b.at_ t u hu
def vB (v:Value):Option Bool:=match v with
 | .bool b=>some b
 | _=>none
def Jx {wt:Bool} (h:(Jf D b v).H wt) (d:VR M v c):(vB c==some b)=wt:=by
 cases d<;>simp only[Jf] at h
 case bool a=>
  rcases u9.1 h with⟨rfl,h1⟩ | ⟨rfl,h1⟩<;>cases av.1 h1<;>cases b<;>rfl
 case lit a=>
  have h:=av.1 h;cases a<;>cases b<;>cases wt<;>first | rfl | cases h
 all_goals assumption
theorem pI {o:Oper} (h:(mg D Z.toList φ o).H b) (m:FR M φ a N):Region.wanted o (yielded Z a.tmps)=b:=by
 unfold mg at h;unfold Region.wanted;cases d:o.guard with
 | none=>rw[d] at h;exact av.1 h
 | some p=>
  rw[d] at h;obtain⟨j,wt⟩:=p;show(yielded Z a.tmps j==some wt)=b
  obtain⟨v,n,e⟩:=an.1 (show(aA (cN (yA D Z.toList φ j)) λv=>Jf D wt v).H b from h);obtain⟨q,h1,g⟩:=aH.1 (show oB (gM Z.toList j) (λo=>oB o.dst λt=>φ.get t)=some v from bC.1 n);obtain⟨t,i,k⟩:=aH.1 g;rw[fb,ZaL] at h1;have c:=m.at_ t v k;rw[ZaT] at c;unfold yielded;rw[h1,ZcE,i,ZcE];cases f:a.tmps[t]? with
  | none=>rw[f] at c;exact Jx e c
  | some u=>
   rw[f] at c;have l:=Jx e (show VR M v u from c);cases u<;>exact l
def Pb {e:AV D.E} (h:(settle D v).H e):∀a b,VR a v b->VR a e b:=by
 intro a b d;cases v<;>simp only[settle] at h<;>try (cases av.1 h;exact d)
 rcases u9.1 h with⟨c,h1⟩ | ⟨c,h1⟩<;>subst c<;>cases av.1 h1<;>cases d
 ·exact .lit true
 ·exact .lit false
def Qcq (h:VR M v c):VR M (clo D v) c:=by
 have e:∀k n,Option.rec (motive:=λ_=>AV D.E) (.num k n) (λx=>vV x) (Fe k n)=AV.num k n:=λk n=>by
  cases q:Fe k n with
  | none=>rfl
  | some x=>rw[gj.1 q];rfl
 cases v<;>first | exact h | (cases h;rename_i b;cases b<;>exact .lit _) | (cases h;rename_i q;show VR M (Option.rec (motive:=λ_=>AV D.E) _ _ _) _;rw[e];exact .num q)
theorem Bm (e:a7 D) {g:Bool} {o:Oper} (c:sS P) (hex:sR P D Y) (h:(Jg P D cd b g o.op Y s φ).H (v,s')) (f:dX M s.h.get w) (i:FR M φ a N) (mu:bW M s.nx s'.nx):eu P o a s M w v s':=by
 unfold Jg at h;cases hk:Fq cd with
 | true=>
  rw[hk] at h;obtain⟨n,m,h1,d⟩:=bq.1 (show(aQ (knw (OB P D cd b o.op Y s φ)) λv s=>.ret (clo D v,s)).H (v,s') from h);cases av.1 d;exact(FK e c hex (Qah h1) f i mu).same λp q l=>Qcq l
 | false=>
 rw[hk] at h;cases g with
 | false=>exact FK e c hex h f i mu
 | true=>
  obtain⟨n,m,h1,d⟩:=bq.1 (show(aQ (OB P D cd b o.op Y s φ) λv s=>aA (settle D v) λv=>.ret (v,s)).H (v,s') from h);obtain⟨r,j,k⟩:=an.1 d;cases av.1 k;exact(FK e c hex h1 f i mu).same (Pb j)
theorem pJ (F:a7 D) (m:sS P) (hex:sR P D Y):∀(l:List Oper) (i:Nat) (s:St D.E) (φ:T (AV D.E)) (e:St D.E) (c:T (AV D.E)),(qC P D cd b Y Z.toList N l i s φ).H (e,c)->s.nx<=e.nx/\
  ∀(M:Pm D) (a:Act) (w:World),dX M s.h.get w->FR M φ a N->bW M s.nx e.nx->∀Q:Exit->Act->World->Prop,
   (∀x y z,cP s.h.get M w e.h.get x z s.nx e.nx->FR x c y N->Q .normal y z)->wpList P Z Q l a w
 | [],i,s,φ,e,c,h=>by
  cases av.1 (show(C.ret (s,φ)).H (e,c) from h);exact⟨Zah _,λM a w r k _ Q q=>q M a w (.refl r _) k⟩
 | o::l,i,s,φ,e,c,h=>by
  obtain⟨mu,hw,h0⟩:=an.1 (show(aA (mg D Z.toList φ o) λmu=>bE mu
   (aQ (Jg P D cd b (guards Z.toList i) o.op Y s φ) λv n=>aA (v_ D N φ o.dst v) λφ=>bB (Nat.ble s.nx n.nx) (qC P D cd b Y Z.toList N l (Nat.succ i) n φ))
   (aA (v_ D N φ o.dst undef) λφ=>qC P D cd b Y Z.toList N l (Nat.succ i) s φ)).H (e,c) from h)
  rcases gS.1 h0 with⟨rfl,h1⟩ | ⟨rfl,h1⟩
  ·obtain⟨v,n,U,V⟩:=bq.1 h1;obtain⟨p,A,B⟩:=an.1 V;obtain⟨W,X⟩:=bz.1 B;have S:s.nx<=n.nx:=cu.1 W;obtain⟨j,d⟩:=pJ F m hex l _ n p e c X;refine⟨ω,λM a w r k f Q q=>?_⟩;have t:bW M s.nx n.nx:=λmu O R=>f mu O ω
   have K:=Bm (o:=o) F m hex U r k t;unfold wpList;rw[Zac (pI hw k)];refine .inl (K.wp rfl _ _ λL v' ops ex g=>?_);have G:=g.Le t;have I:bW L n.nx e.nx:=λmu O R=>by rw[g.ext mu ω];exact f mu ω R
   refine d L _ ops g.fJ (Jw A (k.mono G) ex) I Q λx y z u J=>q x y z (g.trans u) J
  ·obtain⟨p,A,B⟩:=an.1 h1;obtain⟨j,d⟩:=pJ F m hex l _ s p e c B;refine⟨j,λM a w r k f Q q=>?_⟩;unfold wpList;rw[Zaa (by grind [pI])];exact d M _ w r (Jw A k .undef) f Q q
end
variable {Z:List Nat}
def Qcr (m i:Nat):Nat.beq (Nat.mod (Nat.div m (Nat.pow 2 i)) 2) 1=m.testBit i:=by
 rw[Nat.testBit_eq_decide_div_mod_eq,ZaG,aN,ZbP];exact ZbW
theorem rJ {i j m:Nat} (h:Z[j]?=some m):j5 Z i j=m.testBit i:=by
 unfold j5;rw[fb,h];exact Qcr m i
theorem CZ {i j:Nat} (h:Z[j]?=none):j5 Z i j=false:=by
 unfold j5;rw[fb,h]
theorem oR:∀{es:List Edge} {ms:List Nat} {m0 m:Nat},vY ms es m0=some m->
  (∀e∈es,Region.binds .any e->e.on<ms.length)/\∀i,m.testBit i↔(m0.testBit i\/∃e∈es,Region.binds .any e/\(e.on=i\/j5 ms i e.on))
 | [],ms,m0,m,h=>by cases(show some m0=some m from h);simp
 | e::es,ms,m0,m,h=>by
  rcases Bc.1 (show oE (Region.binds .any e) (oB (gM ms e.on) λk=>vY ms es (Nat.lor (Nat.lor m0 (Nat.pow 2 e.on)) k)) (vY ms es m0)=some m from h) with⟨d,h1⟩ | ⟨d,h1⟩
  ·obtain⟨k,hk,c⟩:=aH.1 h1;rw[fb] at hk;obtain⟨q1,b⟩:=oR c;have j:e.on<ms.length:=(Zam.1 hk).1;refine⟨λl g f=>?_,λi=>?_⟩
   ·grind
   ·rw[b i];have a:(Nat.lor (Nat.lor m0 (Nat.pow 2 e.on)) k).testBit i=(m0.testBit i||decide (e.on=i)||j5 ms i e.on):=by
     show((m0||| 2 ^ e.on)||| k).testBit i=_
     grind [rJ]
    grind
  ·obtain⟨q1,b⟩:=oR h1;grind
structure nD (L:List Oper) (ms:List Nat):Prop where
 len:ms.length=L.length
 Qcs:∀(j:Nat) (o:Oper) (e:Edge),L[j]?=some o->e∈o.after.toList->Region.binds .any e=true->e.on<j/\j5 ms e.on j=true/\∀i,j5 ms i e.on=true->j5 ms i j=true
 back:∀i j,j5 ms i j=true->∃(o:Oper) (e:Edge),L[j]?=some o/\e∈o.after.toList/\Region.binds .any e=true/\e.on<j/\(e.on=i\/j5 ms i e.on=true)
variable {Z:List Nat} {L:List Oper}
theorem rK {m i j:Nat} (h:j<Z.length):j5 (Z++[m]) i j=j5 Z i j:=by
 have h1:Z[j]?=some Z[j]:=Zaf h;rw[rJ h1,rJ (by rw[Zat h];exact h1)]
theorem wz:∀{os pre:List Oper} {ms g:List Nat},Jd os ms=some g->nD pre ms->nD (pre++os) g
 | [],pre,ms,g,h,l=>by cases(show some ms=some g from h);rw[Zaw];exact l
 | o::os,pre,ms,g,h,l=>by
  obtain⟨m,v,h1⟩:=aH.1 (show oB (vY ms o.after.toList 0) (λm=>Jd os (nt ms [m]))=some g from h);rw[fD] at h1;obtain⟨q1,w⟩:=oR v;have q:∀i,j5 (ms++[m]) i ms.length↔∃e∈o.after.toList,Region.binds .any e/\(e.on=i\/j5 ms i e.on):=λi=>by
   rw[rJ (m:=m) (by simp),w i];simp
  have hlen:=l.len;have key:nD (pre++[o]) (ms++[m]):=by
   refine⟨by grind,λj s e r u t=>?_,λi j k=>?_⟩
   ·by_cases p:j<pre.length
    ·rw[Zat p] at r;obtain⟨a,b,c⟩:=l.Qcs j s e r u t;grind [rK]
    ·have n:j=pre.length:=by
      grind
     grind [rK]
   ·by_cases p:j<pre.length
    ·rw[rK ω] at k;obtain⟨s,e,a,b,c,d,f⟩:=l.back i j k;grind [rK]
    ·by_cases n:j=ms.length
     ·grind [rK]
     ·grind [CZ]
  have:=wz (pre:=pre++[o]) h1 key;grind
theorem Pc (h:Jd L []=some Z):nD L Z:=by
 have:=wz (pre:=[]) h ⟨rfl,λj o e b=>by grind,λi j a=>by grind [CZ]⟩;assumption
theorem nD.lt (h:nD L Z):∀{j i:Nat},j5 Z i j->i<j:=by
 intro j
 induction j using Nat.strongRecOn with
 | _ j d=>
  intro i a;obtain⟨o,e,_,_,_,b,c⟩:=h.back i j a;grind
theorem nD.trans (h:nD L Z):∀{j k i:Nat},j5 Z i k->j5 Z k j->j5 Z i j:=by
 intro j
 induction j using Nat.strongRecOn with
 | _ j n=>
  intro k i d a;obtain⟨o,e,g,c,b,f,m⟩:=h.back k j a;obtain⟨_,_,l⟩:=h.Qcs j o e g c b;grind
theorem wA {α:Type} {f:Nat->α->Bool}:∀{l:List α} {i:Nat},Je f l i->∀j x,l[j]?=some x->f (i+j) x
 | [],i,h,j,x,d=>by grind
 | a::l,i,h,j,x,d=>by
  have b:Bool.rec (motive:=λ_=>Bool) false (Je f l (i+1)) (f i a):=h;cases c:f i a with
  | false=>rw[c] at b;cases b
  | true=>
   rw[c] at b;cases j with
   | zero=>simp at d;subst d;exact c
   | succ j=>
    have:=wA (f:=f) b j x (by assumption);grind
theorem wB {α:Type} {f:α->Bool}:∀{l:List α},AY f l↔∃x∈l,f x
 | []=>by simp[AY]
 | a::l=>by
  show Bool.rec (motive:=λ_=>Bool) (AY f l) true (f a)↔_
  have:=wB (f:=f) (l:=l);cases h:f a<;>simp[h,this]
def Reads (L:List Oper) (o:Oper) (t:Tmp):Prop:=some t∈pB L o
theorem zq {o:Oper} {t:Tmp}:Reads L o t↔reads L o t:=by
 unfold Reads pB reads;rw[pC,Zbf,ZcL];have h1:(AY (A4 t) o.op.operands.toList)↔∃x∈o.op.operands.toList,OF x=some t:=by
  rw[wB];constructor
  ·rintro⟨x,a,h⟩;refine⟨x,a,?_⟩;cases x<;>simp only[A4] at h<;>(try cases h);rw[aN.1 h];rfl
  ·rintro⟨x,a,h⟩;refine⟨x,a,?_⟩;cases x<;>simp only[OF] at h<;>cases h;exact ZdY _
 rw[<-h1];generalize AY (A4 t) o.op.operands.toList=b;cases A5 L o with
 | none=>cases b<;>simp
 | some g=>
  grind [aN]
structure wC (P:Program) (L:List Oper) (ms:List Nat):Prop extends nD L ms where
 rd:∀(i j:Nat) (oi oj:Oper) (d:Tmp),L[i]?=some oi->L[j]?=some oj->i≠j->oj.dst=some d->Reads L oi d->j5 ms i j=true\/j5 ms j i=true
 wr:∀(i j:Nat) (oi oj:Oper) (d:Tmp),L[i]?=some oi->L[j]?=some oj->i≠j->oj.dst=some d->oi.dst≠some d
 eff:∀(i j:Nat) (oi oj:Oper),L[i]?=some oi->L[j]?=some oj->i≠j->iD P oi=3->iD P oj=3->j5 ms i j=true\/j5 ms j i=true
 rj:∀(i:Nat) (oi:Oper),L[i]?=some oi->∀cs b,oi.op≠.select cs b
 gd:∀(i:Nat) (oi:Oper) (g:Nat) (b:Bool),L[i]?=some oi->oi.guard=some (g,b)->j5 ms g i=true
theorem yz {P:Program} {L:List Oper} {ms:List Nat} (h:CC P L=some ms):wC P L ms:=by
 obtain⟨u,t,h1⟩:=aH.1 h;obtain⟨v,s⟩:=lJ.1 h1;cases s;have o:=Pc t;have hi:∀i a,L[i]?=some a->OD a/\A6 ms i a/\∀j c,L[j]?=some c->OC P L ms i j a c:=λi a k=>by
  grind [wA]
 have p:∀i j a c,L[i]?=some a->L[j]?=some c->i≠j->(∀d,c.dst=some d->(ordered ms i j\/reads L a d=false)/\a.dst≠some d)/\((iD P a=3/\iD P c=3)->ordered ms i j):=by
  intro i j a c k l f;rcases or2 ((hi i a k).2.2 j c l) with m | m
  ·simp_all
  ·obtain⟨r,w⟩:=l4 m;refine⟨λd n=>?_,λ⟨q,e2⟩=>?_⟩
   ·rw[n] at r;obtain⟨x,y⟩:=l4 r;refine⟨?_,λe=>?_⟩
    ·grind
    ·simp_all
   ·simp_all
 refine⟨o,λi j a c d k l f n A=>?_,λi j a c d k l f n=>((p i j a c k l f).1 d n).2,λi j a c k l f q e2=>or2 ((p i j a c k l f).2 ⟨q,e2⟩),λi a k cs b e=>?_,λi a g b k z=>?_⟩
 ·rcases((p i j a c k l f).1 d n).1 with m | m
  ·exact or2 m
  ·grind [zq]
 ·grind [OD]
 ·have:=(hi i a k).2.1;unfold A6 at this;simp_all
section
variable {P:Program} {D:Data} {cd:TypeId->Option Nat} {mu:Bool} {ex:tK D.E} {L:List Oper} {N:Nat} {ms:List Nat}
theorem nE {φ:T (AV D.E)}:∀{c:List (Option Tmp)} {b a:T (AV D.E)},(y1 D φ c b).H a->∀t,a.get t=if some t∈c/\φ.get t≠none then φ.get t else b.get t
 | [],b,a,h,t=>by cases av.1 (show(C.ret b).H a from h);simp
 | none::c,b,a,h,t=>by
  rw[nE (show(y1 D φ c b).H a from h) t];simp
 | some x::c,b,a,h,t=>by
  have d:(Option.rec (motive:=λ_=>C (T (AV D.E))) (y1 D φ c b) (λv=>aA (cN (b.put x (some v))) λb=>y1 D φ c b) (φ.get x):C (T (AV D.E))).H a:=h;cases e:φ.get x with
  | none=>
   rw[e] at d;rw[nE d t];grind
  | some v=>
   rw[e] at d;obtain⟨g,h1,f⟩:=an.1 d;rw[bC] at h1;rw[nE f t,T.dU _ _ _ _ h1 t];grind
def PHI (L:List Oper) (a:T (AV D.E)) (rs:List (Rc D)) (φ:T (AV D.E)):Prop:=
 (∀(j:Nat) (r:Rc D) (o:Oper) (d:Tmp),rs[j]?=some r->L[j]?=some o->o.dst=some d->φ.get d=some r.v)/\∀t,(∀(j:Nat) (r:Rc D) (o:Oper),rs[j]?=some r->L[j]?=some o->o.dst≠some t)->φ.get t=a.get t
def fS (es:List Nat) (k:Nat):Nat:=match k with
 | 0=>0
 | k+1=>es.getD k 0+1
structure Pd (P:Program) (D:Data) (cd:TypeId->Option Nat) (mu:Bool) (ex:tK D.E) (L:List Oper) (ms:List Nat) (φ0:T (AV D.E)) (rs:List (Rc D)) (hs:List (T (AO D.E))) (es:List Nat) (i:Nat) (o:Oper) (r:Rc D):Prop where
 op:r.o=o
 le:r.lo<=r.hi
 fr:∃φ,PHI L φ0 (rs.take i) φ/\∀t,(Reads L o t->r.φ.get t=φ.get t)/\(¬Reads L o t->r.φ.get t=none)
 kind:(r.cls=0/\(mg D L r.φ o).H false/\r.v=undef/\r.hi=r.lo)\/
  (r.cls=1/\(mg D L r.φ o).H true/\iD P o=1/\(Jg P D cd mu r.g o.op V9 ⟨.nil,r.lo⟩ r.φ).H (r.v,⟨r.pc,r.hi⟩)/\r.hi<=r.lo+1)\/
  (r.cls=2/\(mg D L r.φ o).H true/\iD P o=2/\r.hi=r.lo)\/
  (r.cls=3/\(mg D L r.φ o).H true/\iD P o=3/\∃(k:Nat) (h h' K:T (AO D.E)) (last:Nat),es[k]?=some i/\hs[k]?=some h/\hs[k+1]?=some h'/\last=fS es k/\
   (kH D (λj=>Bool.and (j5 ms j i) (cg ms last j)) (rs.take i) 0 h).H K/\(Jg P D cd mu r.g o.op ex ⟨K,r.lo⟩ r.φ).H (r.v,⟨h',r.hi⟩))
structure oS (P:Program) (D:Data) (cd:TypeId->Option Nat) (mu:Bool) (ex:tK D.E) (L:List Oper) (N:Nat) (ms:List Nat) (φ0:T (AV D.E)) (s:St D.E) (i:Nat) (d:Ds D):Prop where
 len:d.rs.length=i
 phi:PHI L φ0 d.rs d.φ
 rc:∀(j:Nat) (o:Oper) (r:Rc D),L[j]?=some o->d.rs[j]?=some r->Pd P D cd mu ex L ms φ0 d.rs d.hs d.es j o r
 qG:d.hs.length=d.es.length+1
 aT:d.hs[d.es.length]?=some d.h
 h0:d.hs[0]?=some s.h
 last:d.last=fS d.es d.es.length
 esr:∀(k e:Nat),d.es[k]?=some e->e<i/\∃r,d.rs[e]?=some r/\r.cls=3
 ese:∀(e:Nat) (r:Rc D),d.rs[e]?=some r->r.cls=3->∃k:Nat,d.es[k]?=some e
 inc:∀k l e f:Nat,k<l->d.es[k]?=some e->d.es[l]?=some f->e<f
 oT:s.nx<=d.nx/\∀(j:Nat) (r:Rc D),d.rs[j]?=some r->s.nx<=r.lo/\r.hi<=d.nx
 apart:∀(j k:Nat) (r q:Rc D),j<k->d.rs[j]?=some r->d.rs[k]?=some q->r.hi<=q.lo
 dst:∀(j:Nat) (o:Oper) (d':Tmp),j<i->L[j]?=some o->o.dst=some d'->d'<N
variable {i:Nat} {U:T (AV D.E)} {o:Oper} {s:St D.E} {A:List (T (AO D.E))} {y:List Nat}
theorem Pd.grow {rs e:List (Rc D)} {d:List (T (AO D.E))} {c:List Nat} {r:Rc D} (h:Pd P D cd mu ex L ms U rs A y i o r) (h1:e.take i=rs.take i) (g:∀(k:Nat) (x:T (AO D.E)),A[k]?=some x->d[k]?=some x) (p:∀(k x:Nat),y[k]?=some x->c[k]?=some x):Pd P D cd mu ex L ms U e d c i o r:=by
 refine⟨h.op,h.le,by rw[h1];exact h.fr,?_⟩;rcases h.kind with k | k | k | ⟨k1,k2,k3,k,a,b,K,last,j,e2,l,m,q,n⟩
 ·grind
 ·grind
 ·grind
 ·refine .inr (.inr (.inr ⟨k1,k2,k3,k,a,b,K,last,p _ _ j,g _ _ e2,g _ _ l,?_,by grind,n⟩));cases k with
  | zero=>exact m
  | succ k=>
   grind [fS]
theorem gn {α:Type} {l:List α} {a:α} {x:α} (h:(l++[a])[i]?=some x):(l[i]?=some x)\/(i=l.length/\x=a):=by
 grind
theorem Pe {α:Type} {l:List α} {a:α} {x:α} (h:l[i]?=some x):(l++[a])[i]?=some x:=by
 grind
theorem oS.step {d:Ds D} {r:Rc D} {S C:T (AV D.E)} (a:oS P D cd mu ex L N ms U s i d) (hL:wC P L ms) (ho:L[i]?=some o) (hψ:(y1 D d.φ (pB L o) .nil).H C)
  (hφ:(v_ D N d.φ o.dst r.v).H S) (hr1:r.o=o) (R:r.φ=C) (hr3:r.lo=d.nx) (hr4:r.lo<=r.hi) {M:T (AO D.E)} {m:Nat}
  (G:(r.cls≠3/\M=d.h/\A=d.hs/\y=d.es/\m=d.last)\/(r.cls=3/\A=d.hs++[M]/\y=d.es++[i]/\m=i+1))
  (kind:(r.cls=0/\(mg D L C o).H false/\r.v=undef/\r.hi=r.lo)\/
   (r.cls=1/\(mg D L C o).H true/\iD P o=1/\(Jg P D cd mu r.g o.op V9 ⟨.nil,r.lo⟩ C).H (r.v,⟨r.pc,r.hi⟩)/\r.hi<=r.lo+1)\/
   (r.cls=2/\(mg D L C o).H true/\iD P o=2/\r.hi=r.lo)\/
   (r.cls=3/\(mg D L C o).H true/\iD P o=3/\∃K,(kH D (λj=>Bool.and (j5 ms j i) (cg ms d.last j)) d.rs 0 d.h).H K/\(Jg P D cd mu r.g o.op ex ⟨K,r.lo⟩ C).H (r.v,⟨M,r.hi⟩))):
  oS P D cd mu ex L N ms U s (i+1) ⟨S,M,A,r.hi,m,y,d.rs++[r]⟩:=by
 obtain⟨p1,p2⟩:=zp hφ;have hlen:=a.len;have J:∀(k:Nat) (x:T (AO D.E)),d.hs[k]?=some x->A[k]?=some x:=λk x hx=>by
  grind
 have Z:∀(k x:Nat),d.es[k]?=some x->y[k]?=some x:=λk x hx=>by
  grind
 have u:∀j,j<=i->(d.rs++[r]).take j=d.rs.take j:=λj O=>by grind
 have htl:d.rs.take i=d.rs:=ZaA ω;refine⟨by grind,⟨λj q B V c b z=>?_,λt ht=>?_⟩,λj B q b c=>?_,?_,?_,?_,?_,λk e n=>?_,λe q c hc=>?_,λk l e f Q n X=>?_,⟨by have:=a.oT.1;simp only;omega,λj q c=>?_⟩,λj k q p hjk c hp=>?_,λj B V O b z=>?_⟩
 ·rw[p2];rcases gn c with c | ⟨rfl,rfl⟩
  ·have O:j<i:=by grind
   rw[Zaa (λe=>hL.wr i j o B V ho b ω z e)];exact a.phi.1 j q B V c b z
  ·grind
 ·rw[p2];rw[Zaa (ht i r o (by simp[hlen]) ho)];exact a.phi.2 t λj q B c b=>ht j q B (Pe c) b
 ·rcases gn c with c | ⟨rfl,rfl⟩
  ·have O:j<i:=by grind
   exact(a.rc j B q b c).grow (u j ω) J Z
  ·rw[hlen] at b ⊢;rw[ho] at b;cases b;refine⟨hr1,hr4,⟨d.φ,by rw[u i (Zah _),htl];exact a.phi,λt=>?_⟩,?_⟩
   ·rw[R,nE hψ t,T.get_nil];unfold Reads;simp_all
   ·rw[R];rcases kind with k | k | k | ⟨k1,k2,k3,K,k4,k5⟩
    ·exact .inl k
    ·grind
    ·grind
    ·rcases G with⟨e,_⟩ | ⟨_,w,e2,W⟩
     ·omega
     ·refine .inr (.inr (.inr ⟨k1,k2,k3,d.es.length,d.h,M,K,d.last,by rw[e2];simp,J _ _ a.aT,by rw[w,<-a.qG];simp,?_,by grind,k5⟩));rw[a.last];cases hk:d.es.length with
      | zero=>rfl
      | succ k=>
       grind [fS]
 ·rcases G with⟨_,_,w,e2,_⟩ | ⟨_,w,e2,_⟩
  ·rw[w,e2];exact a.qG
  ·rw[w,e2];simp[a.qG]
 ·rcases G with⟨_,Y,w,e2,_⟩ | ⟨_,w,e2,_⟩
  ·rw[w,e2,Y];exact a.aT
  ·rw[w,e2];simp[<-a.qG]
 ·exact J _ _ a.h0
 ·rcases G with⟨_,_,_,e2,W⟩ | ⟨_,_,e2,W⟩
  ·rw[e2,W];exact a.last
  ·rw[e2,W];simp[fS]
 ·rcases G with⟨_,_,_,e2,_⟩ | ⟨Y,_,e2,_⟩
  ·rw[e2] at n;obtain⟨h1,q,h2,h3⟩:=a.esr k e n;grind
  ·rw[e2] at n;rcases gn n with n | ⟨_,rfl⟩
   ·obtain⟨h1,q,h2,h3⟩:=a.esr k e n;grind
   ·grind
 ·rcases gn c with c | ⟨rfl,rfl⟩
  ·obtain⟨k,hk⟩:=a.ese e q c hc;grind
  ·rcases G with⟨Y,_⟩ | ⟨_,_,e2,_⟩
   ·omega
   ·exact⟨d.es.length,by grind⟩
 ·rcases G with⟨_,_,_,e2,_⟩ | ⟨_,_,e2,_⟩
  ·rw[e2] at n X;exact a.inc k l e f Q n X
  ·rw[e2] at n X;rcases gn X with hf2 | ⟨hl,rfl⟩
   ·rcases gn n with F | ⟨hk,rfl⟩
    ·exact a.inc k l e f Q F hf2
    ·grind
   ·rcases gn n with F | ⟨hk,rfl⟩
    ·exact(a.esr k e F).1
    ·omega
 ·rcases gn c with c | ⟨rfl,rfl⟩
  ·obtain⟨h1,h2⟩:=a.oT.2 j q c;grind
  ·have:=a.oT.1;grind
 ·rcases gn hp with hp2 | ⟨hk,rfl⟩
  ·rcases gn c with I | ⟨O,rfl⟩
   ·exact a.apart j k q p hjk I hp2
   ·grind
  ·rcases gn c with I | ⟨O,rfl⟩
   ·have:=(a.oT.2 j q I).2;omega
   ·omega
 ·by_cases hji:j<i
  ·exact a.dst j B V hji b z
  ·grind
def FL {d G:Ds D} (q:oS P D cd mu ex L N ms U s i d) (p:wC P L ms) (t:L[i]?=some o) (h:(A7 P D cd mu ex L N ms i o d).H G):oS P D cd mu ex L N ms U s (i+1) G:=by
 obtain⟨w,a,h1⟩:=an.1 h;obtain⟨b,hw,h0⟩:=an.1 h1;rcases gS.1 h0 with⟨rfl,B⟩ | ⟨rfl,B⟩
 ·rcases gS.1 B with⟨I,f⟩ | ⟨I,f⟩
  ·obtain⟨v,u,c,n⟩:=bq.1 f;obtain⟨e,g,j⟩:=an.1 n;obtain⟨k,C⟩:=bz.1 j;obtain⟨q1,J⟩:=l4 k;cases av.1 C;rw[fD];exact q.step (r:=⟨o,guards L i,1,v,w,d.nx,u.nx,u.h⟩) p t a g rfl rfl rfl (cu.1 q1) (.inl ⟨by simp,rfl,rfl,rfl,rfl⟩) (.inr (.inl ⟨rfl,hw,aN.1 I,c,cu.1 J⟩))
  ·rcases gS.1 f with⟨l,c⟩ | ⟨l,c⟩
   ·obtain⟨v,n,g⟩:=an.1 c;obtain⟨e,j,k⟩:=an.1 g;cases av.1 k;rw[fD];exact q.step (r:=⟨o,guards L i,2,v,w,d.nx,d.nx,.nil⟩) p t a j rfl rfl rfl (Zah _) (.inl ⟨by simp,rfl,rfl,rfl,rfl⟩) (.inr (.inr (.inl ⟨rfl,hw,aN.1 l,rfl⟩)))
   ·obtain⟨F,n⟩:=bz.1 c;obtain⟨K,g,j⟩:=an.1 n;obtain⟨v,u,k,C⟩:=bq.1 j;obtain⟨e,x,y⟩:=an.1 C;obtain⟨z,A⟩:=bz.1 y;cases av.1 A;rw[fD,fD,fD];exact q.step (r:=⟨o,guards L i,3,v,w,d.nx,u.nx,.nil⟩) p t a x rfl rfl rfl (cu.1 z) (.inr ⟨rfl,rfl,rfl,rfl⟩) (.inr (.inr (.inr ⟨rfl,hw,aN.1 F,K,g,k⟩)))
 ·obtain⟨e,f,c⟩:=an.1 B;cases av.1 c;rw[fD];exact q.step (r:=⟨o,guards L i,0,undef,w,d.nx,d.nx,.nil⟩) p t a f rfl rfl rfl (Zah _) (.inl ⟨by simp,rfl,rfl,rfl,rfl⟩) (.inl ⟨rfl,hw,rfl,rfl⟩)
theorem wD (g:wC P L ms):∀{l pre:List Oper} {d a:Ds D},pre++l=L->oS P D cd mu ex L N ms U s pre.length d->(A8 P D cd mu ex L N ms l pre.length d).H a->oS P D cd mu ex L N ms U s L.length a
 | [],pre,d,a,hl,i,h=>by
  cases av.1 (show(C.ret d).H a from h);grind
 | o::l,pre,d,a,hl,i,h=>by
  obtain⟨k,h1,f⟩:=an.1 (show(aA (A7 P D cd mu ex L N ms pre.length o d) (λd=>A8 P D cd mu ex L N ms l (pre.length+1) d)).H a from h);have j:L[pre.length]?=some o:=by grind
  have b:=FL i g j h1;have e:(pre++[o]).length=pre.length+1:=by simp
  rw[<-e] at b f;exact wD g (by grind) b f
theorem oS.start (s:St D.E) (φ:T (AV D.E)):oS P D cd mu ex L N ms φ s 0 ⟨φ,s.h,[s.h],s.nx,0,[],[]⟩:=
 ⟨rfl,⟨λj r o d h=>by simp at h,λt _=>rfl⟩,λj o r _ h=>by simp at h,rfl,rfl,rfl,rfl,λk e h=>by simp at h,λe r h=>by simp at h,λk l e f _ h=>by simp at h,⟨Zah _,λj r h=>by simp at h⟩,λj k r q _ h=>by simp at h,λj o d h=>ω⟩
end
end sx
end Go.Proofs.YtiiiphndmbabcaaGreat
