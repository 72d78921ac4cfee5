/- StreamRises: a part of the proof. -/
import Derived.Test.YtadfknojfbmjgaaGreatC2
import Derived.Deep.AppendSrc
import Derived.Laws.AppendOwn
import Derived.Lib.ConvBytes
set_option linter.all false
namespace Go.Proofs.YtadfknojfbmjgaaGreat
namespace sx
open Go Go.RowKit
section
variable {P:Program} {D:Data} {cd:TypeId->Option Nat} {M M':Pm D} {φ:T (AV D.E)} {a:Act} {N:Nat} {w w':World} {H:Hp D} {s s':St D.E}
variable {c q b:Nat} {Z:Nat->Nat->Option (AV D.E)} {v:AV D.E} {Y:List (AV D.E)} {E:Nat->Type}
variable {X:List (D.E c)} {W:List (D.E b)}
def cV (sg:Nat->Nat->Option (AV D.E)) (B q:Nat) (cs:List (AV D.E)):Nat->Nat->Option (AV D.E):=λb o=>if b=B/\q<=o/\o<q+cs.length then cs[o-q]? else sg b o
theorem kJ (a:∀o,q<=o->o<q+Y.length->Z c o=none) (b o:Nat) (v:AV D.E) (h:Z b o=some v):cV Z c q Y b o=some v:=by
 grind [cV]
theorem mD {o:Nat} (h:cV Z c q Y b o≠none):Z b o≠none\/b=c:=by
 grind [cV]
def dX (a:aP D) (h:v∈aM c X):one v/\mA v:=by
 have⟨x,_,b⟩:=ZbG.1 h;exact a.one c x v b
theorem Dk (a:aP D):jA one (aM c X):=dV.2 λ_ h=>(dX a h).1
theorem fL (c:Nat) (xs a:List (D.E c)):aM c (xs++a)=aM c xs++aM c a:=by simp[aM]
theorem ck.app (f:aP D) {d:List (D.E b)} (h1:ck M c q b W) (g:ck M c (q+W.length*D.size b) b d):ck M c q b (W++d):=by
 intro i hi j v e;by_cases a:i<W.length
 ·rw[List.getElem_append_left a] at e;exact h1 i a j v e
 ·rw[List.getElem_append_right ω] at e;have:=g (i-W.length) (by grind) j v e;rw[<-this];congr 1;have:(i-W.length)*D.size b+W.length*D.size b=i*D.size b:=by rw[<-ZbL];congr 1;omega
  omega
theorem ck.add (B:aP D) {pl:Nat->Option MI}:ck (⟨pl,cV Z c q (aM b W)⟩:Pm D) c q b W:=by
 intro i hi j v e;have d:j<D.size b:=by rw[<-B.len b W[i]];exact(Zam.1 e).1
 have f:(i+1)*D.size b<=W.length*D.size b:=Zbc _ hi;rw[ZaV] at f;show cV Z c q (aM b W) c (q+i*D.size b+j)=some v
 unfold cV;rw[Zac ⟨rfl,ω,by grind [aS]⟩,show q+i*D.size b+j-q=i*D.size b+j by omega,fK B b W i j hi d];exact e
theorem nu (A:aP D) {mu:Bool} {cap:Nat} {C:Array Value} {fz:Nat×Nat} (h:(newRow D mu s c X q).H (v,s')) (B:ey M s.h.get w) (N:bR M s.nx s'.nx)
  (cI:w.heap.size<=w'.heap.size) (hblk:∀c,c<w.heap.size->w'.heap[c]?=w.heap[c]?) (f:w'.heap[w.heap.size]?=some (.cells C q fz)) (p:fz.1=fz.2\/C.size<=fz.1/\D.size c=1)
  (I:w'.os=w.os) (J:w'.tape=w.tape) (K:w'.output=w.output) (L:∀(i:Nat) (u:AV D.E),(aM c X)[i]?=some u->∃m,C[i]?=some m/\VR M u m) (n:C.size=cap*D.size c) (hl:X.length<=cap) (l:X.length<=9223372036854775807):
  ∃F,VR F v (.slice (some ⟨w.heap.size,0,none⟩) X.length cap)/\cL s.h.get M w s'.h.get F w' s.nx s'.nx:=by
 let mi:MI:=⟨w.heap.size,0,C.size,D.size c,X.length,true⟩
 have O:X.length*D.size c<=C.size:=by rw[n];exact Zbc _ hl
 cases mu with
 | true=>
  have⟨b,S,h1,z⟩:=bh.1 (show(aI (s.new (.arr c X q false)) λb s=>.ret (.own b (D.size c) (ab X),s)).H (v,s') from h);cases ai.1 z;obtain⟨rfl,g1,g2⟩:=qF h1;have d:=N _ (Zah _) ω;have k:=cL.nt (o:=.arr c X q false) (mi:=mi) B d (λ_=>rfl) cI hblk I J K ⟨rfl,rfl,λ_=>⟨C,fz,f,rfl,by grind [aS],λi u hu=>by
   have⟨m,y,a2⟩:=L i u hu;exact⟨m,by grind,a2.mono (Pm.qK (mi:=mi) d)⟩,λ_=>p⟩⟩
  refine⟨_,?_,by rw[g1,g2];exact k⟩;exact VR.own (mi:=mi) (by simp[Pm.add]) rfl rfl (by rfl) l hl (by grind)
 | false=>
  have⟨b,S,h1,z⟩:=bh.1 (show(aI (s.new (.tok c q)) λb s=>.ret (.grow c X b,s)).H (v,s') from h);cases ai.1 z;obtain⟨rfl,g1,g2⟩:=qF h1;have d:=N _ (Zah _) ω;have r:∀G:Pm D,OR G (.tok c q) mi w':=λG=>⟨rfl,λ_=>⟨C,fz,f,rfl,by grind,p⟩⟩
  have k:=cL.nt (o:=.tok c q) (mi:=mi) B d (λ_=>rfl) cI hblk I J K (r _);have g:∀o,M.sg w.heap.size o=none:=λo=>by
   cases hs:M.sg w.heap.size o with
   | none=>rfl
   | some v=>have:=B.slt hs;omega
  let sg1:=cV M.sg w.heap.size 0 (aM c X)
  let M1:Pm D:=⟨(M.add s.nx mi).pl,sg1⟩
  have e:Le (M.add s.nx mi) M1:=⟨λ_ _ h=>h,kJ λo _ _=>g o⟩;have t:=cL.upon (M1:=M1) (sg1:=sg1) (b0:=s.nx) (b1:=s.nx) (o0:=.tok c q) (o1:=.tok c q) (rA:=mi) (BC:=mi) (lo:=s.nx+1) (hi:=s.nx+1) k.gn (by simp[iY]) rfl (by simp[Pm.add]) rfl rfl rfl (by
    show M1=_
    simp only[M1,Pm.add];congr 1;funext x;split<;>rfl) (.inl ⟨rfl,rfl,rfl⟩) (kJ λo _ _=>g o) (λb o h=>mD h) rfl (λ_ _=>rfl) rfl rfl rfl (r M1) (λo v R=>by
     have a:cV M.sg w.heap.size 0 (aM c X) w.heap.size o=some v:=R;unfold cV at a;split at a
     ·rename_i P
      have⟨m,y,a2⟩:=L _ v a;refine⟨(dX A (ZaJ a)).2,m,?_,(a2.mono (Pm.qK (mi:=mi) d)).mono e⟩;show w'.cell? ⟨w.heap.size,o,none⟩=some m
      simp only[Zdp] at y;simp[World.cell?,f,y]
     ·rw[g] at a;cases a) (λ_ j Q=>by
     show cV M.sg w.heap.size 0 (aM c X) w.heap.size j=none
     unfold cV;have:=Q;have:0+X.length*D.size c<=j:=this;rw[Zaa (by rw[aS A];omega)];exact g j)
  have e2:(λx=>if x=s.nx then some (AO.tok c q) else if x=s.nx then none else iY s.h.get s.nx (some (.tok c q)) x)=iY s.h.get s.nx (some (.tok c q)):=by
   grind [iY]
  rw[e2] at t;refine⟨M1,?_,by rw[g1,g2];exact k.trans t⟩;exact VR.grow (mi:=mi) (by simp[M1,Pm.add]) rfl rfl rfl (ck.add A) l hl (by grind)
theorem wF {mu:Bool} (h:(newRow D mu s c [] q).H (v,s')) (g:ey M s.h.get w) (i:bR M s.nx s'.nx):∃f,VR f v (.slice none 0 0)/\cL s.h.get M w s'.h.get f w s.nx s'.nx:=by
 let mi:MI:=⟨0,0,0,D.size c,0,false⟩
 cases mu with
 | true=>
  have⟨b,j,h1,a⟩:=bh.1 (show(aI (s.new (.arr c [] q false)) λb s=>.ret (.own b (D.size c) (ab ([]:List (D.E c))),s)).H (v,s') from h);cases ai.1 a;obtain⟨rfl,g1,g2⟩:=qF h1;have d:=cL.nt (o:=.arr c [] q false) (mi:=mi) g (i _ (Zah _) ω) (λh=>by cases h) (Zah _) (λ_ _=>rfl) rfl rfl rfl ⟨rfl,rfl,λh=>by cases h⟩;exact⟨M.add s.nx mi,VR.l5 (mi:=mi) (by simp[Pm.add]) rfl rfl rfl rfl,by grind⟩
 | false=>
  have⟨b,j,h1,a⟩:=bh.1 (show(aI (s.new (.tok c q)) λb s=>.ret (.grow c ([]:List (D.E c)) b,s)).H (v,s') from h);cases ai.1 a;obtain⟨rfl,g1,g2⟩:=qF h1;have d:=cL.nt (o:=.tok c q) (mi:=mi) g (i _ (Zah _) ω) (λh=>by cases h) (Zah _) (λ_ _=>rfl) rfl rfl rfl ⟨rfl,λh=>by cases h⟩;exact⟨M.add s.nx mi,VR.j5 (mi:=mi) (by simp[Pm.add]) rfl,by grind⟩
theorem ub (b:ByteArray) (l h:Nat) (a:l<=h) (c:h<=b.data.toList.length):b.extract l h=⟨⟨(b.data.toList.drop l).take (h-l)⟩⟩:=by
 have e:(b.extract l h).data=⟨(b.data.toList.drop l).take (h-l)⟩:=by
  grind [ByteArray.data_extract]
 cases d:b.extract l h;grind
theorem cC {xs:List (E q)} {d:List (E c)} (h:(gD c q xs).H d):q=c/\HEq xs d:=by
 unfold gD at h;cases b:Nat.decEq q c with
 | isFalse f=>rw[b] at h;exact h.elim
 | isTrue e=>
  rw[b] at h;grind [ai]
theorem J8 {x:E q} {y:E c} (h:(JI c q x).H y):q=c/\HEq x y:=by
 unfold JI at h;cases b:Nat.decEq q c with
 | isFalse e=>rw[b] at h;exact h.elim
 | isTrue d=>
  rw[b] at h;grind [ai]
structure s8 (P:Program) (M:Pm D) (w:World) (c:Nat) (ys:List (D.E c)) (x':Value) (news:List Value):Prop where
 max:ys.length<=9223372036854775807
 lr:LR M (aM c ys) news
 len:∀w2:World,(Builtin.lenOf x').run P w2=.ok ys.length w2
 cells:∀n,n<=ys.length->∀w2:World,w2.heap=w.heap->(Builtin.firstCells (D.size c) n x').run P w2=.ok (news.take (n*D.size c)).toArray w2
variable {c b o:Nat} {L:Value} {Z:List Value}
variable {l:Nat} {d:List (D.E c)}
theorem s8.Mf (i:aP D) {cap:Nat} (hl:l=d.length) (a:l<=9223372036854775807) (h:Rd M w b o (aM c d)):∃news,s8 P M w c d (.slice (some ⟨b,o,none⟩) l cap) news:=by
 subst hl;have⟨l,h1,f,g⟩:=h.runs (P:=P);refine⟨l,a,h1,λe=>by rfl,λn j e hw=>?_⟩;grind [aS,Nat.mul_le_mul_right,Builtin.firstCells]
theorem s8.nil {a:Option Addr}:s8 P M w c ([]:List (D.E c)) (.slice a 0 b) []:=
 ⟨Zaj _,.nil,λcap=>by rfl,λn d cap _=>by
  obtain rfl:n=0:=by grind
  cases a<;>simp[Builtin.firstCells,loadCells,loadCellsFrom]⟩
theorem Rd.part (f:aP D) {c b o:Nat} {xs:List (D.E c)} (h:Rd M w b o (aM c xs)) (k n:Nat):Rd M w b (o+k*D.size c) (aM c ((xs.drop k).take n)):=by
 intro q v e;have j:=(Zam.1 e).1;rw[aS f] at j;have a:0<D.size c:=by
  grind
 have hi:q / D.size c<((xs.drop k).take n).length:=Zc6 (by grind);have i:q % D.size c<D.size c:=Zc4 _ a;have d:q / D.size c*D.size c+q % D.size c=q:=by grind [Nat.div_add_mod]
 rw[<-d,fK f c _ _ _ hi i] at e;have key:∀t:Nat,t<((xs.drop k).take n).length->k+t<xs.length:=λt ht=>by grind
 have g:=key _ hi;have l:((xs.drop k).take n)[q / D.size c]=xs[k+q / D.size c]:=by simp
 rw[l] at e;have⟨p,h1,m⟩:=h ((k+q / D.size c)*D.size c+q % D.size c) v (by grind [fK]);grind
theorem zK (f:aP D) (h1:D.size c=1) {cs:List (AV D.E)} (k:Rd M w b o cs):∀{n sh:Nat} {d:List (D.E c)},(QgR D c cs n sh).H d->d.length=n/\Rd M w b (o+sh) (aM c d)
 | 0,sh,d,h=>by
  cases ai.1 (h);exact⟨rfl,λi v e=>by simp[aM] at e⟩
 | n+1,sh,d,h=>by
  have⟨v,q,l⟩:=af.1 (h);have⟨x,s,m⟩:=af.1 l;have⟨r,j,p⟩:=af.1 m;cases ai.1 p;have⟨i1,i2⟩:=zK f h1 k j;have a:=bu.1 q;rw[fe] at a;have⟨A,B⟩:=f.dec c [v] x (bu.1 s);refine⟨by simp[i1],λi u e=>?_⟩;simp only[aM,Zbt] at e;have g:(D.aX c x).length=1:=by rw[f.len,h1]
  cases i with
  | zero=>
   rw[Zat ω] at e;have⟨z,t,y⟩:=k sh v a;grind
  | succ i=>
   rw[Zaz ω,g] at e;have⟨z,t,y⟩:=i2 i u (by assumption);grind
def qM (a:aP D):∀xs:List (D.E D.bc),aM D.bc xs=(D.yL xs).map λb=>AV.int .u8 (b.toNat:Int):=by
 intro xs;apply Zb6;intro i;by_cases hi:i<xs.length
 ·have:=fK a D.bc xs i 0 hi (by rw[a.b1];omega);rw[a.b1,Zb8,Zbn] at this;rw[this,Zbk,Zaf (l:=D.yL xs) (by rw[a.bl];exact hi),a.be xs i hi];rfl
 ·rw[Zbd (by rw[aS a,a.b1];omega),Zbd (by rw[Za2,a.bl];omega)]
theorem nv (j:aP D) {x:AV D.E} (h:(rowsOf D s c x).H d) (S:VR M x L) (B:ey M s.h.get w):∃news,s8 P M w c d L news:=by
 have arr:∀{b:Nat} {f:MI} {a:Ar D.E},(kE s b).H a->M.pl b=some f->f.real->f.len=a.xs.length/\f.je=D.size a.c/\Rd M w f.bN f.sh (aM a.c a.xs):=by
  intro b f a q g t;have⟨G,r,g1,g2,y⟩:=B.obj b _ (jw q);rw[g] at r;cases r;exact⟨g1,g2,(y t).rd⟩
 have A:∀{b:Nat} {f:MI} {a:Ar D.E},(kE s b).H a->M.pl b=some f->f.len=a.xs.length:=by
  intro b f a q g;have⟨G,r,g1,g2,y⟩:=B.obj b _ (jw q);grind
 cases S<;>simp only[rowsOf] at h<;>(try exact h.elim)
 case list c2 b o cap xs hs g C=>
  obtain⟨rfl,N⟩:=cC h;cases N;exact s8.Mf j rfl g (rO j B hs)
 case fh c2 cap a=>
  obtain⟨rfl,N⟩:=cC h;cases N;exact⟨[],.nil⟩
 case grow c2 b cap xs f g t hl hz hs p C ht=>
  obtain⟨rfl,N⟩:=cC h;cases N;exact s8.Mf j rfl p (rO j B hs)
 case j5 c2 b f g t=>
  obtain⟨rfl,N⟩:=cC h;cases N;exact⟨[],.nil⟩
 case own b k cap n f g u t z p C ht=>
  have⟨a,q,m⟩:=af.1 h;have⟨c2,xs,e,ro⟩:=a;obtain⟨rfl,N⟩:=cC (m);cases N;have⟨g1,_,g3⟩:=arr q g t;exact s8.Mf j g1 p g3
 case l5 b k n f g u t z hl=>
  have⟨a,q,m⟩:=af.1 h;have⟨c2,xs,e,ro⟩:=a;obtain⟨rfl,N⟩:=cC (m);cases N;have h0:xs=[]:=Zap ((A q g).symm.trans hl);subst h0;exact⟨[],.nil⟩
 case pre b k l cap n f g u t z p hl C ht=>
  have⟨a,q,m⟩:=af.1 h;have⟨c2,xs,e,ro⟩:=a;obtain⟨rfl,N⟩:=cC (m);cases N;have⟨g1,_,g3⟩:=arr q g t;subst z;have:=Rd.part j g3 0 l;rw[ZbS,Zbn] at this;simp only at g1;exact s8.Mf j (by grind [bW]) ω (by assumption)
 case oP b k n f g u t z hl=>
  have⟨a,q,m⟩:=af.1 h;have⟨c2,xs,e,ro⟩:=a;obtain⟨rfl,N⟩:=cC (m);cases N;have h0:xs=[]:=Zap ((A q g).symm.trans hl);subst h0;simp only[bW,Zdl];exact⟨[],.nil⟩
 case part b k l cap o n f g u t z Q hl p C=>
  have⟨a,q,m⟩:=af.1 h;have⟨c2,xs,e,ro⟩:=a;obtain⟨rfl,N⟩:=cC (m);cases N;have⟨g1,g2,g3⟩:=arr q g t;subst z;have:=Rd.part j g3 o.toNat l;simp only at g1 g2;rw[<-g2] at this;exact s8.Mf j (by grind [qD]) ω (by assumption)
 case jB b k c3 o n f O R u z Q=>
  have⟨a,q,m⟩:=af.1 h;have⟨c2,xs,e,ro⟩:=a;obtain⟨rfl,N⟩:=cC (m);cases N;subst z;simp only[ Int.toNat_zero];exact⟨[],.nil⟩
 case cF=>
  cases ai.1 h;exact⟨[],.nil⟩
 case str l hl=>
  obtain⟨rfl,N⟩:=cC h;cases N;have hlen:(D.ofB l).length=l.length:=by rw[<-j.bl,j.bo]
  have cI:(⟨⟨l⟩⟩:ByteArray).size=l.length:=rfl;refine⟨byteCells ⟨⟨l⟩⟩,ω,?_,λT=>by simp[Builtin.lenOf,hlen,cI],λn z T _=>?_⟩
  ·rw[qM j,j.bo];refine⟨by simp[byteCells],λi v U e J=>?_⟩;simp only[byteCells,Zbk] at e J;cases I:l[i]? with
   | none=>rw[I] at e;cases e
   | some b=>
    rw[I] at e J;cases e;cases J;exact .int (rM b)
  ·rw[j.b1];simp only[Builtin.firstCells,Zzc];congr 1;grind [ub,byteCells]
 case sub b o n cap f g t C p=>
  have⟨h1,m⟩:=bm.1 h;have⟨cs,F,K⟩:=af.1 m;have⟨e,ro,I⟩:=pK F;have⟨G,r,_,y⟩:=B.obj b _ I;rw[g] at r;cases r;have⟨k1,k2⟩:=zK j (aF.1 h1) y.rd K;exact s8.Mf j k1.symm p k2
 case oQ b o cap O=>
  have⟨h1,m⟩:=bm.1 h;have⟨cs,F,K⟩:=af.1 m;cases ai.1 (K);exact⟨[],.nil⟩
def s8.src (b:aP D) {_e size:Nat} (h:s8 P M w c d L Z) (hk:(∃e,P.underlying o=some (.slice e))\/P.underlying o=some .string) (hs:size=D.size c):Src P size o L d.length Z w:=by
 subst hs;have hl:Z.length=d.length*D.size c:=by rw[<-h.lr.1,aS b]
 have h1:=h.cells d.length (Zah _);rw[<-hl,ZaM] at h1;exact⟨hk,h.len,h1 w rfl,h1 w.drew rfl,hl,s5 h.lr (Dk b)⟩
def vz {n:Nat} (h:fits (n:Int) b):n*b<=140737488355328:=by
 have h1:=ZaH h;omega
theorem rQ (h:(qJ P D cd c).H b):uI P c=some (D.size b)/\1<=D.size b:=by
 have⟨a,e,h1⟩:=af.1 h;grind [af,bm,ai,s7,aF,b9]
def zL {t u ty e:TypeId} {i:TypeInfo} (ht:P.underlying t=some (.slice e)) (hi:P.info? e=some i) (a:Src P i.size u L b Z w) (h:b<=c):
  (Builtin.append_ #[t,u] ty #[.slice none 0 c,L]).run P w=.ok (.slice none b c) w:=by
 rcases a.kind with⟨d,hk⟩ | hk<;>simp[Builtin.append_,Zza ht,Zza hk,sizeOf,typeInfo,hi,a.len,a.cells,h]
def oR (z:Array Value) (n:Nat):(Builtin.zeroCells z n).size=n*z.size:=by simp[Builtin.zeroCells]
structure ApS (P:Program) (D:Data) (t u e c:Nat) (bytes:Nat) (i:TypeInfo) (z:Value):Prop where
 ht:P.underlying t=some (.slice e)
 hi:P.info? e=some i
 hz:i.zero=some z
 cI:i.size=D.size c
 eG:z.cells.size=D.size c
 OG:i.bytes=bytes
 lK:1<=bytes
variable {z G:Value} {v:AV D.E} {Z u e c X l:Nat} {i:TypeInfo} {b:List Value} {O:MI} {L:St D.E}
variable {k d:List (D.E c)} {m:List Value}
theorem rR (A:aP D) {mu:Bool} {ty len cap:Nat} (ap:ApS P D Z u e c X i z) {xs:List (D.E c)} {base:Option Addr} (h:(newRow D mu s c (xs++d) e).H (v,s'))
  (J:ey M s.h.get w) (N:bR M s.nx s'.nx) (hlen:len=xs.length) (hold:LR M (aM c xs) b) (p:(Builtin.firstCells i.size len (.slice base len cap)).run P w.drew=.ok b.toArray w.drew) (q:Src P i.size u G d.length m w) (g:LR M (aM c d) m)
  (o:cap<len+d.length) (l:fits (ab (xs++d)) X):vw s M w ((Builtin.append_ #[Z,u] ty #[.slice base len cap,G]).run P w) v s':=by
 subst hlen;have K:(xs.length+d.length)*i.bytes<=140737488355328:=by
  have:=vz (n:=(xs++d).length) l;rw[Zab] at this;rw[ap.OG];exact this
 have Q:xs.length+d.length<=(xs.length+d.length)*i.bytes:=Zcn _ (by rw[ap.OG];exact ap.lK);have f:=run_append_grow_src (P:=P) (ty:=ty) w Z u e i z ap.ht ap.hi ap.hz base xs.length cap b p G d.length m q o ω (growslice_fits o K);have B:=grownCap_ge w (xs.length+d.length) cap e;have k:=grownCap_le_maxLen w (xs.length+d.length) cap e (by grind [maxLen]);unfold maxLen at k;generalize grownCap w (xs.length+d.length) cap e=x at f B k;have F:b.length=xs.length*D.size c:=by rw[<-hold.1,aS A]
 have C:m.length=d.length*D.size c:=by rw[<-g.1,aS A]
 have a:=hold.app g;rw[<-fL] at a;have y:((b++m).toArray++Builtin.zeroCells z.cells (x-(xs.length+d.length))).size=x*D.size c:=by
  rw[Zct,oR,ap.eG,Zb5,Zab,C,F,<-ZbL,<-ZbL];grind
 have r:=cL.vu J s.nx;have⟨I,k1,k2⟩:=nu (w:=w.drew) (w':=w.drew.alloc (.cells ((b++m).toArray++Builtin.zeroCells z.cells (x-(xs.length+d.length))) e)) (fz:=(0,0)) (cap:=x) A h r.gn N (by simp) (λc L=>Below.heap_alloc _ _ _ L) (by show(w.heap.push _)[w.heap.size]?=_;simp) (.inl rfl) rfl rfl rfl
  (λj S O=>by
   have⟨R,g1,g2⟩:=a.get O;refine⟨R,?_,g2⟩;rw[ZbT (by grind),Zc0];exact g1) y (by grind) (by grind)
 refine⟨I,_,_,f,?_,r.trans k2⟩;simp_all
def zM (H:Hp D) (b1 a:Nat) (o1:AO D.E):(λx=>if x=b1 then some o1 else if x=a then none else H x)=iY (iY H a none) b1 (some o1):=by
 rfl
theorem Xl (A:aP D) {ty b cap:Nat} {mi:MI} (ap:ApS P D Z u e c X i z) {xs:List (D.E c)} (U:s.h.get b=some (.tok c e)) (N:(s.set b none).H L)
  (h:(Bn D L c (xs++d) e).H (v,s')) (R:ey M s.h.get w) (hf:bR M s.nx s'.nx) (bytes:M.pl b=some mi) (t:mi.real) (hl:mi.len=xs.length) (hz:mi.je=D.size c) (hs:ck M mi.bN mi.sh c xs) (ht:mi.sh+cap*mi.je=mi.qE) (hle:l=xs.length)
  (Q:Src P i.size u G d.length m w) (x:LR M (aM c d) m) (q:l+d.length<=cap) (s2:(xs++d).length<=9223372036854775807):
  vw s M w ((Builtin.append_ #[Z,u] ty #[.slice (some ⟨mi.bN,mi.sh,none⟩) l cap,G]).run P w) v s':=by
 subst hle;have⟨g1,g2⟩:=kI N;have⟨nb,s3,h1,h2⟩:=bh.1 (h);cases ai.1 h2;obtain⟨rfl,g3,g4⟩:=qF h1;have F:=hf _ (Zah _) ω;have⟨Mc,K,hes,Y⟩:=R.obj b _ U;rw[bytes] at K;cases K;have⟨C,fz,T,hCs,O,x'⟩:=Y t;have hnl:m.length=d.length*D.size c:=by rw[<-x.1,aS A]
 have hcm:(xs.length+d.length)*D.size c<=cap*D.size c:=Zbc _ q;rw[hz] at ht O;rw[hl] at O;have hmul:(xs.length+d.length)*D.size c=xs.length*D.size c+d.length*D.size c:=ZbL _ _ _;have y:=run_append_room_src (P:=P) (ty:=ty) w Z u e i ap.ht ap.hi mi.bN mi.sh xs.length cap G d.length m Q q (λj V=>by
  rw[ap.cI];have:mi.sh+xs.length*D.size c+j<C.size:=ω;simp[World.cell?,T,this]) (λj V=>by
  rw[ap.cI];have:mi.sh+xs.length*D.size c+j<C.size:=ω;simp only[World.frozen?,T];rcases x' with hz | hz
  ·rw[hz];simp;try omega
  ·simp;try omega)
 rw[ap.cI] at y;have⟨S,q3,q4,q5⟩:=fy mi.bN e fz m (mi.sh+xs.length*D.size c) w C T ω;have⟨r1,r2,r3⟩:=dM mi.bN m (mi.sh+xs.length*D.size c) w
 let p:MI:=⟨mi.bN,mi.sh,mi.qE,mi.je,(xs++d).length,true⟩
 let sg1:=cV M.sg mi.bN (mi.sh+xs.length*D.size c) (aM c d)
 let M1:Pm D:=⟨λk=>if k=s.nx then some p else M.pl k,sg1⟩
 have f:∀o,mi.sh+xs.length*D.size c<=o->M.sg mi.bN o=none:=λo ho=>R.sep b _ mi U rfl bytes t o (by show mi.sh+mi.len*mi.je<=o;rw[hl,hz];exact ho)
 have n:Gs M M1:=kJ λo h1 _=>f o h1
 have r:Le M M1:=⟨λk a hk=>by
  show(if k=s.nx then some p else M.pl k)=some a
  by_cases e:k=s.nx
  ·rw[e,F] at hk;cases hk
  ·rw[Zaa e];exact hk,n⟩
 have hup:=cL.upon (M1:=M1) (sg1:=sg1) (b0:=b) (b1:=s.nx) (o0:=.tok c e) (o1:=.tok c e) (rA:=mi) (BC:=p) (lo:=s.nx) (hi:=s.nx+1) (w':=w.setCells mi.bN (mi.sh+xs.length*D.size c) m) R U rfl bytes t rfl rfl rfl (.inr ⟨rfl,F,rfl⟩) n (λb o h=>mD h)
  (dL _ _ _ _) (λk hk=>dn _ _ _ _ k hk) r1 r2 r3 ⟨hz,λ_=>⟨S,fz,q3,by grind,by
   show mi.sh+(xs++d).length*mi.je<=mi.qE
   rw[Zab,hz];omega,x'⟩⟩ (λo u' hu=>by
   have g:cV M.sg mi.bN (mi.sh+xs.length*D.size c) (aM c d) mi.bN o=some u':=hu;unfold cV at g;split at g
   ·rename_i I
    have⟨_,hin1,J⟩:=I;rw[aS A] at J;have⟨B,a1,a2⟩:=x.get g;refine⟨(dX A (ZaJ g)).2,B,?_,a2.mono r⟩;have:S[o]?=some B:=by grind
    simp[World.cell?,q3,this]
   ·rename_i I
    have⟨hp,B,hc,hv⟩:=R.gE _ _ _ g;have hlt:o<mi.sh+xs.length*D.size c:=by
     rcases Zbm o (mi.sh+xs.length*D.size c) with h0 | h0
     ·exact h0
     ·rw[f o h0] at g;cases g
    refine⟨hp,B,?_,hv.mono r⟩;have h7:C[o]?=some B:=by grind [World.cell?]
    have:S[o]?=some B:=by grind
    simp[World.cell?,q3,this]) (λ_ j V=>by
   have W:mi.sh+(xs++d).length*mi.je<=j:=V;rw[Zab,hz] at W;show cV M.sg mi.bN (mi.sh+xs.length*D.size c) (aM c d) mi.bN j=none
   unfold cV;rw[Zaa (by rw[aS A];omega)];exact f j ω)
 rw[zM] at hup;refine⟨M1,_,_,y,?_,by grind⟩;have:=VR.grow (M:=M1) (b:=s.nx) (c:=c) (cap:=cap) (xs:=xs++d) (mi:=p) (by simp[M1]) rfl rfl hz ((hs.mono n).app A (ck.add A)) s2 (by grind) (by grind);grind
theorem Xm (O:aP D) {ty b cap:Nat} {mi:MI} (ap:ApS P D Z u e c X i z) {f:List (D.E c)} {n:Nat} (S:s.h.get b=some (.arr c k e false)) (K:(s.set b none).H L)
  (h:(aI (L.new (.arr c (d++f) e false)) λb s=>.ret (.own b (D.size c) (ab (d++f)),s)).H (v,s')) (R:ey M s.h.get w) (hf:bR M s.nx s'.nx) (U:M.pl b=some mi) (V:mi.real) (ht:mi.sh+cap*mi.je=mi.qE) (Y:d=k.take n) (hn:n<=k.length)
  (s2:Src P i.size u G f.length m w) (x:LR M (aM c f) m) (q:n+f.length<=cap) (J:(d++f).length<=9223372036854775807):
  vw s M w ((Builtin.append_ #[Z,u] ty #[.slice (some ⟨mi.bN,mi.sh,none⟩) n cap,G]).run P w) v s':=by
 have⟨g1,g2⟩:=kI K;have⟨nb,s3,h1,h2⟩:=bh.1 h;cases ai.1 h2;obtain⟨rfl,g3,g4⟩:=qF h1;have x':=hf _ (Zah _) ω;have⟨Mc,I,hl,A,T⟩:=R.obj b _ S;rw[U] at I;cases I;have⟨C,fz,Q,hCs,W,g,l⟩:=T V;have l:=l rfl;rw[aS O] at W;have N:d.length=n:=by grind
 have hnl:m.length=f.length*D.size c:=by rw[<-x.1,aS O]
 have hcm:(n+f.length)*D.size c<=cap*D.size c:=Zbc _ q;have hmul:(n+f.length)*D.size c=n*D.size c+f.length*D.size c:=ZbL _ _ _;rw[A] at ht;have y:=run_append_room_src (P:=P) (ty:=ty) w Z u e i ap.ht ap.hi mi.bN mi.sh n cap G f.length m s2 q (λj F=>by
  rw[ap.cI];have:mi.sh+n*D.size c+j<C.size:=ω;simp[World.cell?,Q,this]) (λj F=>by
  rw[ap.cI];have:mi.sh+n*D.size c+j<C.size:=ω;simp only[World.frozen?,Q];rcases l with hz | hz
  ·rw[hz];simp;try omega
  ·simp;try omega)
 rw[ap.cI] at y;have⟨C',q3,q4,q5⟩:=fy mi.bN e fz m (mi.sh+n*D.size c) w C Q ω;have⟨r1,r2,r3⟩:=dM mi.bN m (mi.sh+n*D.size c) w
 let p:MI:=⟨mi.bN,mi.sh,mi.qE,mi.je,(d++f).length,true⟩
 let M1:Pm D:=⟨λxs=>if xs=s.nx then some p else M.pl xs,M.sg⟩
 have r:Le M M1:=⟨λxs a hk=>by
  show(if xs=s.nx then some p else M.pl xs)=some a
  by_cases e:xs=s.nx
  ·rw[e,x'] at hk;cases hk
  ·rw[Zaa e];exact hk,λ_ _ _ h=>h⟩
 have B:∀j,M.sg mi.bN j=none:=λj=>R.sep b _ mi S rfl U V j trivial
 have bytes:=cL.upon (M1:=M1) (sg1:=M.sg) (b0:=b) (b1:=s.nx) (o0:=.arr c k e false) (o1:=.arr c (d++f) e false) (rA:=mi) (BC:=p) (lo:=s.nx) (hi:=s.nx+1) (w':=w.setCells mi.bN (mi.sh+n*D.size c) m) R S rfl U V rfl rfl rfl (.inr ⟨rfl,x',rfl⟩) (λ_ _ _ h=>h) (λb o h=>.inl h)
  (dL _ _ _ _) (λxs hk=>dn _ _ _ _ xs hk) r1 r2 r3 ⟨rfl,A,λ_=>⟨C',fz,q3,by grind,by
   rw[aS O,Zab,N];show mi.sh+(n+f.length)*D.size c<=mi.qE
   omega,λj u' F=>by
   rw[fL] at F;have hzr:(aM c d).length=n*D.size c:=by rw[aS O,N]
   by_cases hjl:j<n*D.size c
   ·rw[Zat ω] at F;have hpre:aM c k=aM c d++aM c (k.drop n):=by rw[Y,<-fL,ZaO]
    have⟨t,a1,a2⟩:=g j u' (by grind);exact⟨t,by grind,a2.mono r⟩
   ·rw[Zaz ω] at F;have⟨t,a1,a2⟩:=x.get F;have hjn:=(Zam.1 a1).1;exact⟨t,by grind,a2.mono r⟩,λ_=>l⟩⟩
  (λo u' hu=>by grind) (λ_ j _=>B j)
 rw[zM] at bytes;refine⟨M1,_,_,y,?_,by grind⟩;have:=VR.own (M:=M1) (b:=s.nx) (cap:=cap) (n:=ab (d++f)) (mi:=p) (by simp[M1]) A rfl rfl J (by grind) (by grind);grind
theorem nw (B:aP D) {ty b n cap:Nat} (ap:ApS P D Z u e c X i z) {cut:List (D.E c)->List (D.E c)} {x':Value} (h:(Gj D X s c e b cut k).H (v,s')) (f:ey M s.h.get w) (hf:bR M s.nx s'.nx) (hm:M.pl b=some O)
  (C:∀xs:List (D.E c),O.len=xs.length->cut xs=xs.take n) (hn:n<=O.len) (t:O.len<=9223372036854775807) (hd:(O.real/\G=.slice (some ⟨O.bN,O.sh,none⟩) n cap/\O.len<=cap/\O.sh+cap*O.je=O.qE)\/(O.real=false/\G=.slice none 0 0/\O.len=0))
  (g:Src P i.size u x' k.length m w) (j:LR M (aM c k) m):vw s M w ((Builtin.append_ #[Z,u] ty #[G,x']).run P w) v s':=by
 have⟨⟨c2,xs,e2,ro⟩,ha,h1⟩:=af.1 h;have Q:=jw ha;cases ro with
 | true=>exact h1.elim
 | false=>
  have⟨he,h2⟩:=bm.1 (h1);have⟨xs2,W,h3⟩:=af.1 h2;obtain⟨rfl,hq⟩:=cC W;cases hq;rw[aF] at he;subst he;have⟨d,h4⟩:=cN.1 h3;have⟨s2,l,x⟩:=af.1 h4;have⟨Mc,F,g1,g2,R⟩:=f.obj b _ Q;rw[hm] at F;cases F;simp only at g1 g2 Q;rw[(C xs g1)] at x d;have J:(xs.take n).length=n:=by grind
  have⟨k1,k2⟩:=kI l;have a:=cL.drop (b:=b) f s.nx;have o:ey M s2.h.get w:=by rw[k1];exact a.gn
  have p:bR M s2.nx s'.nx:=by grind
  have hlen:(xs.take n++k).length<=140737488355328:=by
   have:=vz (n:=(xs.take n++k).length) d;have h9:(xs.take n++k).length<=(xs.take n++k).length*X:=Zcn _ ap.lK;omega
  rcases hd with⟨T,rfl,hmc,I⟩ | ⟨T,rfl,h0⟩
  ·by_cases r:n+k.length<=cap
   ·exact Xm B ap Q l x f hf hm T I rfl ω g j r ω
   ·have U:Rd M w O.bN O.sh (aM c2 (xs.take n)):=by
     have:=Rd.part B (R T).rd 0 n;grind
    have⟨old',S,_,q⟩:=U.run (P:=P);have N:=q w.drew rfl;rw[aS B,J] at N;have⟨A,bytes,Y,K,y,L⟩:=rR (mu:=true) (len:=n) (cap:=cap) (base:=some ⟨O.bN,O.sh,none⟩) (ty:=ty) B ap x o p J.symm S (by rw[ap.cI];simpa [Builtin.firstCells] using N) g j ω d;refine⟨A,bytes,Y,K,y,?_⟩;rw[k1,k2] at L;exact a.trans L
  ·have V:=Zap (g1.symm.trans h0);subst V;rw[Zdl] at x d;by_cases hy:k=[]
   ·subst hy;have⟨A,K,y⟩:=wF (mu:=true) x o p;refine⟨A,.slice none 0 0,w,?_,K,?_⟩
    ·exact zL ap.ht ap.hi g (Zah _)
    ·rw[k1,k2] at y;exact a.trans y
   ·have hpos:=Zbe.2 hy;have⟨A,bytes,Y,K,y,L⟩:=rR (mu:=true) (len:=0) (cap:=0) (base:=none) (ty:=ty) (xs:=[]) B ap x o p rfl .nil (by rfl) g j ω d;refine⟨A,bytes,Y,K,y,?_⟩;rw[k1,k2] at L;exact a.trans L
theorem wG (p:aP D) {mu:Bool} {ty:Nat} (ap:ApS P D Z u e c X i z) (h:(newRow D mu s c k e).H (v,s')) (j:ey M s.h.get w) (g:bR M s.nx s'.nx)
  (a:Src P i.size u G k.length b w) (f:LR M (aM c k) b) (d:fits (ab k) X):vw s M w ((Builtin.append_ #[Z,u] ty #[.slice none 0 0,G]).run P w) v s':=by
 by_cases m:k=[]
 ·subst m;have⟨o,q,r⟩:=wF h j g;exact⟨o,.slice none 0 0,w,zL ap.ht ap.hi a (Zah _),q,r⟩
 ·have l:=Zbe.2 m;exact rR (len:=0) (cap:=0) (base:=none) (ty:=ty) (xs:=[]) p ap h j g rfl .nil (by rfl) a f ω d
theorem Dl (o:aP D) {mu:Bool} {t u ty:TypeId} {x d:AV D.E} (h:(JM P D cd mu s t u v x).H (d,s')) (hd:VR M v z) (hx:VR M x G) (C:ey M s.h.get w) (hf:bR M s.nx s'.nx):
  vw s M w ((Builtin.append_ #[t,u] ty #[z,G]).run P w) d s':=by
 have⟨dt,Y,h1⟩:=af.1 h;have⟨e,he,h2⟩:=af.1 h1;have⟨du,Q,h3⟩:=af.1 h2;have⟨T,h4⟩:=bm.1 h3;have⟨c,hc,h5⟩:=af.1 h4;have⟨bytes,OG,h6⟩:=af.1 h5;have⟨hbm,h7⟩:=bm.1 h6;have⟨lK,h8⟩:=bm.1 h7;have⟨zz,QnB,h8a⟩:=af.1 h8;have⟨hzl,h8b⟩:=bm.1 h8a;have⟨ys,hys,B⟩:=af.1 h8b;rw[gR] at Y Q;have⟨cI,_⟩:=rQ hc;have⟨i,hi,hiz⟩:=pJ cI;have⟨i2,hi2,hib⟩:=zG (bu.1 OG);rw[hi] at hi2;cases hi2;have Z:P.underlying t=some (.slice e):=by cases dt<;>first | (cases ai.1 he;exact Y) | exact he.elim
 have hk:(∃e',P.underlying u=some (.slice e'))\/P.underlying u=some .string:=by
  cases du<;>first | exact .inl ⟨_,Q⟩ | exact .inr Q | cases T
 have⟨new',hsr⟩:=nv (P:=P) o hys hx C;have g:=hsr.src (size:=i.size) (_e:=e) o hk hiz;have f:=hsr.lr;have⟨i3,d',hi3,hz,hzv⟩:=mB QnB;rw[hi] at hi3;cases hi3;have eG:d'.cells.size=D.size c:=by
  have:=(fi (hzv M)).1;grind [ju,aF]
 have ap:ApS P D t u e c bytes i d':=⟨Z,hi,hz,hiz,eG,hib,b9.1 lK⟩;cases hd<;>simp only[C9] at B<;>(try exact B.elim)
 case cF=>
  grind [cN,wG]
 case own b k cap n F q S r hn U O ht=>
  exact nw (n:=F.len) (cap:=cap) o ap B C hf q (λxs hl=>by grind) (Zah _) U (.inl ⟨r,rfl,O,ht⟩) g f
 case l5 b k n F q S r hn hl=>
  exact nw (n:=0) (cap:=0) o ap B C hf q (λxs hx0=>by grind) (Zaj _) ω (.inr ⟨r,rfl,hl⟩) g f
 case pre b k l cap n F q S r hn U hl O ht=>
  grind [nw,bW]
 case oP b k n F q S r hn hl=>
  subst hn;exact nw (n:=0) (cap:=0) o ap B C hf q (λxs _=>by rfl) (Zaj _) ω (.inr ⟨r,rfl,hl⟩) g f
 case grow c2 b cap xs F q r hl hzz hs U O ht=>
  have⟨c3,e3,htk,x'⟩:=bh.1 B;have⟨y,I⟩:=bm.1 x';have⟨A,J⟩:=bm.1 I;rw[aF] at y A;subst y A;have⟨xs2,X,K⟩:=af.1 J;obtain⟨rfl,hq⟩:=cC X;cases hq;have⟨j,L⟩:=cN.1 K;have⟨s2,m,p⟩:=af.1 L;have hlen:(xs++ys).length<=140737488355328:=by
   have:=vz (n:=(xs++ys).length) j;have B:(xs++ys).length<=(xs++ys).length*bytes:=Zcn _ (b9.1 lK);omega
  by_cases W:xs.length+ys.length<=cap
  ·exact Xl o ap (Xk htk) m p C hf q r hl hzz hs ht rfl g f W ω
  ·have⟨k1,k2⟩:=kI m;have a:=cL.drop (b:=b) C s.nx;have N:ey M s2.h.get w:=by rw[k1];exact a.gn
   have R:bR M s2.nx s'.nx:=by grind
   have⟨old',hol,_,V⟩:=(rO o C hs).run (P:=P);have hrn:=V w.drew rfl;rw[aS o] at hrn;have⟨M',v',w',y,A,q3⟩:=rR (mu:=false) (len:=xs.length) (cap:=cap) (base:=some ⟨F.bN,F.sh,none⟩) (ty:=ty) o ap p N R rfl hol (by grind [Builtin.firstCells]) g f ω j;refine⟨M',v',w',y,A,?_⟩;rw[k1,k2] at q3;exact a.trans q3
 case j5 c2 b F q r=>
  have⟨c3,e3,htk,x'⟩:=bh.1 B;have⟨y,I⟩:=bm.1 x';have⟨A,J⟩:=bm.1 I;rw[aF] at y A;subst y A;have⟨xs2,X,K⟩:=af.1 J;obtain⟨rfl,hq⟩:=cC X;cases hq;have⟨j,L⟩:=cN.1 K;have⟨s2,m,p⟩:=af.1 L;have⟨k1,k2⟩:=kI m;have a:=cL.drop (b:=b) C s.nx;have N:ey M s2.h.get w:=by rw[k1];exact a.gn
  have R:bR M s2.nx s'.nx:=by grind
  have⟨M',v',w',y,A,q3⟩:=wG (mu:=false) (ty:=ty) o ap p N R g f j;refine⟨M',v',w',y,A,?_⟩;rw[k1,k2] at q3;exact a.trans q3
end
section
variable {P:Program} {D:Data} {cd:TypeId->Option Nat} {M M':Pm D} {φ:T (AV D.E)} {a:Act} {N:Nat} {w w':World} {H:Hp D} {s s':St D.E}
variable {b c:Nat} {v:AV D.E} {Z:Type} {Y:TypeId} {d:List Value} {X:Array (Nat×Operand)}
theorem J9 (i:aP D) {e o:Nat} {xs a:List (D.E c)} {vs':List Value} {d:MI} (m:H b=some (.arr c xs e false)) (n:M.pl b=some d) (r:d.real) (l:ey M H w) (s:LR M (aM c a) vs') (x:o+a.length<=xs.length) (lo:Nat):
  (storeCells ⟨d.bN,d.sh+o*d.je,none⟩ vs' 0).run P w=.ok () (w.setCells d.bN (d.sh+o*d.je) vs')/\cL H M w (iY H b (some (.arr c (xs.take o++a++xs.drop (o+a.length)) e false))) M (w.setCells d.bN (d.sh+o*d.je) vs') lo lo:=by
 obtain⟨A,g,hl,f,j⟩:=l.obj b _ m;rw[n] at g;cases g;obtain⟨C,u,k1,k2,k3,k4,k5⟩:=j r;rw[aS i] at k3;have y:vs'.length=a.length*D.size c:=by rw[<-s.1,aS i]
 have hmul:(o+a.length)*D.size c<=xs.length*D.size c:=Zbc _ x;rw[ZbL] at hmul;have z:(xs.take o++a++xs.drop (o+a.length)).length=xs.length:=by
  grind
 have k:(aM c (xs.take o)).length=o*D.size c:=by grind [aS]
 have e2:(aM c a).length=a.length*D.size c:=aS i c a;have p:aM c xs=aM c (xs.take o)++aM c ((xs.drop o).take a.length)++aM c (xs.drop (o+a.length)):=by
  grind [fL,List.drop_drop,List.take_append_drop]
 have I:(aM c ((xs.drop o).take a.length)).length=a.length*D.size c:=by grind [aS]
 obtain⟨c1,c2,c3⟩:=rP (o1:=.arr c (xs.take o++a++xs.drop (o+a.length)) e false) (q:=d.sh+o*d.je) (vs':=vs') l m rfl n r k1 k2 (by grind) (k5 rfl) (λ_=>trivial) (λt B F G=>⟨ω,f,λ_=>⟨t,u,B,F.trans k2,by grind [aS],λq v h=>by
  rw[fL,fL] at h;rw[G,f];by_cases h1:q<o*D.size c
  ·rw[Zat (by grind),Zat ω] at h;rw[Zaa ω];exact k4 q v (by grind)
  ·by_cases J:q<o*D.size c+a.length*D.size c
   ·rw[Zat (by grind),Zaz ω,k] at h;rw[Zac ω,show d.sh+q-(d.sh+o*D.size c)=q-o*D.size c by omega];exact s.get h
   ·rw[Zaz (by grind),Zab,k,e2] at h;rw[Zaa ω];exact k4 q v (by grind),k5⟩⟩) lo
 grind [run_storeCells_cells,s5,Dk]
def Dm (xs a:List Z) (o n:Nat):wi xs (o:Int) (n:Int) a=xs.take o++a.take n++xs.drop (o+(a.take n).length):=by rfl
theorem J' (a b:Nat):fN (a:Int) (b:Int)=((Nat.min b a:Nat):Int):=by
 grind [fN]
theorem ny (b:aP D) (c:Nat) (a:List (D.E c)) (n:Nat):aM c (a.take n)=(aM c a).take (n*D.size c):=by
 by_cases h:n<=a.length
 ·grind [fL,List.take_append_drop,aS]
 ·grind [List.take_of_length_le,aS,Nat.mul_le_mul_right]
def At (M:Pm D) (b:Nat) (o n:Nat) (c:Value):Prop:=∃a,M.pl b=some a/\((a.real/\o+n<=a.len/\n<=9223372036854775807/\∃cap,c=.slice (some ⟨a.bN,a.sh+o*a.je,none⟩) n cap)\/(n=0/\∃d cap,c=.slice d 0 cap))
theorem nz (r:aP D) {ty e c:TypeId} {o n:Nat} {x:AV D.E} {G O:Value} {N:Array TypeId} {F:Array Value} (h:(Bo D s b (o:Int) (n:Int) v c).H (x,s')) (W:At M b o n G) (Z:VR M v O) (q:ey M s.h.get w)
  (ht:P.underlying Y=some (.slice e)) (cI:uI P e=some (D.size c)) (h0:N[0]?=some Y) (h1:F[0]?=some G) (I:F[1]?=some O):vw s M w ((Builtin.copy_ N ty F).run P w) x s':=by
 obtain⟨⟨c2,xs,e2,ro⟩,U,J⟩:=af.1 h;have u:=jw U;cases ro with
 | true=>exact J.elim
 | false=>
  obtain⟨d,C,R⟩:=af.1 (show(av (rowsOf D s c2 v) _).H (x,s') from J);obtain⟨j,S⟩:=bm.1 R;rw[aF] at j;subst j;obtain⟨s2,p,T⟩:=af.1 S;cases ai.1 T;obtain⟨g1,g2⟩:=kI p;obtain⟨news,g⟩:=nv (P:=P) r C Z q;obtain⟨mi,K,y⟩:=W;obtain⟨Mc,l,hl,z,V⟩:=q.obj b _ u;rw[K] at l;cases l;simp only at hl z u;have m:Nat.min d.length n<=d.length:=ZdI _ _;have a:=g.cells (Nat.min d.length n) m w rfl;have B:d.take n=d.take (Nat.min d.length n):=by
   grind
  have A:LR M (aM c (d.take n)) (news.take (Nat.min d.length n*D.size c)):=by
   rw[B,ny r];exact g.lr.take _
  have f:VR M (.int .i64 (fN (n:Int) (ab d)):AV D.E) (goInt (Nat.min d.length n))\/9223372036854775807<n:=by
   by_cases L:n<=9223372036854775807
   ·left;rw[show ab d=(d.length:Int) from rfl,J'];exact .int (jv (Zav (ZcW _ _) L))
   ·omega
  rw[Dm] at g1;rcases y with⟨t,X,L,cap,rfl⟩ | ⟨rfl,Q,cap,rfl⟩
  ·have f:=f.resolve_right ω;obtain⟨q1,q2⟩:=J9 (P:=P) r u K t q A (o:=o) (by grind) s.nx;refine⟨M,_,_,?_,f,by rw[g1,g2];exact q2⟩;simp only[Builtin.copy_,h0,h1,I,Zzd,Zzb,Zza ht,g.len,cy cI,a,Zzc];rw[q1];rfl
  ·have f:=f.resolve_right ω;have i:iY s.h.get b (some (.arr c (xs.take o++d.take 0++xs.drop (o+(d.take 0).length)) e2 false))=s.h.get:=by
    funext k;unfold iY;simp_all
   rw[i] at g1;refine⟨M,_,w,?_,f,by rw[g1,g2];exact .refl q _⟩;have hz:Nat.min d.length 0=0:=by grind
   rw[hz] at a ⊢;rw[ZbS,ZcA] at a;cases Q<;>simp[Builtin.copy_,h0,h1,I,Zza ht,g.len,cy cI,a,storeCells]
theorem zN (off:Nat):∀(a:List Value) (k:Nat) (C:Array Value),off+k+a.length<=C.size->
  ((a.zipIdx k).foldl (λcs (p:Value×Nat)=>cs.setIfInBounds (off+p.2) p.1) C).size=C.size/\
  ∀i,((a.zipIdx k).foldl (λcs (p:Value×Nat)=>cs.setIfInBounds (off+p.2) p.1) C)[i]?=if off+k<=i/\i<off+k+a.length then a[i-(off+k)]? else C[i]?
 | [],k,C,h=>⟨rfl,λi=>by simp;omega⟩
 | v::a,k,C,h=>by
  simp only[Zae] at h;obtain⟨h1,b⟩:=zN off a (k+1) (C.setIfInBounds (off+k) v) (by grind);grind [List.zipIdx_cons]
theorem rS {place:Nat->C (Nat×Nat)} {place':Nat->Option (Nat×Nat)} (G:∀i p,(place i).H p->place' i=some p) (o:FR M φ a N):∀{d:List (Nat×Operand)} {cs r:List (AV D.E)} {C:Array Value},(wj P D place φ d cs).H r->LR M cs C.toList->
  ∃f,Instr.fill place' C (d.map λp=>(p.1,a.eval p.2))=some f/\LR M r f.toList
 | [],cs,r,C,h,hl=>by cases ai.1 (show(sx.C.ret cs).H r from h);exact⟨C,rfl,hl⟩
 | (i,x)::d,cs,r,C,h,hl=>by
  have h1:(aI (place i) λoff size=>av (ev P D φ x) λv=>bB (Nat.beq (ly (dg v)) size) (av (cE (C5 off (dg v) cs)) λcs=>wj P D place φ d cs)).H r:=h;obtain⟨off,size,I,y⟩:=bh.1 h1;obtain⟨v,J,z⟩:=af.1 y;obtain⟨hs,A⟩:=bm.1 z;obtain⟨g,c,B⟩:=af.1 A;have m:=dW J o;have b:=fi m;obtain⟨p1,p2,p3⟩:=jd (bu.1 c);rw[aF,ju] at hs;have cI:(a.eval x).cells.size=size:=by rw[<-hs,b.1,Zba]
  have F:cs.length=C.size:=by rw[hl.1,Zba]
  have q:off+(a.eval x).cells.size<=C.size:=ω;obtain⟨t,w⟩:=zN off (a.eval x).cells.toList 0 C (by assumption);have l:LR M g (((a.eval x).cells.toList.zipIdx 0).foldl (λcs (p:Value×Nat)=>cs.setIfInBounds (off+p.2) p.1) C).toList:=by
   refine⟨p2.trans (F.trans (t.symm.trans Array.length_toList.symm)),λj u s e k=>?_⟩;rw[p3] at e;rw[ZaL,w] at k;by_cases n:off<=j/\j<off+(dg v).length
   ·rw[Zac n] at e;rw[Zac (by grind)] at k;exact b.2 _ u s e (by assumption)
   ·rw[Zaa n] at e;rw[Zaa (by grind)] at k;exact hl.2 j u s e (by grind)
  obtain⟨f,g1,g2⟩:=rS G o B l;grind [Instr.fill,Array.toList_zipIdx]
theorem rU:∀{fs:List Field},Qbr P fs->∃a,fs.mapM (λf=>(P.info? f.type).map λi=>(f.offset,i.size))=some a/\∀i p,(O3 P fs i).H p->a[i]?=some p
 | [],_=>⟨[],rfl,λi p h=>by
  obtain⟨f,b,_⟩:=af.1 h;have b:=bu.1 b;rw[fe] at b;simp at b⟩
 | f::fs,h=>by
  have e:=dV.1 h;have b:=e f (by simp);have hi:∃k,uI P f.type=some k:=by
   cases hs:uI P f.type with
   | none=>rw[hs] at b;cases b
   | some k=>exact⟨k,rfl⟩
  obtain⟨k,hk⟩:=hi;obtain⟨i,hi,l⟩:=pJ hk;obtain⟨a,o,d⟩:=rU (fs:=fs) (dV.2 λx q=>e x (by grind));refine⟨(f.offset,i.size)::a,by simp_all,λj p m=>?_⟩;cases j with
  | zero=>
   obtain⟨g,c,n⟩:=af.1 m;cases(show some f=some g from bu.1 c);grind [af,ai,s7]
  | succ j=>
   refine d j p ?_;assumption
theorem Dp (h:(JO P D φ Y X.toList).H v) (q:FR M φ a N):
  ∃r,(∀w,(Instr.build Y (X.map λ(i,x)=>(i,a.eval x))).run P w=.ok r w)/\VR M v r:=by
 obtain⟨z,hz,h1⟩:=af.1 h;obtain⟨d,u,j⟩:=af.1 h1;rw[gR] at u;obtain⟨it,K,B,F,g⟩:=mB hz;have e:(X.map λ(i,x)=>(i,a.eval x)).toList=X.toList.map λp=>(p.1,a.eval p.2):=by simp
 cases d<;>simp only at j<;>(try exact j.elim)
 case struct G=>
  obtain⟨s,l⟩:=bm.1 j;obtain⟨cs,c,m⟩:=af.1 l;cases ai.1 m;obtain⟨b,I,C⟩:=rU s;obtain⟨f,g1,g2⟩:=rS (place':=(b.toArray[·]?)) (λi p o=>by grind) q c (fi (g M));refine⟨.agg f,λw=>run_build w Y _ f ?_,.agg g2.1 g2.2⟩;grind [Program.built]
 case array n el=>
  obtain⟨k,hk,l⟩:=af.1 j;obtain⟨cs,c,m⟩:=af.1 l;cases ai.1 m;rw[s7] at hk;obtain⟨J,y,A⟩:=pJ hk;obtain⟨f,g1,g2⟩:=rS (place':=λi=>some (i*k,k)) (λi p o=>by grind [ai]) q c (fi (g M));refine⟨.agg f,λw=>run_build w Y _ f ?_,.agg g2.1 g2.2⟩;grind [Program.built]
theorem wH (z:List Z):∀n,(L9 n z).length=n*z.length
 | 0=>by show([]:List Z).length=_;simp
 | n+1=>by rw[zF,Zab,wH z n,ZaV];omega
theorem Dq (z:List Z):∀(n i:Nat),i<n*z.length->(L9 n z)[i]?=z[i % z.length]?
 | 0,i,h=>by omega
 | n+1,i,h=>by
  rw[zF];by_cases hi:i<z.length
  ·grind [Nat.mod_eq_of_lt]
  ·rw[Zaz ω,Dq z n _ (by grind)];congr 1
   conv=>rhs;rw[show i=(i-z.length)+z.length by omega,Nat.add_mod_right]
theorem Px {a:Value} {n:Nat} (d:VR M v a) (hz:(dg v).length=c) (hk:1<=c):LR M (L9 n (dg v)) ((Array.range (n*c)).map λi=>a.cells[i % a.cells.size]!).toList:=by
 have b:=fi d;have cI:a.cells.size=c:=by rw[<-hz,b.1,Zba]
 refine⟨by grind [wH],λi z g e k=>?_⟩;have hi:i<n*c:=by
  grind
 rw[Dq _ _ _ (by grind),hz] at e;simp[hi] at k;rw[cI] at k;have f:i % c<a.cells.size:=by grind
 rw[Zck a.cells (i % c) f] at k;refine b.2 (i % c) z g e ?_;grind
theorem vA (a:aP D) {row:List (AV D.E)} {x:D.E b} (h:(uK D b row).H x) (hl:LR M row d):LR M (D.aX b x) d:=by
 obtain⟨c,g⟩:=a.dec b row x (bu.1 h);refine⟨by rw[a.len,<-c];exact hl.1,λi v f e j=>?_⟩;have hi:i<row.length:=by rw[c,<-a.len b x];exact(Zam.1 e).1
 exact g i _ v (Zaf hi) e M f (hl.2 i _ f (Zaf hi) j)
theorem zO (d:aP D):∀{n:Nat} {cs:List (AV D.E)} {xs:List (D.E b)} {c:List Value},(Gl D b (D.size b) n cs).H xs->LR M cs c->cs.length=n*D.size b->xs.length=n/\LR M (aM b xs) c
 | 0,cs,xs,c,h,hl,i=>by
  cases ai.1 (show(C.ret []).H xs from h);grind [aM]
 | n+1,cs,xs,c,h,hl,i=>by
  obtain⟨row,a,h1⟩:=af.1 (show(av (cE (tV (D.size b) cs)) λrow=>av (uK D b row) λx=>av (Gl D b (D.size b) n (oo (D.size b) cs)) λr=>.ret (x::r)).H xs from h);obtain⟨x,j,f⟩:=af.1 h1;obtain⟨r,e,g⟩:=af.1 f;cases ai.1 g;obtain⟨_,rfl⟩:=jc (bu.1 a);rw[mz] at e;obtain⟨i1,i2⟩:=zO d e (hl.drop (D.size b)) (by grind);refine⟨by grind,?_⟩;have:=(vA d j (hl.take (D.size b))).app i2;grind [List.take_append_drop,aM]
theorem yU (W:aP D) {mu:Bool} (h:(zt P D cd mu s φ Y b X.toList).H (v,s')) (hf:FR M φ a N) (hS:ey M s.h.get w) (Q:bR M s.nx s'.nx):
  vw s M w ((Instr.buildSlice Y b (X.map λ(i,x)=>(i,a.eval x))).run P w) v s':=by
 obtain⟨d,K,h1⟩:=af.1 h;obtain⟨e,parts,A⟩:=af.1 h1;obtain⟨c,J,B⟩:=af.1 A;obtain⟨z,hz,F⟩:=af.1 B;obtain⟨q,G⟩:=bm.1 F;obtain⟨m,h6⟩:=bm.1 G;obtain⟨cs,O,h8⟩:=af.1 h6;obtain⟨Z,h9⟩:=bm.1 h8;obtain⟨xs,S,y⟩:=af.1 h9;rw[gR] at K;obtain⟨hk,l⟩:=rQ J;obtain⟨it,z',R,V,U⟩:=mB hz;rw[aF,ju] at q;rw[b9] at m;have t:b*D.size c<=100000:=m;have L:d=.slice e:=by cases d<;>first | (cases ai.1 parts;rfl) | exact parts.elim
 subst L;have len:(X.map λ(i,x)=>(i,a.eval x)).toList=X.toList.map λp=>(p.1,a.eval p.2):=by simp
 have T:=Px (n:=b) (U M) q l;obtain⟨g,g1,g2⟩:=rS (place':=λi=>some (i*D.size c,D.size c)) (λi p hip=>by grind [ai]) hf O T;have k:cs.length=b*D.size c:=by
  have:∀{u:List (Nat×Operand)} {cs r:List (AV D.E)},(wj P D (λi=>.ret (Nat.mul i (D.size c),D.size c)) φ u cs).H r->r.length=cs.length:=by
   intro u
   induction u with
   | nil=>intro cs r h;cases ai.1 (show(C.ret cs).H r from h);rfl
   | cons p u ih=>
    intro cs r h;obtain⟨i,x⟩:=p;have h1:(aI (.ret (Nat.mul i (D.size c),D.size c)) λoff size=>av (ev P D φ x) λv=>bB (Nat.beq (ly (dg v)) size) (av (cE (C5 off (dg v) cs)) λcs=>wj P D (λi=>.ret (Nat.mul i (D.size c),D.size c)) φ u cs)).H r:=h;obtain⟨off,size,hpl,A⟩:=bh.1 h1;obtain⟨v,hv,B⟩:=af.1 A;obtain⟨_,F⟩:=bm.1 B;obtain⟨cs2,o,G⟩:=af.1 F;rw[ih G];exact(jd (bu.1 o)).2.1
  grind [wH]
 obtain⟨i1,i2⟩:=zO W S g2 k;have I:g.size=b*D.size c:=by rw[<-Zba,<-g2.1,k]
 have hll:b<=b*D.size c:=Zcn _ l;obtain⟨M',k1,k2⟩:=nu (w:=w) (w':=w.alloc (.cells g e)) (C:=g) (fz:=(0,0)) (cap:=b) W y hS Q (by simp) (λc J=>Below.heap_alloc _ _ _ J) (by show(w.heap.push _)[w.heap.size]?=_;simp) (.inl rfl) rfl rfl rfl
  (λj u' hj=>by
   obtain⟨v2,q1,q2⟩:=i2.get hj;exact⟨v2,by grind,q2⟩) I ω ω
 refine⟨M',.slice (some ⟨w.heap.size,0,none⟩) b b,w.alloc (.cells g e),?_,by grind,k2⟩;have f:¬(b*D.size c>2 ^ 24):=ω;have hnr:(do pure (Value.slice (some (<-Go.newRow e g)) b b):Sem Value).run P w=.ok (.slice (some ⟨w.heap.size,0,none⟩) b b) (w.alloc (.cells g e)):=by
  rfl
 by_cases h0:b*D.size c=0
 ·rw[h0] at g1;simp only[Instr.buildSlice,Zzd,Zza K,Zzb,cy hk,Zaa f,Zac h0,Zzc,len];grind
 ·simp only[Instr.buildSlice,Zzd,Zza K,Zzb,cy hk,Zaa f,Zaa h0,Zzc,rN R V,len,g1];rfl
end
end sx
end Go.Proofs.YtadfknojfbmjgaaGreat
