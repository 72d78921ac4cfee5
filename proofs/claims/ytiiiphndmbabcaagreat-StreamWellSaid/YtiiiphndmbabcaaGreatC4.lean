/- StreamWell: a part of the proof. -/
import Derived.Test.YtiiiphndmbabcaaGreatC3
set_option linter.all false
namespace Go.Proofs.YtiiiphndmbabcaaGreat
open Go.Proofs.Tryz
set_option maxRecDepth 100000
set_option maxHeartbeats 4000000
namespace sx
noncomputable section
open Go Go.RowKit cls syn
variable {i:Nat} {y:List Rg}
def QcU (h:i<y.length) (r:Int):bj (y.drop i) r=((decide ((y.getD i (0,0)).1<=r)&&decide (r<=(y.getD i (0,0)).2))||bj (y.drop (i+1)) r):=PA (getD_eq h (0,0)) r
theorem QmI (y:List Rg×Int) (a:Qf2.pre y):QN y:=by
 have⟨l,r⟩:=y;unfold QN;simp only[bN,fK,aw,gt,Zad];intro hl;refine⟨⟨0,rfl,Zaj _,rfl⟩,λi hi=>?_⟩;have⟨h1,b⟩:=hi.out;rw[b];refine⟨λh=>⟨ω,h,?_⟩,λh=>?_⟩
 ·rw[QcU (show i<l.length by omega)];grind
 ·rw[Zbu ω];rfl
theorem Qge (y:List Rg×Int) (a:xg.pre y):Gk y:=by
 have hs:=QmI y a;unfold Gk;unfold QN at hs;simp only[bN,fK,aw,gt,Zad] at hs ⊢;grind
def QV:Ok xg:=okZ [] f286 Qf3 trivial Qge
theorem zS {α:Type} {a b:List α} (d:α) (c:i<a.length) (f:i<b.length) (h:a.take i=b.take i) (e:a.getD i d=b.getD i d):a.take (i+1)=b.take (i+1):=by
 grind [List.take_succ]
theorem QmJ (y:List Rg×List Rg) (a:DG.pre y):QK y:=by
 unfold QK;simp only[bN,fK,aw,gt,Zad,Zan,Zao,ZaW,Zbz];grind [zS]
def Qax:Ok DG:=okZ [] f272 QmA trivial QmJ
def QmK (y:List Rg) (a:DH.pre y):QM y:=by
 unfold QM;simp only[fK];exact⟨⟨a⟩,⟨trivial⟩⟩
def Qay (h:Ok cK):Ok DH:=okZ [cK,DG] f248 QmC ⟨h,Qax⟩ QmK
def Xm {l:List Rg} (h:i<(aX l).length):tV ((aX l).getD i (0,0)):=(dP l).1.1 _ (ZaJ (getD_eq h (0,0)))
def QW (l:List Rg):(aX l).length<=2*l.length:=(dP l).2.2
theorem QmL (y:List Rg) (a:Gi.pre y):QJ y:=by
 have a:y.length<=1000000:=a;have f:=QW y;unfold QJ;simp only[bN,fK,aw,a8,br,gt,Zad];refine⟨⟨ω⟩,⟨(0,[],0),rfl,rfl,rfl,rfl,Zaj _,rfl⟩,λx c=>?_⟩;have⟨i,out,nx⟩:=x;have⟨h1,d,e⟩:=c.out;simp only at*
 refine⟨λh=>?_,λh=>?_⟩
 ·have⟨g1,g2,g3,_⟩:=Xm (l:=y) (i:=i) ω;have b:cQ .i32 ((aX y).getD i (0,0)).1 1=((aX y).getD i (0,0)).1-1:=dE (cH.2 ⟨by show(-2147483648:Int)<=_;omega,by show _<=(2147483647:Int);omega⟩);have e2:aD .i32 ((aX y).getD i (0,0)).2 1=((aX y).getD i (0,0)).2+1:=dE (cH.2 ⟨by show(-2147483648:Int)<=_;omega,by show _<=(2147483647:Int);omega⟩);refine⟨ω,h,by simp;omega,(i+1,out++[(nx,((aX y).getD i (0,0)).1-1)],((aX y).getD i (0,0)).2+1),by rw[b],e2,bG ω ω,⟨?_,ω,by grind⟩,ω⟩;grind [List.drop_eq_getElem_cons,im]
 ·rw[Zbu ω] at h1;have h1:out++[(nx,1114111)]=im 0 (aX y):=h1;rw[h1];have:=zv 0 (aX y);exact⟨ω,⟨ω⟩,rfl⟩
def Qaz (h:Ok cK):Ok Gi:=okZ [cK] f293 Qmy h QmL
theorem QmM (y:List Rg×Int×Int) (d:Gj.pre y):QQ y:=by
 have⟨l,lo,hi⟩:=y;obtain⟨h1,c⟩:Xh l:=d;unfold QQ;simp only[bN,l7,Zai,aw,a8,br,gt];have a:(((l++[(lo,hi)]).length:Nat):Int)*((8:Nat):Int)<=140737488355328:=by grind
 rcases Zcu l with rfl | ⟨m,p,rfl⟩
 ·exact⟨λh=>absurd h (by simp),λ_=>⟨a,rfl,rfl⟩⟩
 ·simp only[Zcv] at*
  have e:=c p (by simp);have b:cQ .i64 ((m++[p]).length:Int) 1=m.length:=by grind
  rw[b,Zad];have e2:aD .i32 p.2 1=p.2+1:=dE (cH.2 ⟨by show(-2147483648:Int)<=_;omega,by show _<=(2147483647:Int);omega⟩);grind [cq,cO]
def QaA:Ok Gj:=okZ [] f287 QmG trivial QmM
def DI {a b:List Int} (h:a.Perm b) (c:a.Pairwise (· <= ·)) (d:b.Pairwise (· <= ·)):a=b:=List.Perm.eq_of_pairwise (le:=λx y=>x<=y) (λ_ _ _ _ h1 e=>ω) c d h
def Gq (m:List Int):(JU m).Perm m:=List.mergeSort_perm m _
theorem BI (m:List Int):(JU m).Pairwise (· <= ·):=by
 grind [List.pairwise_mergeSort,JU]
theorem gy (y:List Rg):(bn y).Perm (cZ y):=Gq _
theorem jy (y:List Rg):(bn y).Pairwise (· <= ·):=BI _
theorem qN (y:List Rg):4<=(bn y).length/\(bn y).length<=4+2*y.length:=by
 rw[(gy y).length_eq];unfold cZ;have:=fy lN 2 sZ y;grind
def DJ (h:i<(bn y).length):0<=(bn y).getD i 0/\(bn y).getD i 0<=1114112:=mz _ ((gy y).mem_iff.1 (ZaJ (getD_eq h 0)))
theorem Mn (y:List Rg):dA (bj y) (bn y) ((bn y).length-1)=aX y:=by
 grind [Dm,gy,jy,zx,Dp]
theorem QX (y:List Rg):dA (λr=>!bj y r) (bn y) ((bn y).length-1)=lE y:=by
 have hs:JH (λr=>!bj y r) (bn y):=λk hk r h1 a=>by
  have:=zx (gy y) (jy y) k hk r h1 a;grind
 grind [Dm,gy,jy,WO]
def JV (b:y.length<=2000000) (c:Int->Bool) (h:i+1<=(bn y).length):Xh (dA c (bn y) i):=by
 have:=PJ c (bn y) i;have hl:=qN y;refine⟨ω,WN (λx a=>?_) i h⟩;exact mz _ ((gy y).mem_iff.1 a)
theorem JW (c:Int->Bool) (m:List Int) (i:Nat):dA c m (i+1)=if m.getD i 0<m.getD (i+1) 0/\(m.getD i 0<55296\/57343<m.getD i 0)/\c (m.getD i 0)=true then cq (dA c m i) (m.getD i 0) (m.getD (i+1) 0-1) else dA c m i:=by
 show(if PI c m i=true then _ else _)=_
 grind [PI]
theorem Qgf (y:List Rg) (c:lT.pre y):Gm y:=by
 have c:y.length<=2000000:=c;have hl:=qN y;unfold Gm;simp only[bN,fK,aw,gt,Zad];refine⟨⟨c⟩,⟨0,rfl,rfl,rfl,⟨ω⟩⟩,λi hi=>?_⟩;have hi:=hi.out;have j:aD .i64 (i:Int) 1=((i+1:Nat):Int):=bG ω ω;rw[j,Zad];refine⟨λh=>?_,λh=>?_⟩
 ·have⟨b1,l⟩:=DJ (y:=y) (i:=i+1) ω;have k:=JW (bj y) (bn y) i;have e2:cQ .i32 ((bn y).getD (i+1) 0) 1=(bn y).getD (i+1) 0-1:=dE (cH.2 ⟨by show(-2147483648:Int)<=_;omega,by show _<=(2147483647:Int);omega⟩);have g:=JV c (bj y) hi;rw[e2];generalize (bn y).getD i 0=A at*
  generalize (bn y).getD (i+1) 0=B at*
  have go:A<B/\(A<55296\/57343<A)/\bj y A->∃z:Nat,((cq (dA (bj y) (bn y) i) A (B-1)).length:Int)=((dA (bj y) (bn y) z).length:Int)/\((i+1:Nat):Int)=(z:Int)/\cq (dA (bj y) (bn y) i) A (B-1)=dA (bj y) (bn y) z/\Iv (z+1<=(bn y).length/\(bn y).length-z<(bn y).length-i):=λa=>by
   grind
  have no:¬(A<B/\(A<55296\/57343<A)/\bj y A)->∃z:Nat,((dA (bj y) (bn y) i).length:Int)=((dA (bj y) (bn y) z).length:Int)/\((i+1:Nat):Int)=(z:Int)/\dA (bj y) (bn y) i=dA (bj y) (bn y) z/\Iv (z+1<=(bn y).length/\(bn y).length-z<(bn y).length-i):=λa=>by
   rw[Zaa a] at k;grind
  refine⟨ω,ω,ω,h,λd=>⟨ω,ω,λe=>⟨ω,ω,⟨trivial⟩,λb=>⟨ω,ω,ω,h,⟨g⟩,go ⟨d,.inl e,b⟩⟩,λb=>no λa=>by grind⟩,λe=>⟨ω,ω,λf=>⟨ω,ω,⟨trivial⟩,λb=>⟨ω,ω,ω,h,⟨g⟩,go ⟨d,.inr f,b⟩⟩,λb=>no λa=>by grind⟩,λf=>no λa=>ω⟩⟩,λd=>no λa=>ω⟩
 ·grind [Mn]
def Gs (h:Ok gW):Ok lT:=okZ [gW,xg,Gj] f257 Qf8 ⟨h,QV,QaA⟩ Qgf
theorem Qgg (y:List Rg) (b:o4.pre y):Gn y:=by
 have b:y.length<=2000000:=b;have hl:=qN y;unfold Gn;simp only[bN,fK,Zan,Zao,aw,gt,Zad];refine⟨⟨b⟩,⟨0,rfl,rfl,rfl,⟨ω⟩⟩,λi hi=>?_⟩;have hi:=hi.out;have j:aD .i64 (i:Int) 1=((i+1:Nat):Int):=bG ω ω;rw[j,Zad];refine⟨λh=>?_,λh=>?_⟩
 ·have⟨b1,l⟩:=DJ (y:=y) (i:=i+1) ω;have k:=JW (λr=>!bj y r) (bn y) i;have e2:cQ .i32 ((bn y).getD (i+1) 0) 1=(bn y).getD (i+1) 0-1:=dE (cH.2 ⟨by show(-2147483648:Int)<=_;omega,by show _<=(2147483647:Int);omega⟩);have g:=JV b (λr=>!bj y r) hi;rw[e2];generalize (bn y).getD i 0=A at*
  generalize (bn y).getD (i+1) 0=B at*
  have go:A<B/\(A<55296\/57343<A)/\(!bj y A)->∃z:Nat,((cq (dA (λr=>!bj y r) (bn y) i) A (B-1)).length:Int)=((dA (λr=>!bj y r) (bn y) z).length:Int)/\((i+1:Nat):Int)=(z:Int)/\cq (dA (λr=>!bj y r) (bn y) i) A (B-1)=dA (λr=>!bj y r) (bn y) z/\Iv (z+1<=(bn y).length/\(bn y).length-z<(bn y).length-i):=λa=>by
   grind
  have no:¬(A<B/\(A<55296\/57343<A)/\(!bj y A))->∃z:Nat,((dA (λr=>!bj y r) (bn y) i).length:Int)=((dA (λr=>!bj y r) (bn y) z).length:Int)/\((i+1:Nat):Int)=(z:Int)/\dA (λr=>!bj y r) (bn y) i=dA (λr=>!bj y r) (bn y) z/\Iv (z+1<=(bn y).length/\(bn y).length-z<(bn y).length-i):=λa=>by
   rw[Zaa a] at k;grind
  refine⟨ω,ω,ω,h,λc=>⟨ω,ω,λe=>⟨ω,ω,⟨trivial⟩,λd=>⟨ω,ω,ω,h,⟨g⟩,go ⟨c,.inl e,by grind⟩⟩,λd=>no λa=>by grind⟩,λe=>⟨ω,ω,λf=>⟨ω,ω,⟨trivial⟩,λd=>⟨ω,ω,ω,h,⟨g⟩,go ⟨c,.inr f,by grind⟩⟩,λd=>no λa=>by grind⟩,λf=>no λa=>ω⟩⟩,λc=>no λa=>ω⟩
 ·grind [QX]
def QcV (h:Ok gW):Ok o4:=okZ [gW,xg,Gj] f280 Qga ⟨h,QV,QaA⟩ Qgg
theorem Qgh (y:List Rg) (a:xh.pre y):Gp y:=by
 have a:y.length<=2000000:=a;unfold Gp;simp only[bN,fK,aw,gt,Zad,Zan,Zao,ZaW,Zbz];grind [zS]
def QY (h:Ok gW):Ok xh:=okZ [lT] f256 Qgc (Gs h) Qgh
theorem Gu (h:i<=y.length):(dJ y i).length<=4+2*y.length:=by
 unfold dJ;have:=fy lN 2 sZ (y.take i);grind
theorem DK (h:i<y.length):dJ y (i+1)=dJ y i++lN (y.getD i (0,0)):=by
 grind [dJ,List.take_succ]
theorem Qgi (y:List Rg) (n:gW.pre y):Gl y:=by
  have n:y.length<=2000000:=n;unfold Gl;simp only[bN,fK,aw,a8,br,gt,Zad];refine⟨⟨0,by rfl,rfl,by rfl,⟨Zaj _⟩⟩,λi hi=>⟨λh=>?_,λh=>⟨⟨(1,dJ y i),rfl,rfl,rfl,Zah _,?_,?_,?_⟩,λx s=>⟨λg=>⟨(x.1,x.2),⟨(x.1,x.2),rfl,rfl,rfl,?_⟩,λz hz=>?_⟩,λg=>?_⟩⟩⟩⟩
  · have hs:=DK (y:=y) (i:=i) ω;have hl:=Gu (y:=y) (i:=i) ω;have fin:∀L:List Int,L=dJ y i++lN (y.getD i (0,0))->∃z:Nat,(L.length:Int)=((dJ y z).length:Int)/\aD .i64 (i:Int) 1=(z:Int)/\L=dJ y z/\Iv (z<=y.length/\y.length-z<y.length-i):=λL v=>by
      grind
    generalize y.getD i (0,0)=A at*
    have⟨lo,c⟩:=A;have e:0<=c->c<1114111->aD .i32 c 1=c+1:=λa b=>dE (cH.2 ⟨by show(-2147483648:Int)<=_;omega,by show _<=(2147483647:Int);omega⟩)
    have F:∀(a b:Bool),m1 (lo,c)=a->m2 (lo,c)=b->lN (lo,c)=(if a=true then[lo] else[])++(if b=true then[c+1] else[]):=λa b f e2=>by grind [lN]
    repeat' first | (intro _) | (apply And.intro)
    all_goals first
      | omega
      | (simp only[Zab,Zae,Zak];omega)
      | (refine fin _ ?_
         first
           | (rw[F true true (by simp[m1];omega) (by simp[m2];omega),e ω ω];simp;done)
           | (rw[F true false (by simp[m1];omega) (by simp[m2];omega)];simp;done)
           | (rw[F false true (by simp[m1];omega) (by simp[m2];omega),e ω ω];simp;done)
           | (rw[F false false (by simp[m1];omega) (by simp[m2];omega)];simp;done))
  · grind [dJ]
  · grind [dJ,cZ]
  · intro a b h1 g;omega
  · grind [Bu]
  · have⟨i2,m⟩:=x;have⟨k,d⟩:=z;have⟨g1,g2,g3,g4⟩:=hz.out;have r:d.length=(cZ y).length:=g3.length_eq;have q:(cZ y).length<=4000004:=by
      have:=fy lN 2 sZ y;unfold cZ;grind
    simp only at*
    have out:(k=0\/d.getD (k-1) 0<=d.getD k 0)->∃z:Nat×List Int,(d.length:Int)=(z.2.length:Int)/\aD .i64 (i2:Int) 1=(z.1:Int)/\d=z.2/\Iv ((1<=z.1/\z.1<=z.2.length/\z.2.Perm (cZ y)/\Dj z.2 z.1)/\(cZ y).length-z.1<(cZ y).length-i2):=λhk=>
      ⟨(i2+1,d),rfl,bG ω ω,rfl,⟨ω,by assumption,g3,FT g4 hk⟩,ω⟩
    refine⟨λp=>?_,λp=>out (.inl ω)⟩;have f:cQ .i64 (k:Int) 1=((k-1:Nat):Int):=by grind
    rw[f,Zad];refine⟨ω,ω,ω,ω,λl=>⟨ω,ω,ω,ω,ω,ω,ω,ω,(k-1,swap d (k-1)),?_,rfl,?_,⟨ω,?_,(swap_perm d (k-1) ω).trans g3,?_⟩,ω⟩,λl=>out (.inr l)⟩
    · rw[Dh]
    · grind [swap,cO]
    · grind [Dh]
    · grind [Dk]
  · have⟨t,u,o,j⟩:=s.out;have:x.1=x.2.length:=ω;rw[this] at j;exact DI (o.trans (gy y).symm) (PH j) (jy y)
def s8:Ok gW:=okZ [] f285 Qf5 trivial Qgi
def cV:aV:=⟨0,0,0,[]⟩
def ia (n m:Int):Bool:=decide (0<=n)&&decide (n<m)
def QZ:bk D:=bP 242 (Int×Int) (λa _=>match a with
 | [n,m]=>aQ (da n) λ_ n=>aQ (da m) λ_ m=>.ret (n,m)
 | _=>.fail) (λ_=>True) (λy=>[QtJ y.1,QtJ y.2]) λy=>.bool (ia y.1 y.2)
def Gv (p:ej) (i:Int):Bool:=
 let x:=p.ae.getD i.toNat cV
 let behind:=decide (i+1<p.ae.length)
 if x.op≠1/\0<x.bm.length\/x.op≠2/\x.y≠0 then false
 else if x.op=1 then behind&&decide (x.x=0)&&decide (x.bm=aX x.bm)
 else if x.op=2 then ia x.x p.ae.length&&ia x.y p.ae.length
 else if x.op=3 then ia x.x p.ae.length
 else if x.op=4 then behind&&ia x.x 10
 else if x.op=5\/x.op=6 then behind&&decide (x.x=0)
 else if x.op=7 then ia x.x p.aj.length
 else false
def Xn (y:ej×Int):Prop:=0<=y.2/\y.2<y.1.ae.length/\y.1.ae.length<=1000/\∀x∈y.1.ae,x.bm.length<=1000000
def Xo:bk D:=bP 241 (ej×Int) (λa s=>match a with
 | [p,i]=>aA (DC p s) λp=>aQ (da i) λ_ i=>.ret (p,i)
 | _=>.fail) Xn (λy=>[yp y.1,QtJ y.2]) λy=>.bool (Gv y.1 y.2)
def Q0 (y:Int×Int):Prop:=ak (aI 0 y.1) (az y.1 y.2=ia y.1 y.2/\True) (false=ia y.1 y.2/\True)
def Q3 (y:ej×Int):Prop:=let h:=ah y.1.aj;let q1:=ah y.1.ae;let b:=Gv y.1 y.2;let g:=az (aD .i64 y.2 1) q1;let a:=gt (aV.mk 0 0 0 []) y.1.ae y.2.toNat;let i:=aC a.x 0;let j:=aC a.op 1;let k:=aC a.op 2;let l:=ia a.x q1;let m:=az 0 (ah a.bm);let c:Prop:=(ak g (i=b/\True) (false=b/\True));let d:Prop:=(ak (aC a.op 7) (Iv True/\RAQ a.x h (ia a.x h=b/\True)) (false=b/\True));let e:Prop:=(ak j (ak g (ak i (Iv (a.bm.length<=100000000)/\RAP a.bm (decide (a.bm=aX a.bm)=b/\True)) (false=b/\True)) (false=b/\True)) (ak k (Iv True/\RAQ a.x q1 (ak l (Iv True/\aa [a.y,q1] (ia a.y q1=b/\True)) (false=b/\True))) (ak (aC a.op 3) (Iv True/\RAQ a.x q1 (l=b/\True)) (ak (aC a.op 4) (ak g (Iv True/\aa ([a.x,10]:List Int) (ia a.x 10=b/\True)) (false=b/\True)) (ak (aC a.op 5) (ak (aC a.op 5) (c) (d)) (ak (aC a.op 6) (c) (d)))))));let f:Prop:=(ak (!k) (ak (!(aC a.y 0)) (false=b/\True) (e)) (e));aI 0 y.2/\az y.2 q1/\ak (!j) (ak m (false=b/\True) (f)) (f)
theorem QmP (y:Int×Int):Q0 y:=by
 grind [Q0,ia]
def QaB:Ok QZ:=okZ (V:=Q0) [] f242 (λ_=>dr ()) trivial λy _=>QmP y
def DL (x:aV) (b:Bool) (n m:Int):Bool:=
 if x.op≠1/\0<x.bm.length\/x.op≠2/\x.y≠0 then false
 else if x.op=1 then b&&decide (x.x=0)&&decide (x.bm=aX x.bm)
 else if x.op=2 then ia x.x n&&ia x.y n
 else if x.op=3 then ia x.x n
 else if x.op=4 then b&&ia x.x 10
 else if x.op=5\/x.op=6 then b&&decide (x.x=0)
 else if x.op=7 then ia x.x m
 else false
theorem QmQ (y:ej×Int) (i:Xn y):Q3 y:=by
 obtain⟨h1,d,l,f⟩:=i;have hi:aD .i64 y.2 1=y.2+1:=bG ω ω;have g:(gt (aV.mk 0 0 0 []) y.1.ae y.2.toNat).bm.length<=1000000:=by
  grind
 have c:Gv y.1 y.2=DL (gt (aV.mk 0 0 0 []) y.1.ae y.2.toNat) (az (y.2+1) (ah y.1.ae)) (ah y.1.ae) (ah y.1.aj):=rfl;have a:az y.2 (ah y.1.ae):=eV.2 d;unfold Q3;rw[c,hi];generalize gt (aV.mk 0 0 0 []) y.1.ae y.2.toNat=x at g ⊢;simp only[bh,gx];refine⟨h1,a,?_⟩;clear f c a;have h:x.bm.length<=100000000:=ω;have j:az 0 (ah x.bm)=!(x.bm==[]):=by cases x.bm<;>simp[az,ah]
 have k:(0<x.bm.length)=((!(x.bm==[]))):=by grind
 unfold DL;simp only[j,k];generalize (x.bm==[])=e;generalize az (y.2+1) (ah y.1.ae)=b;generalize ah y.1.ae=n;generalize ah y.1.aj=m;generalize ia x.x n=q;generalize ia x.y n=r;generalize ia x.x 10=s;generalize ia x.x m=w4;generalize decide (x.bm=aX x.bm)=w5;by_cases u:x.y=0<;>by_cases t:x.x=0<;>cases e<;>cases b
 all_goals
  by_cases o:x.op=1
  ·grind
  by_cases p:x.op=2
  ·grind
  grind
def Qgj (a:Ok cK):Ok Xo:=okZ [QZ,DH] f241 (λ_=>dr ()) ⟨QaB,Qay a⟩ QmQ
def j8 (ae:List aV):Nat->List Bool->List Int->List Bool
 | 0,s,_=>s
 | f+1,s,l=>if l.length=0 then s else
  let i:=l.getD (l.length-1) 0
  let k:=l.take (l.length-1)
  let x:=ae.getD i.toNat cV
  if s.getD i.toNat false=true then j8 ae f s k
  else if x.op=2 then j8 ae f (s.set i.toNat true) (k++[x.x,x.y])
  else if x.op=3 then j8 ae f (s.set i.toNat true) (k++[x.x])
  else if x.op=7 then j8 ae f (s.set i.toNat true) k
  else j8 ae f (s.set i.toNat true) (k++[i+1])
def JX (n:Nat):List Bool:=List.replicate n false
def lF (ae:List aV) (start:Int):List Bool:=j8 ae (3*ae.length+1) (JX ae.length) [start]
def tgP (ae:List aV):Prop:=ae.length<=1000/\∀i:Nat,i<ae.length->((ae.getD i cV).op=2->0<=(ae.getD i cV).x/\(ae.getD i cV).x<ae.length/\0<=(ae.getD i cV).y/\(ae.getD i cV).y<ae.length)/\((ae.getD i cV).op=3->0<=(ae.getD i cV).x/\(ae.getD i cV).x<ae.length)/\((ae.getD i cV).op≠2->(ae.getD i cV).op≠3->(ae.getD i cV).op≠7->i+1<ae.length)
def Mo (y:List aV×Int):Prop:=tgP y.1/\0<=y.2/\y.2<y.1.length
def Q4:bk D:=bP 243 (List aV×Int) (λa s=>match a with
 | [p,i]=>aA (aW D s 8 p) λp=>aQ (da i) λ_ i=>.ret ((p:List aV),i)
 | _=>.fail) Mo (λy=>[.list 8 y.1,QtJ y.2]) λy=>.list 17 (lF y.1 y.2)
structure rY where
 f:Nat
 s:List Bool
 l:List Int
def qi (y:List aV×Int) (x:rY):Prop:=x.s.length=y.1.length/\(∀i∈x.l,0<=i/\i<y.1.length)/\3*x.s.count false+x.l.length<=x.f/\x.f<=3*y.1.length+1/\j8 y.1 x.f x.s x.l=lF y.1 y.2
def QmR (y:Q4.Y):cU D:=⟨[],[1,2],[(60,⟨rY,[0],λx=>[(5,.own 0 1 (ah x.s)),(6,.own 1 1 (ah x.l))],[],λx=>[(0,.arr 17 x.s 4 false),(1,.arr 5 x.l 3 false)],2,qi y,λx=>x.f⟩)],[],1,[]⟩
def qP (p:ej):Prop:=p.ae.length<=400/\p.aj.length<=8/\(∀i:Nat,i<p.ae.length->Gv p i)/\(∀x∈p.ae,x.bm.length<=1000000)/\tgP p.ae/\∀r:Nat,r<p.aj.length->0<=p.aj.getD r 0/\p.aj.getD r 0<p.ae.length/\∀i:Nat,i<p.ae.length->(lF p.ae (p.aj.getD r 0)).getD i false->(p.ae.getD i cV).op=7->(p.ae.getD i cV).x=r
def Gx:bk D:=bP 203 ej (λa s=>match a with
 | [p]=>DC p s
 | _=>.fail) qP (λy=>[yp y]) λ_=>.lit true
def Ob (y:ej):Nat×AO D.E:=(0,.cells [.list 8 y.ae,.list 5 y.aj] 88 false)
def QmT (y:Gx.Y):cU D:=⟨[],[],[(58,⟨Nat,[20],λk=>[(1,.ptr 0 0),(21,QtJ k)],[],λ_=>[Ob y],1,λk=>k<=(ej.ae y).length,λk=>(ej.ae y).length-k⟩),
 (122,⟨Nat,[30,31],λk=>[(1,.ptr 0 0),(32,QtJ k)],[],λ_=>[Ob y],1,λk=>k<=(ej.aj y).length,λk=>(ej.aj y).length-k⟩)],[],1,
 [(62670,⟨Nat,λr=>⟨Nat,[4,30,31,32,46,47],λk=>[(1,.ptr 0 0),(48,QtJ k)],[],λ_=>[Ob y],1,λk=>k<=(ej.ae y).length/\r<(ej.aj y).length,λk=>(ej.ae y).length-k⟩,none⟩)]⟩
def Q5 (y:(List aV)×Int):Prop:=let c:=ah y.1;let q1:=([y.2]:List Int);let h:=λp:Prop=>aa [y.1] p;aI 0 c/\aI c c/\bF c 1/\(∃z:rY,h (ah (mf c false)=ah z.s/\ah q1=ah z.l/\q1=z.l/\mf c false=z.s/\(Iv (qi y z))))/\(∀x:rY,let j:=ah x.l;let b:=cQ .i64 j 1;let g:=dv x.l b;let a:=gt 0 x.l b.toNat;let m:=gt false x.s a.toNat;let k:=bM g [aD .i64 a 1];let e:=gt (aV.mk 0 0 0 []) y.1 a.toNat;let i:=ah (bM g [e.x]);let d:=bM g [e.x,e.y];(Iv (qi y x))->ak (az 0 j) (aI 0 b/\az b j/\aI 0 b/\aI b j/\aI 0 a/\az a (ah x.s)/\ak m (∃z:rY,h (ah x.s=ah z.s/\b=ah z.l/\g=z.l/\x.s=z.s/\(Iv (qi y z/\z.f<x.f)))) (aI 0 a/\az a (ah x.s)/\aI 0 a/\az a c/\ak (aC e.op 2) (bF (ah d) 8/\∃z:rY,h (ah x.s=ah z.s/\ah d=ah z.l/\d=z.l/\cO x.s a.toNat true=z.s/\(Iv (qi y z/\z.f<x.f)))) (ak (aC e.op 3) (bF i 8/\∃z:rY,h (ah x.s=ah z.s/\i=ah z.l/\bM g [e.x]=z.l/\cO x.s a.toNat true=z.s/\(Iv (qi y z/\z.f<x.f)))) (ak (aC e.op 7) (∃z:rY,h (ah x.s=ah z.s/\b=ah z.l/\g=z.l/\cO x.s a.toNat true=z.s/\(Iv (qi y z/\z.f<x.f)))) (bF (ah k) 8/\∃z:rY,h (ah x.s=ah z.s/\ah k=ah z.l/\k=z.l/\cO x.s a.toNat true=z.s/\(Iv (qi y z/\z.f<x.f)))))))) (x.s=lF y.1 y.2/\True))
abbrev RAV {T0 T1 T2 T3 T4 T5:Type} (a:T0) (b:T1) (c:T2) (d:T3) (e:T4) (f:T5) (p:Prop):Prop:=aa [a] (aa [b] (aa [c] (aa [d] (aa [e] (aa [f] p)))))
def Q6 (y:ej):Prop:=let b:=y.ae.length;let q1:=ah y.aj;let e:=y.aj.length;let f:=ah y.ae;let h:=λp:Prop=>RA2 y p;ak (az 400 f) (False) (ak (az 8 q1) (False) ((∃z:Nat,RAP f (0=(z:Int)/\h ((Iv (z<=b)))))/\(∀x:Nat,let r:=!(Gv y (x:Int));(Iv (x<=b))->ak (az (x:Int) f) (Iv (Xn (y,(x:Int)))/\RA2 y (RAP (x:Int) (ak r (False) (∃z:Nat,aa [f] (aD .i64 (x:Int) 1=(z:Int)/\h ((Iv (z<=b/\(b-z)<(b-x))))))))) ((∃z:Nat,RAQ y.aj q1 (0=(z:Int)/\h ((Iv (z<=e)))))/\(∀d:Nat,let o:=az (d:Int) q1;let k:=gt 0 y.aj (d:Int).toNat;let l:=lF y.ae k;let q:=λp:Prop=>RAV (d:Int) y.aj q1 (d:Int) l (ah l) p;(Iv (d<=e))->ak o (aI 0 (d:Int)=true/\o=true/\Iv True/\RAQ k f (ak (!(ia k f)) (False) (Iv (Mo (y.ae,k))/\aa [y.ae] (aa [k] (∃z:Nat,(∃c:Nat,q (0=(c:Int)/\h ((Iv (c<=b/\z<e)))))/\(∀a:Nat,let i:=az (a:Int) (ah l);let m:=gt false l (a:Int).toNat;let j:=gt (aV.mk 0 0 0 []) y.ae (a:Int).toNat;let n:=!(aC j.x (d:Int));let g:Prop:=(∃c:Nat,q (aD .i64 (a:Int) 1=(c:Int)/\h ((Iv ((c<=b/\z<e)/\(b-c)<(b-a))))));(Iv (a<=b/\z<e))->ak i (aI 0 (a:Int)=true/\i=true/\ak m (aI 0 (a:Int)=true/\az (a:Int) f=true/\ak (aC j.op 7) (aI 0 (a:Int)=true/\az (a:Int) f=true/\ak n (False) (g)) (g)) (g)) (∃c:Nat,aa [y.aj] (aa [q1] (aD .i64 (d:Int) 1=(c:Int)/\h ((Iv (c<=e/\(e-c)<(e-d))))))))))))) (True))))))
theorem ud:∀(s:List Bool) (i:Nat),i<s.length->s.getD i false=false->(s.set i true).count false+1=s.count false
 | [],_,h,_=>absurd h (Zbo _)
 | b::s,0,_,h=>by
  grind
 | b::s,i+1,h,h2=>by
  grind
theorem QmV (y:List aV×Int) (N:Mo y):Q5 y:=by
 obtain⟨⟨c1,c2⟩,O,P⟩:=N;unfold Q5;simp only[bN,bh,aw,cO,br,a8];refine⟨ω,ω,ω,⟨⟨3*y.1.length+1,JX y.1.length,[y.2]⟩,by rfl,rfl,rfl,rfl,by unfold JX;simp,λi hi=>?_,?_,Zah _,rfl⟩,λx z=>⟨λh=>?_,λh=>?_⟩⟩
 ·grind
 ·unfold JX;simp
 ·obtain⟨f,s,l⟩:=x;obtain⟨e,e2,t,u,c⟩:=z;simp only at e e2 t u c h ⊢;obtain⟨m,J⟩:∃m,l.length=m+1:=⟨l.length-1,ω⟩;obtain⟨f,rfl⟩:∃g,f=g+1:=⟨f-1,ω⟩;have L:cQ .i64 (l.length:Int) 1=(m:Int):=by
   grind
  have w:gt 0 l m=l[m]'ω:=by
   grind
  have hi:=e2 _ (Zas (l:=l) (n:=m) ω);have hk:∀i∈l.take m,0<=i/\i<(y.1.length:Int):=λi hi=>e2 i (Zcg hi)
  have d:(l.take m).length=m:=by grind
  rw[j8,Zaa ω,J,Zde] at c;rw[L,Zad,w];have p:dv l (m:Int)=l.take m:=rfl;rw[p];have E:l.getD m 0=l[m]'ω:=w;simp only[E] at c;generalize l[m]'ω=i at hi c ⊢;generalize l.take m=k at hk d c ⊢;obtain⟨n,rfl⟩:=Zau hi.1;have K:n<s.length:=ω;simp only[Zad] at c ⊢;have F:gt (aV.mk 0 0 0 []) y.1 n=y.1.getD n cV:=rfl;have gs:gt false s n=s.getD n false:=rfl;rw[F,gs];obtain⟨B,C,D⟩:=c2 n ω;have H:List.count false s<=s.length:=List.count_le_length;have G:aD .i64 (n:Int) 1=(n:Int)+1:=bG ω ω;rw[G];generalize y.1.getD n cV=x at B C D c ⊢;have snoc:∀(v:List Int),(∀i∈v,0<=i/\i<(y.1.length:Int))->∀i∈k++v,0<=i/\i<(y.1.length:Int):=λv M i hi=>(Zax.1 hi).elim (hk i) (M i)
  refine⟨ω,ω,ω,ω,ω,ω,λhs=>?_,λhs=>⟨ω,ω,ω,ω,?_⟩⟩
  ·rw[Zac hs] at c;exact⟨⟨f,s,k⟩,rfl,by rw[d],rfl,rfl,⟨e,hk,by grind,by show f<=_;omega,c⟩,Zbr _⟩
  ·have I:=ud s n K hs;rw[Zaa (by rw[hs];decide)] at c;have qG:(s.set n true).length=s.length:=Zbb;have two:∀a b:Int,(k++[a,b]).length=m+2:=λa b=>by rw[Zab,d];rfl
   have one:∀a:Int,(k++[a]).length=m+1:=λa=>by rw[Zab,d];rfl
   refine⟨λo=>?_,λj=>⟨λo=>?_,λq=>⟨λo=>?_,λA=>?_⟩⟩⟩
   ·rw[Zac o] at c;obtain⟨r,a2,a3,a4⟩:=B o;refine⟨by rw[two];omega,⟨f,s.set n true,k++[x.x,x.y]⟩,by rw[qG],rfl,rfl,rfl,⟨qG.trans e,snoc _ λi hi=>?_,by grind,by show f<=_;omega,c⟩,Zbr _⟩;simp only[Zbf,Zds,Zdt] at hi;omega
   ·rw[Zaa j,Zac o] at c;obtain⟨r,a2⟩:=C o;refine⟨by rw[one];omega,⟨f,s.set n true,k++[x.x]⟩,by rw[qG],rfl,rfl,rfl,⟨qG.trans e,snoc _ λi hi=>?_,by grind,by show f<=_;omega,c⟩,Zbr _⟩;rw[ZaI.1 hi];exact⟨r,a2⟩
   ·rw[Zaa j,Zaa q,Zac o] at c;exact⟨⟨f,s.set n true,k⟩,by rw[qG],by rw[d],rfl,rfl,⟨qG.trans e,hk,by grind,by show f<=_;omega,c⟩,Zbr _⟩
   ·rw[Zaa j,Zaa q,Zaa A] at c;have:=D j q A;refine⟨by rw[one];omega,⟨f,s.set n true,k++[(n:Int)+1]⟩,by rw[qG],rfl,rfl,rfl,⟨qG.trans e,snoc _ λi hi=>?_,by grind,by show f<=_;omega,c⟩,Zbr _⟩;rw[ZaI.1 hi];omega
 ·obtain⟨f,s,l⟩:=x;obtain⟨e,e2,t,u,c⟩:=z;simp only at c h ⊢;rw[<-c];cases f with
  | zero=>rfl
  | succ f=>rw[j8,Zac ω]
def QaC:Ok Q4:=okZ [] f243 QmR trivial QmV
theorem mQ (ae:List aV):∀f s l,(j8 ae f s l).length=s.length
 | 0,s,l=>rfl
 | f+1,s,l=>by
  rw[j8];simp only;split
  ·rfl
  ·split
   ·exact mQ ae f _ _
   ·split
    ·rw[mQ];exact Zbb
    ·split
     ·rw[mQ];exact Zbb
     ·split<;>(rw[mQ];exact Zbb)
theorem mR (ae:List aV) (a:Int):(lF ae a).length=ae.length:=by
 grind [lF,mQ,JX]
theorem QmW (y:ej) (g:qP y):Q6 y:=by
 obtain⟨p1,p2,p3,p4,p5,p6⟩:=g;unfold Q6;simp only[bN,bh,aw,Zad,di,Zan,Zao];refine⟨λh=>ω,λh=>⟨λh=>ω,λh=>⟨⟨0,rfl,Zaj _⟩,λx e=>⟨λk=>?_,λk=>⟨⟨0,rfl,Zaj _⟩,λr j=>⟨λk=>?_,λk=>trivial⟩⟩⟩⟩⟩⟩
 ·have b:x<y.ae.length:=ω;have hs:=p3 x b;exact⟨⟨ω,k,by grind,p4⟩,⟨λq=>Bool.noConfusion (hs.symm.trans q),λ_=>⟨x+1,bG ω ω,ω,ω⟩⟩⟩
 ·have a:r<y.aj.length:=ω;obtain⟨d,a2,a3⟩:=p6 r a;have hw:ia (y.aj.getD r 0) y.ae.length:=by grind [ia]
  refine⟨ω,k,⟨λq=>Bool.noConfusion (hw.symm.trans q),λ_=>⟨⟨p5,d,a2⟩,r,⟨0,rfl,Zaj _,a⟩,λx e=>⟨λk2=>?_,λ_=>⟨r+1,bG ω ω,ω,ω⟩⟩⟩⟩⟩;have f:x<y.ae.length:=by grind [mR]
  have i:∃c:Nat,aD .i64 (x:Int) 1=(c:Int)/\(c<=y.ae.length/\r<y.aj.length)/\y.ae.length-c<y.ae.length-x:=⟨x+1,bG ω ω,⟨ω,a⟩,ω⟩;simp_all
def QaD (a:Ok cK):Ok Gx:=okZ [Xo,QZ,Q4] f203 QmT ⟨Qgj a,QaB,QaC⟩ QmW
def EwC (a b:b5) (p:Prop):Prop:=a.c0=b.c0/\a.c1=b.c1/\a.c2=b.c2/\a.c3=b.c3/\a.c4=b.c4/\a.c5=b.c5/\a.c6=b.c6/\a.c7=b.c7/\a.c8=b.c8/\a.c9=b.c9/\p
def Gy (a:b5) (p:Prop):Prop:=aa [a.c0,a.c1,a.c2,a.c3,a.c4,a.c5,a.c6,a.c7,a.c8,a.c9] p
def RwH (a:bA) (p:Prop):Prop:=aa [a.c0,a.c1,a.c2,a.c3,a.c4,a.c5,a.c6,a.c7,a.c8,a.c9] p
def BJ:(∀a p,Gy a p=p)/\∀a p,RwH a p=p:=⟨λ_ _=>by simp[Gy],λ_ _=>by simp[RwH]⟩
structure Gz where
 w:b5
 rd:List bA
 e:Bool
structure ToY where
 v:kz
 k:Gz
 t:bA
variable {s:ow} {i:Int}
def Qgl:aV:=⟨0,0,0,[]⟩
def QmX (t:bA) (i v:Int):bA:=⟨t.pc,if i=0 then v else t.c0,if i=1 then v else t.c1,if i=2 then v else t.c2,if i=3 then v else t.c3,if i=4 then v else t.c4,if i=5 then v else t.c5,if i=6 then v else t.c6,if i=7 then v else t.c7,if i=8 then v else t.c8,if i=9 then v else t.c9⟩
def Qgm (w:b5) (t:bA):b5:=⟨true,t.c0,t.c1,t.c2,t.c3,t.c4,t.c5,t.c6,t.c7,t.c8,t.c9,w.aL⟩
def Xt (ae:List aV) (aF:Int):Nat->ow->Gz->bA->Bool×ow×Gz
 | 0,s,k,_=>(false,s,k)
 | n+1,s,k,t=>
  if mN s t.pc=false then(false,s,k) else
  let a:=nK s t.pc true
  let x:=ae.getD t.pc.toNat Qgl
  if x.op=7 then(true,a,{ k with w:=Qgm k.w t })
  else if x.op=2 then
   let r:=Xt ae aF n a k { t with pc:=x.x }
   if r.1=true then r else Xt ae aF n r.2.1 r.2.2 { t with pc:=x.y }
  else if x.op=1 then(false,a,{ k with rd:=k.rd++[t] })
  else if x.op=3 then Xt ae aF n a k { t with pc:=x.x }
  else if x.op=4 then Xt ae aF n a k (QmX { t with pc:=t.pc+1 } x.x aF)
  else if x.op=5/\0<aF then(false,a,k)
  else if x.op=6/\k.e=false then(false,a,k)
  else Xt ae aF n a k { t with pc:=t.pc+1 }
def kU (s:ow):Nat:=(List.range s.pl.length).countP λi:Nat=>mN s i
def Oc (s:ow):Prop:=s.pl.length<=1000/\(∀v∈s.pl,(0:Int)<=v)/\s.us.length+kU s=s.pl.length/\∀j,j<s.us.length->0<=(s.us.getD j it0).i/\(s.us.getD j it0).i<s.pl.length/\s.pl.getD (s.us.getD j it0).i.toNat 0=j
def Qgn (c:List aV):Prop:=c.length<=1000/\∀x∈c,x.op=4->0<=x.x/\x.x<=9
theorem rZ:mN s i↔0<=i/\i<s.pl.length/\Gb s i=false:=by
 grind [mN]
theorem r4:Gb s i↔0<=i/\i<s.pl.length/\s.pl.getD i.toNat 0<s.us.length/\(s.us.getD (s.pl.getD i.toNat 0).toNat it0).i=i:=by
 grind [Gb]
theorem Q7 (h:∀v∈s.pl,(0:Int)<=v) (i:Nat):0<=s.pl.getD i 0:=by
 rw[Zag];cases e:s.pl[i]? with
 | none=>exact ZaQ 0
 | some v=>exact h v (ZaJ e)
theorem vw (x:Bool) (h:mN s i):nK s i x=⟨s.pl.set i.toNat s.us.length,s.us++[⟨i,x⟩]⟩:=by grind [nK]
theorem has_add (x:Bool) (a:∀v∈s.pl,(0:Int)<=v) (h:mN s i) (j:Int):Gb (nK s i x) j↔Gb s j\/j=i:=by
 obtain⟨h1,c,d⟩:=rZ.1 h;rw[vw x h,r4,r4];simp only[Zbb,Zab,Zae,Zak];have g:=Q7 a j.toNat;by_cases e:j=i
 ·grind
 ·by_cases f:0<=j/\j<s.pl.length
  ·have b:(s.pl.set i.toNat (s.us.length:Int)).getD j.toNat 0=s.pl.getD j.toNat 0:=by
    grind
   grind
  ·omega
theorem vz (x:Bool):(nK s i x).pl.length=s.pl.length:=by grind [nK]
theorem Xu (x:Bool) (a:∀v∈s.pl,(0:Int)<=v) (h:mN s i) (j:Int):mN (nK s i x) j=(mN s j&&decide (j≠i)):=by
 grind [rZ,has_add,nK]
theorem zT (p:Nat->Bool) (a:Nat):∀n,(List.range n).countP (λx=>p x&&decide (x≠a))+(if a<n/\p a=true then 1 else 0)=(List.range n).countP p
 | 0=>by simp
 | n+1=>by
  have b:=zT p a n;grind [List.range_succ]
theorem xi (x:Bool) (b:∀v∈s.pl,(0:Int)<=v) (h:mN s i):kU (nK s i x)+1=kU s:=by
 obtain⟨h1,a,_⟩:=rZ.1 h;unfold kU;rw[vz,<-zT (λi:Nat=>mN s i) i.toNat s.pl.length,Zac ⟨ω,by grind⟩];grind [Xu]
theorem JY (x:Bool) (hs:Oc s) (h:mN s i):Oc (nK s i x):=by
 obtain⟨h1,f,n,g⟩:=hs;obtain⟨c1,c2,c3⟩:=rZ.1 h;have o:=xi x f h;refine⟨by grind [vz],?_,?_,?_⟩
 ·grind [vw]
 ·grind [vw]
 ·rw[vw x h];intro j k;simp only[Zab,Zae,Zak,Zbb] at k ⊢;by_cases e:j<s.us.length
  ·obtain⟨a,b,c⟩:=g j e;have d:(s.us++[(⟨i,x⟩:Item)]).getD j it0=s.us.getD j it0:=by grind
   rw[d];refine⟨a,b,?_⟩;have l:(s.us.getD j it0).i≠i:=λq=>by
    grind [r4,Int.toNat_natCast]
   rw[Zag,Zc2 ω,<-Zag];exact c
  ·have m:j=s.us.length:=ω;simp_all
structure Xv (s:ow) (k:Gz) (r:Bool×ow×Gz):Prop where
 i:Oc r.2.1
 l:r.2.1.pl.length=s.pl.length
 rd:r.2.2.rd.length+kU r.2.1<=k.rd.length+kU s
 f:kU r.2.1<=kU s
 th:r.2.2.w.aL=k.w.aL
 e:r.2.2.e=k.e
variable {s:ow}
def Xv.trans {k:Gz} {b:Bool} {a:ow} {k1:Gz} {r:Bool×ow×Gz} (h:Xv s k (b,a,k1)) (g:Xv a k1 r):Xv s k r:=
 ⟨g.i,g.l.trans h.l,Zav g.rd h.rd,Zav g.f h.f,g.th.trans h.th,g.e.trans h.e⟩
theorem Xw {k:Gz} {i:Int} (b x:Bool) (hs:Oc s) (h:mN s i):Xv s k (b,nK s i x,k):=by
 have a:=xi x hs.2.1 h;exact⟨JY x hs h,vz x,by grind,by grind,rfl,rfl⟩
theorem xj (ae:List aV) (aF:Int):∀(n:Nat) (s:ow) (k:Gz) (t:bA),Oc s->Xv s k (Xt ae aF n s k t)
 | 0,s,k,t,hs=>⟨hs,rfl,Zah _,Zah _,rfl,rfl⟩
 | n+1,s,k,t,hs=>by
  unfold Xt;by_cases h:mN s t.pc=false
  ·rw[Zac h];exact⟨hs,rfl,Zah _,Zah _,rfl,rfl⟩
  ·rw[Zaa h];have c:mN s t.pc:=by grind
   have a:=Xw (k:=k) false true hs c;have d:=xi true hs.2.1 c;simp only;have go:∀b,Xv s k (Xt ae aF n (nK s t.pc true) k b):=λb=>a.trans (xj ae aF n _ k b a.i)
   split
   ·exact⟨a.i,a.l,a.rd,a.f,rfl,rfl⟩
   split
   ·split
    ·exact go _
    ·exact(go { t with pc:=_ }).trans (xj ae aF n _ _ _ (go _).i)
   split
   ·exact⟨a.i,a.l,by grind,a.f,rfl,rfl⟩
   grind
theorem Xx {i:Int} {x:Bool} (h:mN s i=false):nK s i x=s:=by grind [nK]
def ls0:b5:=⟨false,0,0,0,0,0,0,0,0,0,0,[]⟩
def JZ (ae:List aV) (aF:Int):List bA->ow->Gz->ow×Gz
 | [],s,k=>(s,k)
 | t::l,s,k=>let r:=Xt ae aF (kU s+1) s k t;if r.1=true then r.2 else JZ ae aF l r.2.1 r.2.2
structure ExY where
 v:kz
 i:Int
 e:Bool
def exL (y:ExY):b5:=y.v.L.getD y.i.toNat ls0
def exK (y:ExY):Gz:=⟨{ exL y with aL:=[] },[],y.e⟩
def exS (y:ExY):ow:=⟨y.v.s.pl,fe⟩
def DM (y:ExY):ow×Gz:=JZ y.v.p.ae y.v.aF (exL y).aL (exS y) (exK y)
def vmP (v:kz):Prop:=v.s.pl.length=v.p.ae.length/\(∀x∈v.s.pl,(0:Int)<=x)/\Qgn v.p.ae
theorem J0 {l:List Int} (h:∀v∈l,(0:Int)<=v) (hl:l.length<=1000):Oc ⟨l,fe⟩/\kU ⟨l,fe⟩=l.length:=by
 have a:kU ⟨l,fe⟩=l.length:=by
  unfold kU;rw[List.countP_eq_length.2,List.length_range];intro i hi;rw[List.mem_range] at hi;refine rZ.2 ⟨ω,ω,?_⟩;cases e:Gb ⟨l,fe⟩ i with
  | false=>rfl
  | true=>
   have c:=(r4.1 e).2.2.1;have d:=Q7 (s:=⟨l,fe⟩) h (i:Int).toNat;have f:((fe.length:Nat):Int)=0:=rfl;grind
 exact⟨⟨hl,h,by rw[a];exact Za6 _,λj b=>absurd b (Zbo _)⟩,a⟩
def DN (v:kz):Nat->ow×List b5
 | 0=>(v.s,[])
 | k+1=>((DM ⟨⟨v.p,v.aF,v.L,(DN v k).1⟩,k,true⟩).1,(DN v k).2++[(DM ⟨⟨v.p,v.aF,v.L,(DN v k).1⟩,k,true⟩).2.w])
def enP (y:kz):Prop:=vmP y/\y.L.length<=1000/\∀l∈y.L,l.aL.length<=1000000
theorem xk (ae:List aV) (aF:Int):∀(l:List bA) (s:ow) (k:Gz),Oc s->Xv s k (false,JZ ae aF l s k)
 | [],s,k,hs=>⟨hs,rfl,Zah _,Zah _,rfl,rfl⟩
 | t::l,s,k,hs=>by
  have a:=xj ae aF (kU s+1) s k t hs;rw[JZ];split
  ·exact⟨a.i,a.l,a.rd,a.f,a.th,a.e⟩
  ·exact Xv.trans (b:=false) ⟨a.i,a.l,a.rd,a.f,a.th,a.e⟩ (xk ae aF l _ _ a.i)
def Q8 {y:ExY} (h:vmP y.v):(DM y).1.pl.length=y.v.p.ae.length/\(∀x∈(DM y).1.pl,(0:Int)<=x)/\(DM y).2.rd.length<=1000/\(DM y).2.w.aL=[]:=by
 obtain⟨h1,c,d⟩:=h;have g:y.v.p.ae.length<=1000:=d.1;obtain⟨b,e⟩:=J0 (l:=y.v.s.pl) c ω;have a:=xk y.v.p.ae y.v.aF (exL y).aL (exS y) (exK y) b;refine⟨a.l.trans h1,a.i.2.1,?_,a.th⟩;have f:(DM y).2.rd.length+kU (DM y).1<=0+kU ⟨y.v.s.pl,fe⟩:=a.rd;omega
theorem J3 {y:kz} (h:vmP y):∀k,vmP ⟨y.p,y.aF,y.L,(DN y k).1⟩/\(DN y k).2.length=k
 | 0=>⟨h,rfl⟩
 | k+1=>by
  have a:=J3 h k;have e:=Q8 (y:=⟨⟨y.p,y.aF,y.L,(DN y k).1⟩,k,true⟩) a.1;exact⟨⟨e.1,e.2.1,h.2.2⟩,by grind [DN]⟩
structure StY where
 v:kz
 i:Int
 r:Int
def V_ (y:StY):ExY:=⟨y.v,y.i,false⟩
def nxT (t:bA):bA:={ t with pc:=t.pc+1 }
def Qm0 (ae:List aV) (r:Int) (t:bA):Bool:=bj (ae.getD t.pc.toNat Qgl).bm r
def GA (ae:List aV) (r:Int):List bA->ow->List bA->ow×List bA
 | [],s,o=>(s,o)
 | t::l,s,o=>if Qm0 ae r t=true then GA ae r l (nK s (t.pc+1) true) (if mN s (t.pc+1)=true then o++[nxT t] else o) else GA ae r l s o
def stL (y:StY):ow×List bA:=GA y.v.p.ae y.r (DM (V_ y)).2.rd ⟨(DM (V_ y)).1.pl,fe⟩ []
def stA (y:StY):Int:=y.v.p.aj.getD y.i.toNat 0
def stR (y:StY):ow×List bA:=if (DM (V_ y)).2.w.done=true then stL y else(nK (stL y).1 (stA y) true,if mN (stL y).1 (stA y)=true then(stL y).2++[⟨stA y,-1,-1,-1,-1,-1,-1,-1,-1,-1,-1⟩] else(stL y).2)
def stW (y:StY):b5:={ (DM (V_ y)).2.w with aL:=(stR y).2 }
theorem zU {s:ow} (i:Int) (x:Bool) (hs:Oc s):Oc (nK s i x)/\(nK s i x).pl.length=s.pl.length:=by
 grind [vz,Xx,JY]
theorem s9 (ae:List aV) (r:Int):∀(l:List bA) (s:ow) (o:List bA),Oc s->Oc (GA ae r l s o).1/\(GA ae r l s o).1.pl.length=s.pl.length/\(GA ae r l s o).2.length<=o.length+l.length
 | [],s,o,hs=>⟨hs,rfl,Zah _⟩
 | t::l,s,o,hs=>by
  rw[GA];split
  ·obtain⟨a,a2⟩:=zU (t.pc+1) true hs;obtain⟨b1,b,c⟩:=s9 ae r l (nK s (t.pc+1) true) (if mN s (t.pc+1)=true then o++[nxT t] else o) a;grind
  ·obtain⟨b1,b,c⟩:=s9 ae r l s o hs;grind
def qQ (v:kz) (r:Int):Nat->kz
 | 0=>v
 | k+1=>⟨v.p,v.aF,(qQ v r k).L.set k (stW ⟨qQ v r k,k,r⟩),(stR ⟨qQ v r k,k,r⟩).1⟩
structure RnY where
 v:kz
 r:Int
 n:Int
def rnN (n:Int):Int:=ga (imax n 0) 4
def rnF (y:RnY):kz:={ qQ y.v y.r y.v.L.length with aF:=y.v.aF+rnN y.n }
theorem QcX {y:StY} (h:vmP y.v):(stR y).1.pl.length=y.v.p.ae.length/\(∀x∈(stR y).1.pl,(0:Int)<=x)/\(stR y).2.length<=1001:=by
 obtain⟨a,e2,f,g⟩:=Q8 (y:=V_ y) h;have d:y.v.p.ae.length<=1000:=h.2.2.1;replace a:(DM (V_ y)).1.pl.length=y.v.p.ae.length:=a;obtain⟨b,e⟩:=J0 (l:=(DM (V_ y)).1.pl) e2 ω;obtain⟨g1,g2,g3⟩:=s9 y.v.p.ae y.r (DM (V_ y)).2.rd ⟨(DM (V_ y)).1.pl,fe⟩ [] b;replace g2:(stL y).1.pl.length=y.v.p.ae.length:=Eq.trans g2 a;replace g1:Oc (stL y).1:=g1;replace g3:(stL y).2.length<=0+(DM (V_ y)).2.rd.length:=g3;obtain⟨c,a2⟩:=zU (stA y) true g1;unfold stR;split
 ·exact⟨g2,g1.2.1,ω⟩
 ·refine⟨a2.trans g2,c.2.1,?_⟩;grind
theorem BK {v:kz} (r:Int) (h:enP v):∀k,enP (qQ v r k)/\(qQ v r k).p=v.p/\(qQ v r k).aF=v.aF/\(qQ v r k).L.length=v.L.length
 | 0=>⟨h,rfl,rfl,rfl⟩
 | k+1=>by
  obtain⟨⟨i1,i2,i3⟩,a,b,c⟩:=BK r h k;have e:=QcX (y:=⟨qQ v r k,k,r⟩) i1;have hl:((qQ v r k).L.set k (stW ⟨qQ v r k,k,r⟩)).length=v.L.length:=by grind
  refine⟨⟨⟨e.1.trans (by grind [qQ]),e.2.1,h.1.2.2⟩,by show(List.set _ _ _).length<=1000;rw[hl];exact h.2.1,λl hl=>?_⟩,rfl,rfl,hl⟩;rcases Zb1 hl with q | q
  ·grind
  ·rw[q];have:=e.2.2;show(stR ⟨qQ v r k,k,r⟩).2.length<=1000000
   omega
def qR (l:List b5):Prop:=l.length<=1000/\∀x∈l,x.aL.length<=1000000
def lsO (n:Nat) (l:List b5):Nat×AO D.E:=(n,.arr 2 l 106 false)
def Q9:bk D:=⟨166,List b5,λa s=>match a with
 | [l]=>aA (aW D s 2 l) λl=>.ret (l:List b5)
 | _=>.fail,qR,λy=>[.own 0 12 (ah y)],λy=>[lsO 0 y],λy=>.own 1 12 (ah y),λy=>[lsO 0 y,lsO 1 y],1,2⟩
def Qm2 (y:Q9.Y):cU D:=⟨[],[6],[(58,⟨Nat,[6,7],λk=>[(3,.own 1 12 (ah (List.take k (y:List b5)))),(8,QtJ k)],[0],λk=>[lsO 1 (List.take k (y:List b5))],2,λk=>k<=List.length (y:List b5),λk=>List.length (y:List b5) -k⟩)],[],1,[]⟩
def Q' (y:List b5):Prop:=(∃z:Nat,aa [ah y,ah y] (0=ah (List.take z y)/\0=(z:Int)/\[]=List.take z y/\aa [y] ((Iv (z<=y.length)))))/\(∀x:Nat,let a:=y.length;let q1:=List.take x y;let c:=az (x:Int) (ah y);let b:=gt (b5.mk false 0 0 0 0 0 0 0 0 0 0 []) y (x:Int).toNat;let d:=ah (bM q1 [b]);(Iv (x<=a))->ak c (aI 0 (x:Int)/\c/\bF (ah b.aL) 88/\bF d 112/\∃z:Nat,aa [ah y,ah y] (d=ah (List.take z y)/\aD .i64 (x:Int) 1=(z:Int)/\bM q1 [b]=List.take z y/\aa [y] ((Iv (z<=a/\(a-z)<(a-x)))))) (ah q1=ah y/\q1=y/\RAP y (True)))
theorem Qm4 (y:List b5) (a:qR y):Q' y:=by
 unfold Q';simp only[bN,bh,aw,br,a8,di,Zad];obtain⟨h1,b⟩:=a;refine⟨⟨0,rfl,rfl,rfl,Zaj _⟩,λx c=>⟨λk=>?_,λk=>?_⟩⟩
 ·grind [List.take_append_getElem]
 ·grind
def Qgp:Ok Q9:=okZ [] f166 Qm2 trivial Qm4
structure zV where
 a:Int
 b:Int
 c:Int
 d:Int
 n:Int
def dcO (y:zV):List (Nat×AO D.E):=[(0,.cells [.int .u8 y.a,.int .u8 y.b,.int .u8 y.c,.int .u8 y.d,.int .i64 y.n] 265 false)]
def QcY (v:AV D.E) (s:St D.E):C zV:=match v with
 | .ptr b _=>aA (cN (s.h.get b)) λo=>match o with
  | .cells cs _ _=>match cs with
   | [a,b,c,d,n]=>aQ (da a) λ_ a=>aQ (da b) λ_ b=>aQ (da c) λ_ c=>aQ (da d) λ_ d=>aQ (da n) λ_ n=>.ret ⟨a,b,c,d,n⟩
   | _=>.fail
  | _=>.fail
 | _=>.fail
def dj (y:zV):By:=[b8 y.a,b8 y.b,b8 y.c,b8 y.d].take y.n.toNat
def bdG (k:Nat):List Gt:=List.replicate k (65533,1)
def dc0:zV:=⟨0,0,0,0,0⟩
def unC:bk D:=⟨163,Unit,λ_ _=>.ret (),λ_=>True,λ_=>[],λ_=>[],λ_=>.ptr 0 0,λ_=>dcO dc0,0,1⟩
def J6 (y:zV):Prop:=0<=y.n/\y.n<=4
def uhC:bk D:=⟨169,zV,λa s=>match a with
 | [p]=>QcY p s
 | _=>.fail,J6,λ_=>[.ptr 0 0],dcO,λy=>.list 0 (dj y),dcO,1,1⟩
def bg (l:By) (i:Nat):Int:=if i<l.length then((l.getD i 0).toNat:Int) else 0
def ue (l:By):zV:=⟨bg l 0,bg l 1,bg l 2,bg l 3,if l.length<=4 then l.length else 4⟩
def uoC:bk D:=⟨102,By,λa s=>F9 a s,λy=>y=[]\/h_ y,λy=>[.list 0 y],λ_=>[],λ_=>.tuple [.ptr 0 0,QtJ 0],λy=>dcO (ue y),0,1⟩
def Qgq (y:Unit):Prop:=aa ([0,0,0,0,0]:List Int) (True)
def Qgr (y:zV):Prop:=let f:=([b8 y.a]:List UInt8);let q1:=([b8 y.a,b8 y.b]:List UInt8);let g:=([b8 y.a,b8 y.b,b8 y.c]:List UInt8);let h:=([b8 y.a,b8 y.b,b8 y.c,b8 y.d]:List UInt8);let e:=λp:Prop=>RAS y.a y.b y.c y.d p;ak (aC y.n 4) (bF (ah h) 1/\h=dj y/\e (4=y.n/\True)) (ak (aC y.n 3) (bF (ah g) 1/\g=dj y/\e (3=y.n/\True)) (ak (aC y.n 2) (bF (ah q1) 1/\q1=dj y/\e (2=y.n/\True)) (ak (aC y.n 1) (bF (ah f) 1/\f=dj y/\e (1=y.n/\True)) (aC y.n 0/\Tt 1 ([]=dj y/\e (0=y.n/\True))))))
abbrev RAE (p:Prop):Prop:=aa ([0]:List Int) p
def Xz (y:List UInt8):Prop:=let a:Prop:=(Iv True/\RAE (cw (az 0 (dS y)) (sat y 0) 0=bg y 0/\cw (az 1 (dS y)) (sat y 1) 0=bg y 1/\cw (az 2 (dS y)) (sat y 2) 0=bg y 2/\cw (az 3 (dS y)) (sat y 3) 0=bg y 3/\ga 4 (dS y)=ite (y.length<=4) (y.length:Int) 4/\True));Iv True/\RAP y (ak (!(h_ y)) (ak (az 0 (ah y)) (False) (a)) (a))
theorem Qc3:Ok unC:=okZ (V:=Qgq) [] f163 (λ_=>dr ()) trivial λy a=>by
 grind [Qgq]
theorem Qm6:Ok uhC:=okZ (V:=Qgr) [] f169 (λ_=>⟨[(1,.y2 0 4 4)],[],[],[],1,[]⟩) trivial λy a=>by
 unfold Qgr;simp only[bh,je,mJ,aw,br];obtain⟨h1,b⟩:0<=y.n/\y.n<=4:=a;unfold dj;refine⟨λk=>⟨by grind,by simp_all,k.symm⟩,λ_=>⟨λk=>⟨by grind,by simp_all,k.symm⟩,λ_=>⟨λk=>⟨by grind,by simp_all,k.symm⟩,λ_=>⟨λk=>⟨by grind,by simp_all,k.symm⟩,λ_=>?_⟩⟩⟩⟩;have k:y.n=0:=ω;simp_all
theorem XA (y:By) (i:Nat):cw (az i (dS y)) (sat y i) 0=bg y i:=by
 grind [cw,bg,sat]
theorem uoH (y:By) (a:y=[]\/h_ y):Xz y:=by
 unfold Xz;simp only[bN,bh,aw,Zan,Zao];grind [ga,XA]
def Qm7:Ok uoC:=okZ [nJ,unC] f102 (λ_=>dr ()) ⟨vv,Qc3⟩ uoH
end
end sx
namespace sx
open Go Go.RowKit
variable {M:Pm D} {H:Hp D} {w w':World}
variable {a:AV D.E} {g:Nat} {A:Array Value} {l:List (AV D.E)}
def jm (a:dX M H w) (h:Below w.heap.size w w') (lo:Nat):cP H M w H M w' lo lo:=.world a h.size (λc b=>h.block c b) h.os h.tape h.output lo
theorem xl (h:LR M [a] A.toList):∃v,A=#[v]/\VR M a v:=by
 obtain⟨l⟩:=A;obtain⟨v,r,e,h1,b⟩:=h.aP;have:=b.jD;grind
theorem DO {b:AV D.E} (h:LR M [a,b] A.toList):∃v u,A=#[v,u]/\VR M a v/\VR M b u:=by
 obtain⟨l⟩:=A;obtain⟨v,r,e,h1,c⟩:=h.aP;obtain⟨u,g,e2,f,d⟩:=c.aP;have:=d.jD;grind
theorem XB (r:dX M H w) (n:Below w.heap.size w w') {o c:Nat} {xs:List (D.E c)} (B:w.heap.size<=g)
  (s:∀i v,(aY c xs)[i]?=some v->∃m,w'.cell? ⟨g,o+i,none⟩=some m/\VR M v m) (lo:Nat):cP H M w H ⟨M.pl,db M.sg g o (aY c xs)⟩ w' lo lo:=by
 have k:=cP.world r n.size (λc s=>n.block c s) n.os n.tape n.output lo;have hle:sx.Le M ⟨M.pl,db M.sg g o (aY c xs)⟩:=⟨λ_ _ h=>h,kK λq _ _=>by
  cases hs:M.sg g q with
  | none=>rfl
  | some v=>have:=r.slt hs;omega⟩
 have u:∀b f a,H b=some f->M.pl b=some a->a.real->a.bZ≠g:=λb f a h d l=>by
  obtain⟨m2,h1,x⟩:=r.obj b f h;rw[d] at h1;cases h1;have:=x.lt l;omega
 refine⟨⟨λb f h=>let ⟨a,d,z⟩:=k.fJ.obj b f h;⟨a,d,z.mono hle λ_=>rfl⟩,k.fJ.inj,λb q v h=>?_,λb f a h hw d l j y=>?_,λb c xs e a h d l=>(k.fJ.Jm b c xs e a h d l).mono hle.2,k.fJ.mb⟩,
  λ_ _=>rfl,hle.2,λb q h=>?_,k.size,k.aR,k.born,k.LK,k.os,k.tape,k.output,k.le⟩
 ·replace h:db M.sg g o (aY c xs) b q=some v:=h;unfold db at h;split at h
  ·rename_i t
   obtain⟨rfl,h1,x⟩:=t;obtain⟨m,p,e2⟩:=s _ v h;rw[show o+(q-o)=q by omega] at p;exact⟨(dY gb (ZaJ h)).2,m,p,e2.mono hle⟩
  ·obtain⟨A,m,p,e2⟩:=k.fJ.gL b q v h;exact⟨A,m,p,e2.mono hle⟩
 ·show db M.sg g o (aY c xs) a.bZ j=none
  unfold db;rw[Zaa λq=>u b f a h d l q.1];exact k.fJ.sep b f a h hw d l j y
 ·grind [mr]
theorem J7 {α:Type} {c:Nat} {f:D.E c->α} {ba:α->List Value}:∀{xs:List (D.E c)},(∀x∈xs,LR M (D.ba c x) (ba (f x)))->LR M (aY c xs) ((xs.map f).flatMap ba)
 | [],_=>.nil
 | x::xs,h=>(h x (by simp)).app (J7 (xs:=xs) λy a=>h y (by grind))
def LR.cell {v:List Value} (h:LR M l v) (e:l[g]?=some a):∃b,v[g]?=some b/\VR M a b:=h.get e
def fF {M:Pm D} {k:IntKind} {n:Int} {v:Value} (h:VR M (.int k n) v):v=.int k n:=by cases h;rfl
theorem o5 (f:dX M H w) {b:Nat} {cs:List (AV D.E)} {e:TypeId} {ro:Bool} (g:H b=some (.cells cs e ro)) {c:MI} (j:M.pl b=some c):
  c.real/\c.sh=0/\c.qu=cs.length/\∃C a,w.heap[c.bZ]?=some (.cells C e a)/\LR M cs C.toList/\(ro=false->a.1=a.2\/cs.length<=a.1/\c.jh=1):=by
 obtain⟨l,d,⟨k,hs,ht⟩,C,a,h1,n,o,p,q⟩:=f.obj b _ g;rw[j] at d;cases d;refine⟨k,hs,ht,C,a,h1,⟨(by grind),λi v r m e2=>?_⟩,λh=>by grind⟩;grind
end sx
set_option maxRecDepth 100000
set_option maxHeartbeats 4000000
namespace sx
noncomputable section
open Go Go.RowKit cls syn
def sbF (n:Nat) (y:zV):By:=[b8 y.a,b8 y.b,b8 y.c,b8 y.d].take n
def Q_ (n:Nat):bk D:=⟨167,zV,λa s=>match a with
 | [p]=>match p with
  | .sub b _ m=>bE (Nat.beq m n) (QcY (.ptr b 0) s) .fail
  | _=>.fail
 | _=>.fail,λ_=>True,λ_=>[.sub 0 0 n],dcO,λy=>.tuple [.int .i32 (cz (sbF n y)).1,QtJ (cz (sbF n y)).2,.bool (h_ (sbF n y))],dcO,1,1⟩
def XC {n:Nat} (h:n<=4) (y:zV):(sbF n y).length=n:=by unfold sbF;rw[Zar];exact Zbj h
theorem Qc4 {M e:Pm D} {k d:IntKind} {a b:Int} {c:Bool} {v:Value} (h:VR M (.tuple [.int k a,.int d b,.bool c]) v):VR e (.tuple [.int k a,.int d b,.bool c]) v:=by
 cases h with
 | tuple hl n=>
  rename_i l
  obtain⟨l⟩:=l;obtain⟨r,o,rfl,h1,f⟩:=LR.aP (M:=M) ⟨hl,n⟩;obtain⟨s,p,rfl,g,i⟩:=f.aP;obtain⟨v3,q,rfl,j,m⟩:=i.aP;obtain rfl:=m.jD;cases h1 with
  | int i1=>cases g with
   | int i2=>cases j;exact VR.CK (.cons (.int i1) (.cons (.int i2) (.cons (.bool c) .nil)))
theorem J8 (n:Nat) (h1:1<=n) (P:n<=4):Ok (Q_ n):=by
 refine⟨⟨f167,_,by kernel_rfl,cI (by kernel_rfl)⟩,λy hy M A w Q p _ R S=>?_⟩;obtain⟨v,rfl,U⟩:=xl Q;have t:∃k cap,M.pl 0=some k/\v=.slice (some ⟨k.bZ,k.sh,none⟩) n cap/\n<=cap:=by
  cases U with
  | sub h N B G=>exact⟨_,_,h,rfl,B⟩
  | oM=>omega
 obtain⟨k,cap,G,rfl,L⟩:=t;obtain⟨N,hs,ht,C,fz,hC,hl,T⟩:=o5 p (b:=0) rfl G;have H:∀j,M.sg k.bZ j=none:=λj=>p.sep 0 _ k (show cy (dcO y) 0=_ from rfl) rfl G N j trivial
 let l:By:=sbF n y
 let x:Pm D:=⟨λ_=>none,db M.sg k.bZ 0 (aY (D:=D) 0 l)⟩
 have s:yv M x:=kK λo _ _=>H o
 have r:aY (D:=D) 0 l=([AV.int .u8 y.a,.int .u8 y.b,.int .u8 y.c,.int .u8 y.d].take n:List (AV D.E)):=by
  obtain⟨v0,r0,Y,i0,hl⟩:=hl.aP;obtain⟨v1,r1,Z,i1,hl⟩:=hl.aP;obtain⟨v2,r2,e2,i2,hl⟩:=hl.aP;obtain⟨v3,r3,e3,i3,hl⟩:=hl.aP;cases i0 with
  | int i0=>cases i1 with
   | int i1=>cases i2 with
    | int i2=>cases i3 with
     | int i3=>
      have f:aY (D:=D) 0 [b8 y.a,b8 y.b,b8 y.c,b8 y.d]=[AV.int .u8 y.a,.int .u8 y.b,.int .u8 y.c,.int .u8 y.d]:=by
       show[AV.int .u8 ((b8 y.a).toNat:Int),.int .u8 ((b8 y.b).toNat:Int),.int .u8 ((b8 y.c).toNat:Int),.int .u8 ((b8 y.d).toNat:Int)]=_
       rw[mG i0,mG i1,mG i2,mG i3];rfl
      have g:=nA (D:=D) gb 0 [b8 y.a,b8 y.b,b8 y.c,b8 y.d] n;rw[f] at g;exact g.trans (by show List.take (n*1) _=_;rw[Zb8])
 have z:dX x (λ_=>none) w:=⟨λb o h=>(nomatch h),λb X o o' m m' h=>(nomatch h),λb o v h=>by
  replace h:db M.sg k.bZ 0 (aY (D:=D) 0 l) b o=some v:=h;unfold db at h;split at h
  ·rename_i F
   obtain⟨rfl,_,_⟩:=F;have q:=(dY gb (ZaJ h)).2;rw[r,Za7] at h;split at h
   ·have O:[AV.int (E:=D.E) .u8 y.a,.int .u8 y.b,.int .u8 y.c,.int .u8 y.d,.int .i64 y.n][o]?=some v:=by
     grind
    obtain⟨u,K,a2⟩:=hl.get O;exact⟨q,u,by grind [World.cell?],a2.pure q s⟩
   ·cases h
  ·obtain⟨q,u,K,a2⟩:=p.gL b o v h;exact⟨q,u,K,a2.pure q s⟩,λb o m h=>(nomatch h),λb c xs e m h=>(nomatch h),⟨p.mb.1,λb o m h=>(nomatch h)⟩⟩
 have hlen:l.length=n:=XC P y;have J:VR x (.list 0 l) (.slice (some ⟨k.bZ,k.sh,none⟩) n cap):=by
  rw[hs,<-hlen];exact VR.list (c:=0) (cx.add gb) (by show l.length<=_;omega) (by show l.length<=_;omega)
 refine vv.2 l trivial x _ w (.cons J .nil) z (λ_ _=>rfl) R λW u V I i=>S M u V (Qc4 I) ?_
 exact cP.world p i.size (λc B=>i.aR c B λ⟨b,o,m,h,_⟩=>nomatch h) i.os i.tape i.output 1
def GB (v:kz) (l:List Gt):kz:=l.foldl (λv g=>rnF ⟨v,g.1,g.2⟩) v
structure RsY where
 v:kz
 l:List Gt
def XD (v:kz) (N:Int):Prop:=enP v/\v.p.aj.length=v.L.length/\0<=v.aF/\v.aF<=N
theorem Qc5 {v:kz} {N:Int} (r n:Int) (h:XD v N):XD (rnF ⟨v,r,n⟩) (N+4):=by
 obtain⟨h1,a,d,e⟩:=h;obtain⟨i1,b,g,c⟩:=BK r h1 v.L.length;have f:0<=rnN n/\rnN n<=4:=by grind [rnN,ga,imax]
 exact⟨i1,by show(qQ v r v.L.length).p.aj.length=(qQ v r v.L.length).L.length;rw[b,c];exact a,by show 0<=v.aF+rnN n;omega,by show v.aF+rnN n<=N+4;omega⟩
theorem zW {v:kz} {l:List Gt} {x:Nat} (h:x<l.length):GB v (l.take (x+1))=rnF ⟨GB v (l.take x),l[x].1,l[x].2⟩:=by
 grind [GB,List.take_append_getElem]
theorem BL {v:kz} {N:Int} {l:List Gt} (h:XD v N):∀x,x<=l.length->XD (GB v (l.take x)) (N+4*x)
 | 0,_=>by grind [GB]
 | x+1,a=>by
  rw[zW (show x<l.length by omega)];have:=Qc5 (l[x]'ω).1 (l[x]'ω).2 (BL (l:=l) h x ω);grind
def Mq:bk D:=bP 294 Int (λa _=>in1 a) (λ_=>True) (λy=>[.int .i32 y]) λy=>.bool (iq y)
def DP:bk D:=bP 268 Int (λa _=>in1 a) (λ_=>True) (λy=>[.int .i32 y]) λy=>.list 6 (eg y)
def Ra:bk D:=bP 267 Unit (λ_ _=>.ret ()) (λ_=>True) (λ_=>[]) λ_=>.list 6 WR
def Qnb (args:List (AV D.E)):C (By×By):=match args with
 | [a,b]=>aA (gR a) λx=>aA (gR b) λz=>.ret (x,z)
 | _=>.fail
def Mr:bk D:=bP 270 (By×By) (λa _=>Qnb a) (λ_=>True) (λy=>[.str y.1,.str y.2]) λy=>.bool (ir y.1 y.2)
def XE (args:List (AV D.E)):C By:=match args with
 | [a]=>aA (gR a) λx=>.ret x
 | _=>.fail
def kV (y:By):Prop:=∀c∈y,48<=c.toNat/\c.toNat<=57
def GC:bk D:=bP 271 By (λa _=>XE a) kV (λy=>[.str y]) λy=>.tuple [QtJ (syn.ew y).1,.bool (syn.ew y).2]
def Qnd (y:GC.Y):cU D:=⟨[],[],[(122,⟨Nat,[0,10],λx=>[(4,QtJ (gV (y.take x))),(11,QtJ x)],[],λ_=>[],0,λx=>x<=y.length,λx=>y.length-x⟩)],[],1,[]⟩
structure b_ where
 i:Int
 aq:Int
 ab:Int
 au:Int
 wh:Int
def nn (s:b_):Ps:=⟨s.i.toNat,s.aq.toNat,s.ab.toNat,s.au,s.wh⟩
def zz (s:Ps):b_:=⟨s.i,s.aq,s.ab,s.au,s.wh⟩
def bQ (G:List Gt):List Int:=(List.range G.length).map (aF G)
def psO (G:List Gt) (s:b_):List (Nat×AO D.E):=[(0,.cells [.list 13 G,.list 5 (bQ G),.int .i64 s.i,.int .i64 s.aq,.int .i64 s.ab,.int .i64 s.au,.int .i64 s.wh] 190 false)]
abbrev PS:=List Gt×b_
def Qc6 (v:AV D.E) (s:St D.E):C PS:=match v with
 | .ptr b _=>aA (cN (s.h.get b)) λo=>match o with
  | .cells cs _ _=>match cs with
   | [l,_,i,o,g,e,w]=>aA (aW D s 13 l) λl=>aQ (da i) λ_ i=>aQ (da o) λ_ o=>aQ (da g) λ_ g=>aQ (da e) λ_ e=>aQ (da w) λ_ w=>.ret ((l:List Gt),⟨i,o,g,e,w⟩)
   | _=>.fail
  | _=>.fail
 | _=>.fail
def Ms (args:List (AV D.E)) (s:St D.E):C PS:=match args with
 | [p]=>Qc6 p s
 | _=>.fail
def Rb (args:List (AV D.E)) (s:St D.E):C (PS×Int):=match args with
 | [p,a]=>aA (Qc6 p s) λy=>aQ (da a) λ_ n=>.ret (y,n)
 | _=>.fail
def Qc7 (args:List (AV D.E)) (s:St D.E):C (PS×Int×Int):=match args with
 | [p,a,b]=>aA (Qc6 p s) λy=>aQ (da a) λ_ m=>aQ (da b) λ_ n=>.ret (y,m,n)
 | _=>.fail
def bw (y:PS):Prop:=y.1.length<=4096/\(0<=y.2.i/\y.2.i<=y.1.length)/\(0<=y.2.aq/\y.2.aq<=20)/\(0<=y.2.ab/\y.2.ab<=4)/\Fx y.1
abbrev xm (f:FuncId) (Y:Type) (a:Y->PS) (yn:List (AV D.E)->St D.E->C Y) (pre:Y->Prop) (args:Y->List (AV D.E)) (out:Y->b_) (res:Y->AV D.E):bk D:=⟨f,Y,yn,λy=>bw (a y)/\pre y,λy=>.ptr 0 0::args y,λy=>psO (a y).1 (a y).2,res,λy=>psO (a y).1 (out y),1,1⟩
variable {G:List Gt} {s:Ps} {i:Nat} {y:PS} {l:List (List Nd)} {a:List Rg}
def Wa:bk D:=xm 212 (PS×Int) (·.1) Rb (λ_=>True) (λy=>[.int .i32 y.2]) (λy=>y.1.2) λy=>.bool (a_ y.1.1 (nn y.1.2) y.2)
def s_:bk D:=xm 174 (PS×Int) (·.1) Rb (λ_=>True) (λy=>[.int .i32 y.2]) (λy=>zz (bp y.1.1 (nn y.1.2) y.2)) λy=>.bool (a_ y.1.1 (nn y.1.2) y.2)
def yF:bk D:=xm 263 (PS×Int) (·.1) Rb (λy=>0<=y.2/\y.2<y.1.1.length) (λy=>[QtJ y.2]) (λy=>y.1.2) λy=>.bool (fi y.1.1 y.2.toNat)
def qj:bk D:=xm 115 (PS×Int×Int) (·.1) Qc7 (λy=>0<=y.2.1/\y.2.1<y.1.1.length) (λy=>[QtJ y.2.1,QtJ y.2.2]) (λy=>zz ((nn y.1.2).ax y.1.1 y.2.1.toNat y.2.2)) λ_=>.cW
def Qni (args:List (AV D.E)) (s:St D.E):C (Int×List (List Nd)):=match args with
 | [a,b]=>aQ (da a) λ_ n=>aA (aW D s 9 b) λl=>.ret (n,(l:List (List Nd)))
 | _=>.fail
def yG:bk D:=bP 175 (Int×List (List Nd)) Qni (λy=>total y.2<=100000/\y.2.length<=100000) (λy=>[QtJ y.1,.list 9 y.2]) λy=>.list 7 (bX y.1 y.2)
def Qnj (y:yG.Y):cU D:=⟨[],[],[(122,⟨Nat,[24,25],λx=>[(5,.grow 7 ({ nd y.1 with af:=y.2.length }::(y.2.take x).flatten) 0),(26,QtJ x)],[],λ_=>[(0,.tok 7 206)],1,λx=>x<=y.2.length,λx=>y.2.length-x⟩)],[],1,[]⟩
def Re (y:Int):Prop:=let a:Prop:=(ak (aI 123 y) (aI y 126=iq y/\True) (false=iq y/\True));let q1:Prop:=(ak (aI 91 y) (ak (aI y 96) (true=iq y/\True) (a)) (a));let b:Prop:=(ak (aI 58 y) (ak (aI y 64) (true=iq y/\True) (q1)) (q1));ak (aI 33 y) (ak (aI y 47) (true=iq y/\True) (b)) (b)
def Rf (y:Int):Prop:=let a:=([(y,y)]:List (Int×Int));Iv (a.length<=100000000)/\aa [a] (aX a=eg y/\True)
def Rh (y:Unit):Prop:=Iv (1<=1000000)/\aa ([[(10,10)]]:List (List (Int×Int))) (lE [(10,10)]=WR/\True)
def Ri (y:(List UInt8)×(List UInt8)):Prop:=let a:=ir y.1 y.2;let q1:=az (dS y.1) (dS y.2);let b:=aC (dS y.1) (dS y.2);ak q1 (true=a/\True) (ak b (slt y.1 y.2=a/\True) (false=a/\True))
def J9 (y:List UInt8):Prop:=ak (az 2 (dS y)) (0=(ew y).1/\false=(ew y).2/\True) ((∃z:Nat,RAQ y (dS y) (0=gV (List.take z y)/\0=(z:Int)/\(Iv (z<=y.length))))/\(∀x:Nat,let a:=y.length;let q1:=gV (List.take x y);let b:=az (x:Int) (dS y);(Iv (x<=a))->ak b (aI 0 (x:Int)/\b/\∃z:Nat,RAQ y (dS y) (aD .i64 (iY .i64 10 q1) (vT .i64 (cQ .u8 (sat y (x:Int)) 48))=gV (List.take z y)/\aD .i64 (x:Int) 1=(z:Int)/\(Iv (z<=a/\(a-z)<(a-x))))) (q1=(ew y).1/\aI q1 30=(ew y).2/\True)))
def Qc8 (y:((List (Int×Int))×b_)×Int):Prop:=let a:=az y.1.2.i (ah y.1.1);let q1:=a_ y.1.1 (nn y.1.2) y.2;let b:=(gt (0,0) y.1.1 y.1.2.i.toNat).1;let c:Prop:=(aa [y.1.1] (aa [bQ y.1.1] (aa [y.1.2.i,y.1.2.aq,y.1.2.ab,y.1.2.au,y.1.2.wh] (True))));ak a (aI 0 y.1.2.i/\a/\aa [y.1.2.i] (aa [y.1.1,y.1.1] (aa [y.1.2.i,b] (aC b y.2=q1/\c)))) (aa [y.1.2.i] (aa [y.1.1] (false=q1/\c)))
def Rj (y:((List (Int×Int))×b_)×Int):Prop:=let a:=a_ y.1.1 (nn y.1.2) y.2;let q1:=bp y.1.1 (nn y.1.2) y.2;let b:=((q1.i:Nat):Int);let c:Prop:=(y.1.2.aq=((q1.aq:Nat):Int)/\y.1.2.ab=((q1.ab:Nat):Int)/\y.1.2.au=q1.au/\y.1.2.wh=q1.wh/\True);Iv (bw (y.1.1,y.1.2)/\True)/\aa [y.2] (aa [y.1.1] (aa [bQ y.1.1] (aa [y.1.2.i,y.1.2.aq,y.1.2.ab,y.1.2.au,y.1.2.wh] (ak a (true=a/\aa [y.1.1] (aa [bQ y.1.1] (aD .i64 y.1.2.i 1=b/\c))) (false=a/\aa [y.1.1] (aa [bQ y.1.1] (y.1.2.i=b/\c)))))))
def Rk (y:((List (Int×Int))×b_)×Int):Prop:=let a:=fi y.1.1 y.2.toNat;let q1:=gt (0,0) y.1.1 y.2.toNat;let b:Prop:=(aa [y.1.1] (aa [bQ y.1.1] (aa [y.1.2.i,y.1.2.aq,y.1.2.ab,y.1.2.au,y.1.2.wh] (True))));aI 0 y.2/\az y.2 (ah y.1.1)/\ak (aC q1.1 65533) (aI 0 y.2/\az y.2 (ah y.1.1)/\aC q1.2 1=a/\b) (false=a/\b)
def Rp (y:((List (Int×Int))×b_)×Int×Int):Prop:=let a:=bQ y.1.1;let q1:=Ps.ax y.1.1 (nn y.1.2) y.2.1.toNat y.2.2;ak (aC y.1.2.au 0) (aI 0 y.2.1/\az y.2.1 (ah a)/\aa [y.1.1] (aa [a] (y.1.2.i=((q1.i:Nat):Int)/\y.1.2.aq=((q1.aq:Nat):Int)/\y.1.2.ab=((q1.ab:Nat):Int)/\y.2.2=q1.au/\gt 0 a y.2.1.toNat=q1.wh/\True))) (aa [y.1.1] (aa [a] (y.1.2.i=((q1.i:Nat):Int)/\y.1.2.aq=((q1.aq:Nat):Int)/\y.1.2.ab=((q1.ab:Nat):Int)/\y.1.2.au=q1.au/\y.1.2.wh=q1.wh/\True)))
def J' (y:Int×(List (List Nd))):Prop:=let a:=ah y.2;let q1:=y.2.length;let b:=bX y.1 y.2;let c:=Nd.mk y.1 [] 0 0 false 0 (q1:Int);ak (aC a 0) (([Nd.mk 1 [] 0 0 false 0 0]:List Nd)=b/\True) (ak (aC a 1) (Tt 1 (az 0 a/\gt [] y.2 0=b/\True)) ((∃z:Nat,aa [y.2] (aa [a] (([Nd.mk y.1 [] 0 0 false 0 a]:List Nd)=(c::(List.flatten (List.take z y.2)))/\0=(z:Int)/\(Iv (z<=q1)))))/\(∀x:Nat,let d:=(c::(List.flatten (List.take x y.2)));let e:=bM d (gt [] y.2 (x:Int).toNat);(Iv (x<=q1))->ak (az (x:Int) a) (aI 0 (x:Int)/\az (x:Int) a/\bF (ah e) 72/\∃z:Nat,aa [y.2] (aa [a] (e=(c::(List.flatten (List.take z y.2)))/\aD .i64 (x:Int) 1=(z:Int)/\(Iv (z<=q1/\(q1-z)<(q1-x)))))) (d=b/\True))))
theorem Qgs (y:Int) (a:Mq.pre y):Re y:=by
 grind [Re,iq]
def Qgt:Ok Mq:=okZ [] f294 (λ_=>dr ()) trivial Qgs
def Qnl (y:Int) (a:DP.pre y):Rf y:=by
 unfold Rf;simp only[eN,Zai];exact⟨⟨by simp⟩,rfl⟩
def QaH (a:Ok cK):Ok DP:=okZ [cK] f268 (λ_=>dr ()) a Qnl
def Qnm (y:Unit) (a:Ra.pre y):Rh y:=by
 unfold Rh;simp only[eN,Zai];exact⟨⟨ω⟩,rfl⟩
theorem Qnn (y:By×By) (a:Mr.pre y):Ri y:=by
 unfold Ri;simp only[bN,fK,lQ];unfold ir;refine⟨λh=>?_,λh=>⟨λb=>?_,λb=>?_⟩⟩
 ·grind
 ·rw[ZaN (show ¬y.1.length<y.2.length by omega),show(y.1.length==y.2.length)=true by grind,bytesLess_eq];rfl
 ·grind
def Qgu:Ok Mr:=okZ [] f270 (λ_=>dr ()) trivial Qnn
theorem Rq (r:Int) (h:s.i<G.length):a_ G s r=decide ((G.getD s.i (0,0)).1=r):=by
 grind [a_]
theorem BM (r:Int) (h:G.length<=s.i):a_ G s r=false:=by
 grind [a_]
theorem z_n {s:b_} (h:0<=s.i) (a:0<=s.aq) (b:0<=s.ab):zz (nn s)=s:=by
 obtain⟨i,o,g,e,w⟩:=s;simp only at h a b;unfold zz nn;grind
def isH (y:PS×Int) (b:Wa.pre y):Qc8 y:=by
 obtain⟨⟨h1,a,_⟩,_⟩:=b;have a:0<=y.1.2.i/\y.1.2.i<=y.1.1.length:=a;unfold Qc8;simp only[fK,eV,mI,gx,aw,gt];refine⟨λh=>⟨a.1,h,?_⟩,λh=>?_⟩
 ·rw[Rq (s:=nn y.1.2) y.2 (show y.1.2.i.toNat<y.1.1.length by omega)];rfl
 ·rw[BM (s:=nn y.1.2) y.2 (show y.1.1.length<=y.1.2.i.toNat by omega)]
def isOk:Ok Wa:=okZ [] f212 (λ_=>dr ()) trivial isH
theorem Qno (y:PS×Int) (d:s_.pre y):Rj y:=by
 obtain⟨h0,_⟩:=d;obtain⟨h1,a,b,c⟩:=id h0;have h1:y.1.1.length<=4096:=h1;have a:0<=y.1.2.i/\y.1.2.i<=y.1.1.length:=a;have hz:=z_n (s:=y.1.2) a.1 b.1 c.1.1;unfold Rj;simp only[fK];refine⟨⟨h0⟩,λh=>?_,λh=>?_⟩
 ·unfold bp;rw[Zac h,h];refine⟨rfl,?_,ZaR b_.aq hz.symm,ZaR b_.ab hz.symm,rfl,rfl⟩;rw[bG ω ω];show _=((y.1.2.i.toNat+1:Nat):Int)
  omega
 ·unfold bp;rw[Zaa (by grind),h];exact⟨rfl,ZaR b_.i hz.symm,ZaR b_.aq hz.symm,ZaR b_.ab hz.symm,rfl,rfl⟩
def zX:Ok s_:=okZ [Wa] f174 (λ_=>dr ()) isOk Qno
theorem J_ (h:i<G.length):fi G i=(decide ((G.getD i (0,0)).1=65533)&&decide ((G.getD i (0,0)).2=1)):=by
 grind [fi]
theorem Qnp (y:PS×Int) (b:yF.pre y):Rk y:=by
 obtain⟨_,h1,a⟩:=b;have h1:0<=y.2:=h1;have a:y.2<y.1.1.length:=a;unfold Rk;simp only[bN,fK,aw,gt];grind [J_]
def Rr:Ok yF:=okZ [] f263 (λ_=>dr ()) trivial Qnp
theorem xn (G:List Gt):(bQ G).length=G.length:=by grind [bQ]
theorem Ka (h:i<G.length) (d:Int):(bQ G).getD i d=aF G i:=by
 grind [bQ]
def Qnq (y:PS×Int×Int) (d:qj.pre y):Rp y:=by
 obtain⟨⟨_,g2,g3,g4⟩,h1,a⟩:=d;have h1:0<=y.2.1:=h1;have a:y.2.1<y.1.1.length:=a;have hz:=z_n (s:=y.1.2) g2.1 g3.1 g4.1.1;have b:=ZaR b_.i hz.symm;have e2:=ZaR b_.aq hz.symm;have c:=ZaR b_.ab hz.symm;unfold Rp;simp only[bN,fK,aw,gt,xn];rw[Ka (show y.2.1.toNat<y.1.1.length by omega)];unfold Ps.ax;refine⟨λh=>?_,λh=>?_⟩
 ·rw[Zac (show(nn y.1.2).au=0 from h)];exact⟨h1,a,b,e2,c,rfl,rfl⟩
 ·rw[Zaa (show ¬(nn y.1.2).au=0 from h)];exact⟨b,e2,c,rfl,rfl⟩
def uf:Ok qj:=okZ [] f115 (λ_=>dr ()) trivial Qnq
theorem XO (i:Nat):(l.take i).flatten.length<=total l:=by
 grind [total,List.take_append_drop]
theorem zY (h:i<l.length):(l.take i).flatten++l.getD i []=(l.take (i+1)).flatten:=by
 grind [List.take_succ]
theorem Qgv (y:Int×List (List Nd)) (f:yG.pre y):J' y:=by
 obtain⟨op,l⟩:=y;obtain⟨h1,g⟩:total l<=100000/\l.length<=100000:=f;unfold J';simp only[bN,fK,aw,gt,a8,br,Zad];refine⟨λh=>?_,λh=>⟨λc=>⟨ω,?_⟩,λc=>⟨⟨0,rfl,rfl,⟨ω⟩⟩,λx e=>⟨λd=>⟨ω,d,?_,x+1,?_,bG ω ω,⟨⟨ω,ω⟩⟩⟩,λd=>?_⟩⟩⟩⟩
 ·obtain rfl:l=[]:=Zap ω;rfl
 ·obtain⟨a,rfl⟩:=List.length_eq_one_iff.1 (show l.length=1 by omega);rfl
 ·grind [XO,zY]
 ·grind [zY]
 ·have e:=e.out;rw[ZaA ω]
  match l,h,c with
  | [],h,_=>exact absurd rfl h
  | [a],_,c=>exact absurd rfl c
  | a::b::t,_,_=>rfl
def QaI:Ok yG:=okZ [] f175 Qnj trivial Qgv
theorem Rs {y:By} (h:i<y.length):gV (y.take (i+1))=10*gV (y.take i)+(((y.getD i 0).toNat:Int) -48):=by
 grind [gV,List.take_succ]
theorem Qda {y:By} (h:kV y) (hl:y.length<=2):0<=gV y/\gV y<=99:=by
 match y,h,hl with
 | [],_,_=>simp[gV]
 | [a],h,_=>
  have:=h a (by simp);simp[gV];omega
 | [a,b],h,_=>
  have:=h a (by simp);have:=h b (by simp);simp[gV];omega
theorem Qgw (y:By) (a:GC.pre y):J9 y:=by
 have a:kV y:=a;unfold J9;simp only[fK,eV,mI,gx,lQ];unfold syn.ew;refine⟨λh=>?_,λh=>⟨⟨0,by rfl,rfl,⟨ω⟩⟩,λx g=>⟨λd=>⟨ω,d,x+1,?_,bG ω ω,⟨⟨ω,ω⟩⟩⟩,λd=>?_⟩⟩⟩
 ·grind
 ·have b:x<y.length:=ω;rw[Rs b];have e:=a (y.getD x 0) (by grind);have f:=Qda (y:=y.take x) (λc e=>a c (Zcg e)) (by grind);have es:sat y (x:Int)=((y.getD x 0).toNat:Int):=by rfl
  grind [cQ,dE,cH,Cp,sJ,vT]
 ·grind
def Qgx:Ok GC:=okZ [] f271 Qnd trivial Qgw
def QaJ (k:PS->Bool) (args:List (AV D.E)) (s:St D.E):C (PS×Bool):=aA (Ms args s) λp=>.split (k p) (.ret (p,true)) (.ret (p,false))
def DQ (y:PS):Bool:=decide ((d_ y.1 (nn y.2)).2.1=[])
def Qgy (z:Bool) (l:List Rg) (b:Bool):AV D.E:=match z with
 | true=>.tuple [.cW,.bool false]
 | false=>.tuple [.list 6 l,.bool b]
def GD (y:PS×Bool):Prop:=y.1.2.i<y.1.1.length/\y.2=DQ y.1
def yH:bk D:=xm 266 (PS×Bool) (·.1) (QaJ DQ) GD (λ_=>[]) (λy=>zz (d_ y.1.1 (nn y.1.2)).1) λy=>Qgy y.2 (d_ y.1.1 (nn y.1.2)).2.1 (d_ y.1.1 (nn y.1.2)).2.2
def xp (y:PS):Bool:=decide ((b7 y.1 (nn y.2)).2.1=[])
def Mu (y:PS×Bool):Prop:=y.1.2.i<y.1.1.length/\y.2=xp y.1
def GF:bk D:=xm 305 (PS×Bool) (·.1) (QaJ xp) Mu (λ_=>[]) (λy=>zz (b7 y.1.1 (nn y.1.2)).1) λy=>Qgy y.2 (b7 y.1.1 (nn y.1.2)).2.1 (b7 y.1.1 (nn y.1.2)).2.2
def GG (y:(List (Int×Int))×b_):Prop:=let j:=(y.1.length:Int);let q1:=aD .i64 y.2.i 1;let e:=(d_ y.1 (nn y.2)).1;let n:=aD .i64 q1 1;let o:=fi y.1 q1.toNat;let k:=((e.ab:Nat):Int);let l:=((e.aq:Nat):Int);let m:=((e.i:Nat):Int);let q:=aI (ah y.1) q1;let h:=b_.mk q1 y.2.aq y.2.ab y.2.au y.2.wh;let a:=(gt (0,0) y.1 q1.toNat).1;let g:=b_.mk n y.2.aq y.2.ab y.2.au y.2.wh;let b:=Ps.ax y.1 (nn h) y.2.i.toNat 4;let c:=Ps.ax y.1 (nn h) q1.toNat 4;let d:=Ps.ax y.1 (nn g) y.2.i.toNat 4;let f:=λp:Prop=>aa [y.1] (aa [bQ y.1] p);aa [q1] (aa [y.1] (ak q (Iv (bw (y.1,h)/\0<=y.2.i/\y.2.i<j)/\aa ([y.2.i,4]:List Int) (aa [y.1] (aa [bQ y.1] (aa [q1,y.2.aq,y.2.ab,y.2.au,y.2.wh] (false=false/\f (((b.i:Nat):Int)=m/\((b.aq:Nat):Int)=l/\((b.ab:Nat):Int)=k/\b.au=e.au/\b.wh=e.wh/\True)))))) (Iv (bw (y.1,h)/\0<=q1/\q1<j)/\aa [q1] (aa [y.1] (aa [bQ y.1] (aa [q1,y.2.aq,y.2.ab,y.2.au,y.2.wh] (ak o (Iv (bw (y.1,h)/\0<=q1/\q1<j)/\aa ([q1,4]:List Int) (aa [y.1] (aa [bQ y.1] (aa [q1,y.2.aq,y.2.ab,y.2.au,y.2.wh] (false=false/\f (((c.i:Nat):Int)=m/\((c.aq:Nat):Int)=l/\((c.ab:Nat):Int)=k/\c.au=e.au/\c.wh=e.wh/\True)))))) (aI 0 q1/\az q1 (ah y.1)/\aa [y.1] (aa [q1,a] (ak (aC a 110) (Iv True/\aa ([10]:List Int) (False)) (ak (aC a 116) (Iv True/\aa ([9]:List Int) (False)) (ak (aC a 114) (Iv True/\aa ([13]:List Int) (False)) (ak (aC a 100) (Iv (1<=100000000)/\aa ([[(48,57)]]:List (List (Int×Int))) (False)) (ak (aC a 115) (Iv (3<=100000000)/\aa ([[(9,10),(13,13),(32,32)]]:List (List (Int×Int))) (False)) (ak (aC a 119) (Iv (4<=100000000)/\aa ([[(48,57),(65,90),(95,95),(97,122)]]:List (List (Int×Int))) (False)) (Iv True/\aa [a] (ak (!(iq a)) (Iv (bw (y.1,g)/\0<=y.2.i/\y.2.i<j)/\aa ([y.2.i,4]:List Int) (aa [y.1] (aa [bQ y.1] (aa [n,y.2.aq,y.2.ab,y.2.au,y.2.wh] (false=false/\f (((d.i:Nat):Int)=m/\((d.aq:Nat):Int)=l/\((d.ab:Nat):Int)=k/\d.au=e.au/\d.wh=e.wh/\True)))))) (Iv True/\aa [a] (False)))))))))))))))))))
def GH (y:(List (Int×Int))×b_):Prop:=let l:=(y.1.length:Int);let q1:=d_ y.1 (nn y.2);let b:=aD .i64 y.2.i 1;let q:=aD .i64 b 1;let r:=fi y.1 b.toNat;let m:=((q1.1.ab:Nat):Int);let h:=q1.2.1;let n:=((q1.1.i:Nat):Int);let o:=((q1.1.aq:Nat):Int);let s:=aI (ah y.1) b;let d:=b_.mk b y.2.aq y.2.ab y.2.au y.2.wh;let a:=(gt (0,0) y.1 b.toNat).1;let k:=b_.mk q y.2.aq y.2.ab y.2.au y.2.wh;let e:=Ps.ax y.1 (nn d) y.2.i.toNat 4;let f:=Ps.ax y.1 (nn k) y.2.i.toNat 4;let g:=Ps.ax y.1 (nn d) b.toNat 4;let j:=λp:Prop=>aa [y.1] (aa [bQ y.1] p);let c:Prop:=(j (q=n/\y.2.aq=o/\y.2.ab=m/\y.2.au=q1.1.au/\y.2.wh=q1.1.wh/\True));aa [b] (aa [y.1] (ak s (Iv (bw (y.1,d)/\0<=y.2.i/\y.2.i<l)/\aa ([y.2.i,4]:List Int) (aa [y.1] (aa [bQ y.1] (aa [b,y.2.aq,y.2.ab,y.2.au,y.2.wh] ([]=h/\false=q1.2.2/\j (((e.i:Nat):Int)=n/\((e.aq:Nat):Int)=o/\((e.ab:Nat):Int)=m/\e.au=q1.1.au/\e.wh=q1.1.wh/\True)))))) (Iv (bw (y.1,d)/\0<=b/\b<l)/\aa [b] (aa [y.1] (aa [bQ y.1] (aa [b,y.2.aq,y.2.ab,y.2.au,y.2.wh] (ak r (Iv (bw (y.1,d)/\0<=b/\b<l)/\aa ([b,4]:List Int) (aa [y.1] (aa [bQ y.1] (aa [b,y.2.aq,y.2.ab,y.2.au,y.2.wh] ([]=h/\false=q1.2.2/\j (((g.i:Nat):Int)=n/\((g.aq:Nat):Int)=o/\((g.ab:Nat):Int)=m/\g.au=q1.1.au/\g.wh=q1.1.wh/\True)))))) (aI 0 b/\az b (ah y.1)/\aa [y.1] (aa [b,a] (ak (aC a 110) (Iv True/\aa ([10]:List Int) (eg 10=h/\true=q1.2.2/\c)) (ak (aC a 116) (Iv True/\aa ([9]:List Int) (eg 9=h/\true=q1.2.2/\c)) (ak (aC a 114) (Iv True/\aa ([13]:List Int) (eg 13=h/\true=q1.2.2/\c)) (ak (aC a 100) (Iv (1<=100000000)/\aa ([[(48,57)]]:List (List (Int×Int))) (aX [(48,57)]=h/\false=q1.2.2/\c)) (ak (aC a 115) (Iv (3<=100000000)/\aa ([[(9,10),(13,13),(32,32)]]:List (List (Int×Int))) (aX [(9,10),(13,13),(32,32)]=h/\false=q1.2.2/\c)) (ak (aC a 119) (Iv (4<=100000000)/\aa ([[(48,57),(65,90),(95,95),(97,122)]]:List (List (Int×Int))) (aX [(48,57),(65,90),(95,95),(97,122)]=h/\false=q1.2.2/\c)) (Iv True/\aa [a] (ak (!(iq a)) (Iv (bw (y.1,k)/\0<=y.2.i/\y.2.i<l)/\aa ([y.2.i,4]:List Int) (aa [y.1] (aa [bQ y.1] (aa [q,y.2.aq,y.2.ab,y.2.au,y.2.wh] ([]=h/\false=q1.2.2/\j (((f.i:Nat):Int)=n/\((f.aq:Nat):Int)=o/\((f.ab:Nat):Int)=m/\f.au=q1.1.au/\f.wh=q1.1.wh/\True)))))) (Iv True/\aa [a] (eg a=h/\true=q1.2.2/\c)))))))))))))))))))
def GI (y:(List (Int×Int))×b_):Prop:=let g:=y.2.i.toNat;let q1:=(y.1,y.2);let e:=(d_ y.1 (nn y.2)).1;let a:=(b7 y.1 (nn y.2)).1;let h:=((a.aq:Nat):Int);let j:=((a.ab:Nat):Int);let k:=((a.i:Nat):Int);let f:=Ps.ax y.1 (nn y.2) g 4;let c:=(gt (0,0) y.1 g).1;let l:=λp:Prop=>aa [y.1] (aa [bQ y.1] (aa [y.2.i,y.2.aq,y.2.ab,y.2.au,y.2.wh] p));let d:=λp:Prop=>aa [y.1] (aa [bQ y.1] p);let b:Prop:=(false=false/\d (y.2.i=k/\y.2.aq=h/\y.2.ab=j/\y.2.au=a.au/\y.2.wh=a.wh/\True));Iv (bw q1/\0<=y.2.i/\y.2.i<(y.1.length:Int))/\aa [y.2.i] (aa [y.1] (aa [bQ y.1] (aa [y.2.i,y.2.aq,y.2.ab,y.2.au,y.2.wh] (ak (fi y.1 g) (Iv (bw q1/\0<=y.2.i/\y.2.i<(y.1.length:Int))/\aa ([y.2.i,4]:List Int) (aa [y.1] (aa [bQ y.1] (aa [y.2.i,y.2.aq,y.2.ab,y.2.au,y.2.wh] (false=false/\d (((f.i:Nat):Int)=k/\((f.aq:Nat):Int)=h/\((f.ab:Nat):Int)=j/\f.au=a.au/\f.wh=a.wh/\True)))))) (aI 0 y.2.i/\az y.2.i (ah y.1)/\aa [y.1] (aa [y.2.i,c] (ak (aC c 92) (ak (DQ q1) (Iv (bw q1/\GD (q1,true))/\l (false=false/\d (((e.i:Nat):Int)=k/\((e.aq:Nat):Int)=h/\((e.ab:Nat):Int)=j/\e.au=a.au/\e.wh=a.wh/\True))) (Iv (bw q1/\GD (q1,false))/\l (False))) (ak (aC c 91) (ak (aC c 91) (b) (False)) (ak (aC c 93) (ak (aC c 93) (b) (False)) (ak (aC c 45) (b) (False)))))))))))
def GJ (y:(List (Int×Int))×b_):Prop:=let l:=y.2.i.toNat;let q1:=d_ y.1 (nn y.2);let a:=b7 y.1 (nn y.2);let f:=(y.1,y.2);let m:=((a.1.ab:Nat):Int);let n:=((a.1.aq:Nat):Int);let k:=((a.1.i:Nat):Int);let j:=Ps.ax y.1 (nn y.2) l 4;let b:=(gt (0,0) y.1 l).1;let o:=λp:Prop=>aa [y.1] (aa [bQ y.1] (aa [y.2.i,y.2.aq,y.2.ab,y.2.au,y.2.wh] p));let c:=λp:Prop=>aa [y.1] (aa [bQ y.1] p);let g:Prop:=(y.2.aq=n/\y.2.ab=m/\y.2.au=a.1.au/\y.2.wh=a.1.wh/\True);let d:Prop:=([]=a.2.1/\false=a.2.2/\c (y.2.i=k/\g));let h:Prop:=(c (((q1.1.i:Nat):Int)=k/\((q1.1.aq:Nat):Int)=n/\((q1.1.ab:Nat):Int)=m/\q1.1.au=a.1.au/\q1.1.wh=a.1.wh/\True));let e:Prop:=(([(b,b)]:List (Int×Int))=a.2.1/\true=a.2.2/\c (aD .i64 y.2.i 1=k/\g));Iv (bw f/\0<=y.2.i/\y.2.i<(y.1.length:Int))/\aa [y.2.i] (aa [y.1] (aa [bQ y.1] (aa [y.2.i,y.2.aq,y.2.ab,y.2.au,y.2.wh] (ak (fi y.1 l) (Iv (bw f/\0<=y.2.i/\y.2.i<(y.1.length:Int))/\aa ([y.2.i,4]:List Int) (aa [y.1] (aa [bQ y.1] (aa [y.2.i,y.2.aq,y.2.ab,y.2.au,y.2.wh] ([]=a.2.1/\false=a.2.2/\c (((j.i:Nat):Int)=k/\((j.aq:Nat):Int)=n/\((j.ab:Nat):Int)=m/\j.au=a.1.au/\j.wh=a.1.wh/\True)))))) (aI 0 y.2.i/\az y.2.i (ah y.1)/\aa [y.1] (aa [y.2.i,b] (ak (aC b 92) (ak (DQ f) (Iv (bw f/\GD (f,true))/\o ([]=a.2.1/\false=a.2.2/\h)) (Iv (bw f/\GD (f,false))/\o (q1.2.1=a.2.1/\q1.2.2=a.2.2/\h))) (ak (aC b 91) (ak (aC b 91) (d) (e)) (ak (aC b 93) (ak (aC b 93) (d) (e)) (ak (aC b 45) (d) (e)))))))))))
theorem r5 {s:b_} (h:0<=s.i):nn ⟨s.i+1,s.aq,s.ab,s.au,s.wh⟩=(nn s).next:=by
 unfold nn Ps.next;grind
theorem Kb (a:Fx G) (b:Nat) (hi:i<G.length) (c:iq (aK G i)\/aK G i=110\/aK G i=116\/aK G i=114\/aK G i=100\/aK G i=115\/aK G i=119) (hw:aX [(48,57),(65,90),(95,95),(97,122)]≠[]):(mA G s b (aK G i)).2.1≠[]:=by
 unfold mA
 repeat' split
 ·rw[a.n];simp
 ·rw[a.t];simp
 ·rw[a.r];simp
 ·rw[a.d];simp
 ·exact a.s0
 ·exact hw
 ·rw[a.one i hi];simp
 ·grind
theorem tc (h:G.length<=s.i+1):d_ G s=(s.next.ax G s.i 4,[],false):=Zac h
theorem te (h:s.i+1<G.length) (a:fi G (s.i+1)):d_ G s=(s.next.ax G (s.i+1) 4,[],false):=(Zaa (show ¬G.length<=s.next.i from Nat.not_le.2 h)).trans (Zac a)
theorem xq (h:s.i+1<G.length) (a:fi G (s.i+1)=false):d_ G s=mA G s.next.next s.i (aK G (s.i+1)):=(Zaa (show ¬G.length<=s.next.i from Nat.not_le.2 h)).trans (Zaa (show ¬fi G s.next.i=true by simp_all))
theorem QgD (y:PS) (n:yH.pre (y,false)):GH y:=by
 obtain⟨h0,hi,hk⟩:=n;have h0:bw y:=h0;have hi:y.2.i<y.1.length:=hi;obtain⟨c,a2,a3,a4,d⟩:=id h0;have g:aD IntKind.i64 y.2.i 1=y.2.i+1:=bG ω ω;have l:aD IntKind.i64 (y.2.i+1) 1=y.2.i+1+1:=bG ω ω;have j:(y.2.i+1).toNat=(nn y.2).i+1:=by show _=y.2.i.toNat+1;omega
 have f:y.2.i.toNat=(nn y.2).i:=rfl;have m:=r5 (s:=y.2) a2.1;have a:=r5 (s:=⟨y.2.i+1,y.2.aq,y.2.ab,y.2.au,y.2.wh⟩) (show 0<=y.2.i+1 by omega);unfold GH;simp only[bN,fK,g,l,j,f,m,a,aw,gt,Zan,Zao];have o:(y.2.i+1<=y.1.length)->bw (y.1,⟨y.2.i+1,y.2.aq,y.2.ab,y.2.au,y.2.wh⟩):=λh=>⟨c,⟨show 0<=y.2.i+1 by omega,h⟩,a3,a4,d⟩
 have zi:y.2.i+1+1=((nn y.2).next.next.i:Int):=by show _=((y.2.i.toNat+1+1:Nat):Int);omega
 have zo:y.2.aq=((nn y.2).next.next.aq:Int):=by show _=((y.2.aq.toNat:Nat):Int);omega
 have zg:y.2.ab=((nn y.2).next.next.ab:Int):=by show _=((y.2.ab.toNat:Nat):Int);omega
 have p:(nn y.2).i=y.2.i.toNat:=rfl;refine⟨λh=>?_,λh=>⟨⟨o ω,ω,h⟩,λe=>?_,λe=>⟨ω,h,?_⟩⟩⟩
 ·grind [tc]
 ·grind [te]
 ·rw[xq ω e];have b:(y.1.getD ((nn y.2).i+1) (0,0)).1=aK y.1 ((nn y.2).i+1):=rfl;rw[b];generalize aK y.1 ((nn y.2).i+1)=r;unfold mA;refine⟨λk=>by rw[Zac k];exact⟨⟨trivial⟩,rfl,rfl,zi,zo,zg,rfl,rfl⟩,λk=>?_⟩;rw[Zaa k];refine⟨λk=>by rw[Zac k];exact⟨⟨trivial⟩,rfl,rfl,zi,zo,zg,rfl,rfl⟩,λk=>?_⟩;rw[Zaa k];refine⟨λk=>by rw[Zac k];exact⟨⟨trivial⟩,rfl,rfl,zi,zo,zg,rfl,rfl⟩,λk=>?_⟩;rw[Zaa k];refine⟨λk=>by rw[Zac k];exact⟨⟨ω⟩,rfl,rfl,zi,zo,zg,rfl,rfl⟩,λk=>?_⟩;rw[Zaa k];refine⟨λk=>by rw[Zac k];exact⟨⟨ω⟩,rfl,rfl,zi,zo,zg,rfl,rfl⟩,λk=>?_⟩;rw[Zaa k];refine⟨λk=>by rw[Zac k];exact⟨⟨ω⟩,rfl,rfl,zi,zo,zg,rfl,rfl⟩,λk=>?_⟩;rw[Zaa k];refine⟨⟨trivial⟩,λk=>?_,λk=>?_⟩
  ·rw[Zaa (by grind)];exact⟨⟨⟨c,⟨show 0<=y.2.i+1+1 by omega,show y.2.i+1+1<=(y.1.length:Int) by omega⟩,a3,a4,d⟩,a2.1,hi⟩,rfl,rfl,rfl,rfl,rfl,rfl,rfl⟩
  ·rw[Zac k];exact⟨⟨trivial⟩,rfl,rfl,zi,zo,zg,rfl,rfl⟩
theorem QgE (y:PS) (n:yH.pre (y,true)):GG y:=by
 obtain⟨h0,hi,hk⟩:=n;have h0:bw y:=h0;have hi:y.2.i<y.1.length:=hi;obtain⟨d,a2,a3,a4,a⟩:=id h0;have g:aD IntKind.i64 y.2.i 1=y.2.i+1:=bG ω ω;have l:aD IntKind.i64 (y.2.i+1) 1=y.2.i+1+1:=bG ω ω;have j:(y.2.i+1).toNat=(nn y.2).i+1:=by show _=y.2.i.toNat+1;omega
 have f:y.2.i.toNat=(nn y.2).i:=rfl;have m:=r5 (s:=y.2) a2.1;have b:=r5 (s:=⟨y.2.i+1,y.2.aq,y.2.ab,y.2.au,y.2.wh⟩) (show 0<=y.2.i+1 by omega);unfold GG;simp only[bN,fK,g,l,j,f,m,b,aw,gt,Zan,Zao];have o:(y.2.i+1<=y.1.length)->bw (y.1,⟨y.2.i+1,y.2.aq,y.2.ab,y.2.au,y.2.wh⟩):=λh=>⟨d,⟨show 0<=y.2.i+1 by omega,h⟩,a3,a4,a⟩
 have zi:y.2.i+1+1=((nn y.2).next.next.i:Int):=by show _=((y.2.i.toNat+1+1:Nat):Int);omega
 have zo:y.2.aq=((nn y.2).next.next.aq:Int):=by show _=((y.2.aq.toNat:Nat):Int);omega
 have zg:y.2.ab=((nn y.2).next.next.ab:Int):=by show _=((y.2.ab.toNat:Nat):Int);omega
 have p:(nn y.2).i=y.2.i.toNat:=rfl;refine⟨λh=>?_,λh=>⟨⟨o ω,ω,h⟩,λe=>?_,λe=>⟨ω,h,?_⟩⟩⟩
 ·grind [tc]
 ·grind [te]
 ·have hk:(d_ y.1 (nn y.2)).2.1=[]:=ZaH hk.symm;rw[xq ω e] at hk ⊢;have no:=λh=>Kb a (s:=(nn y.2).next.next) (nn y.2).i (i:=(nn y.2).i+1) ω h a.w0 hk
  have c:(y.1.getD ((nn y.2).i+1) (0,0)).1=aK y.1 ((nn y.2).i+1):=rfl;rw[c];refine⟨λk=>(no (.inr (.inl k))).elim,λk1=>⟨λk=>(no (.inr (.inr (.inl k)))).elim,λk2=>⟨λk=>(no (.inr (.inr (.inr (.inl k))))).elim,λk3=>⟨λk=>(no (.inr (.inr (.inr (.inr (.inl k)))))).elim,λk4=>⟨λk=>(no (.inr (.inr (.inr (.inr (.inr (.inl k))))))).elim,λk5=>⟨λk=>(no (.inr (.inr (.inr (.inr (.inr (.inr k))))))).elim,λk6=>⟨⟨trivial⟩,λk=>?_,λk=>(no (.inl k)).elim⟩⟩⟩⟩⟩⟩⟩;unfold mA;rw[Zaa k1,Zaa k2,Zaa k3,Zaa k4,Zaa k5,Zaa k6,Zaa (by grind)];exact⟨⟨⟨d,⟨show 0<=y.2.i+1+1 by omega,show y.2.i+1+1<=(y.1.length:Int) by omega⟩,a3,a4,a⟩,a2.1,hi⟩,trivial,rfl,rfl,rfl,rfl,rfl⟩
def uC {k:bk D} {X:Type} {fn:Func} {tab:s6} {a:k.Y->cU D} (e:k.Y->X×Bool) (e2:X×Bool->k.Y) (l:∀y,e2 (e y)=y) {T F:X->Prop} (i:∀x,T x=vc tab fn k a (e2 (x,true))) (h:∀x,F x=vc tab fn k a (e2 (x,false))) (ht:Qk tab)
  (h1:∀x,k.pre (e2 (x,true))->T x) (g:∀x,k.pre (e2 (x,false))->F x) (d:Tryz.prog.funcs[k.f]?=some fn:=by kernel_rfl) (j:fn.body.isSome:=by kernel_rfl):Ok k:=
 cn (V:=λy=>vc tab fn k a y) (λ_=>rfl) ht (λy c=>by
  show vc tab fn k a y
  rw[<-l y] at c ⊢;generalize e y=p at c ⊢;obtain⟨x,b⟩:=p;cases b with
  | true=>rw[<-i];exact h1 x c
  | false=>rw[<-h];exact g x c) d j
def QtT {k:bk D} {X:Type} {T F:X->Prop} (tab:s6) (fn:Func) (a:k.Y->cU D) (e:k.Y->X×Bool) (e2:X×Bool->k.Y) (i:∀y,e2 (e y)=y) (ht:Qk tab) (h1:∀x,k.pre (e2 (x,true))->T x) (c:∀x,k.pre (e2 (x,false))->F x)
  (g:∀x,T x=vc tab fn k a (e2 (x,true)):=by intro x;kernel_rfl) (d:∀x,F x=vc tab fn k a (e2 (x,false)):=by intro x;kernel_rfl) (b:Tryz.prog.funcs[k.f]?=some fn:=by kernel_rfl) (h:fn.body.isSome:=by kernel_rfl):Ok k:=uC e e2 i g d ht h1 c b h
def QaK (a:Ok cK):Ok yH:=QtT (k:=yH) (T:=GG) (F:=GH) [qj,yF,DP,cK,Mq] f266 (λ_=>dr ()) id id (λ_=>rfl) ⟨uf,Rr,QaH a,a,Qgt⟩ QgE QgD
theorem xr (h:fi G s.i):b7 G s=(s.ax G s.i 4,[],false):=Zac h
theorem mS (h:fi G s.i=false) (a:aK G s.i=92):b7 G s=d_ G s:=(Zaa (by grind)).trans (Zac a)
theorem gH (h:fi G s.i=false) (h0:aK G s.i≠92) (a:aK G s.i=91\/aK G s.i=93\/aK G s.i=45):b7 G s=(s,[],false):=(Zaa (by grind)).trans ((Zaa h0).trans (Zac a))
theorem xt (h:fi G s.i=false) (h0:aK G s.i≠92) (a:¬(aK G s.i=91\/aK G s.i=93\/aK G s.i=45)):b7 G s=(s.next,[(aK G s.i,aK G s.i)],true):=(Zaa (by grind)).trans ((Zaa h0).trans (Zaa a))
theorem QgF (y:PS) (g:GF.pre (y,false)):GJ y:=by
 obtain⟨h0,hi,hk⟩:=g;have h0:bw y:=h0;have hi:y.2.i<y.1.length:=hi;have hk:false=xp y:=hk;obtain⟨j,a2,a3,a4,l⟩:=id h0;have f:aD IntKind.i64 y.2.i 1=y.2.i+1:=bG ω ω;have d:y.2.i.toNat=(nn y.2).i:=rfl;have zi:y.2.i=((nn y.2).i:Int):=ω;have h:y.2.i+1=((nn y.2).next.i:Int):=by simp_all
 have zo:y.2.aq=((nn y.2).aq:Int):=by show _=((y.2.aq.toNat:Nat):Int);omega
 have zg:y.2.ab=((nn y.2).ab:Int):=by show _=((y.2.ab.toNat:Nat):Int);omega
 have c:(y.1.getD (nn y.2).i (0,0)).1=aK y.1 (nn y.2).i:=rfl;unfold GJ;simp only[bN,fK,f,d,c,aw,gt];refine⟨⟨h0,a2.1,hi⟩,λa=>?_,λa=>⟨a2.1,hi,λb=>⟨λq=>?_,λq=>?_⟩,λb=>?_⟩⟩
 ·grind [xr]
 ·grind [xp,DQ,mS]
 ·rw[mS a b];exact⟨⟨h0,hi,q.symm⟩,rfl,rfl,rfl,rfl,rfl,rfl,rfl⟩
 ·refine⟨λk=>⟨λ_=>?_,λk2=>absurd k k2⟩,λk=>⟨λk2=>⟨λ_=>?_,λk3=>absurd k2 k3⟩,λk2=>⟨λk3=>?_,λk3=>?_⟩⟩⟩
  ·rw[gH a b (.inl k)];exact⟨rfl,rfl,zi,zo,zg,rfl,rfl⟩
  ·rw[gH a b (.inr (.inl k2))];exact⟨rfl,rfl,zi,zo,zg,rfl,rfl⟩
  ·rw[gH a b (.inr (.inr k3))];exact⟨rfl,rfl,zi,zo,zg,rfl,rfl⟩
  ·rw[xt a b (λe=>e.elim k λe=>e.elim k2 k3)];exact⟨rfl,rfl,h,zo,zg,rfl,rfl⟩
theorem QgG (y:PS) (e:GF.pre (y,true)):GI y:=by
 obtain⟨h0,hi,hk⟩:=e;have h0:bw y:=h0;have hi:y.2.i<y.1.length:=hi;have hk:true=xp y:=hk;obtain⟨f,a2,a3,a4,g⟩:=id h0;have d:y.2.i.toNat=(nn y.2).i:=rfl;have zi:y.2.i=((nn y.2).i:Int):=ω;have zo:y.2.aq=((nn y.2).aq:Int):=by show _=((y.2.aq.toNat:Nat):Int);omega
 have zg:y.2.ab=((nn y.2).ab:Int):=by show _=((y.2.ab.toNat:Nat):Int);omega
 have c:(y.1.getD (nn y.2).i (0,0)).1=aK y.1 (nn y.2).i:=rfl;unfold GI;simp only[bN,fK,Zal,d,c,aw,gt];refine⟨⟨h0,a2.1,hi⟩,λa=>?_,λa=>⟨a2.1,hi,λb=>⟨λq=>?_,λq=>?_⟩,λb=>?_⟩⟩
 ·grind [xr]
 ·rw[mS a b];exact⟨⟨h0,hi,q.symm⟩,rfl,rfl,rfl,rfl,rfl⟩
 ·grind [xp,DQ,mS]
 ·refine⟨λk=>⟨λ_=>?_,λk2=>absurd k k2⟩,λk=>⟨λk2=>⟨λ_=>?_,λk3=>absurd k2 k3⟩,λk2=>⟨λk3=>?_,λk3=>?_⟩⟩⟩
  ·rw[gH a b (.inl k)];exact⟨zi,zo,zg,rfl,rfl⟩
  ·rw[gH a b (.inr (.inl k2))];exact⟨zi,zo,zg,rfl,rfl⟩
  ·rw[gH a b (.inr (.inr k3))];exact⟨zi,zo,zg,rfl,rfl⟩
  ·grind [xp,xt]
def QgH (a:Ok cK):Ok GF:=QtT (k:=GF) (T:=GI) (F:=GJ) [qj,yF,yH] f305 (λ_=>dr ()) id id (λ_=>rfl) ⟨uf,Rr,QaK a⟩ QgG QgF
def E_ (y:PS):Prop:=y.2.i<y.1.length
def Rx:bk D:=xm 292 PS (λy=>y) Ms E_ (λ_=>[]) (λy=>zz (ea y.1 (nn y.2)).1) λy=>.list 6 (ea y.1 (nn y.2)).2
def Ry (y:(List (Int×Int))×b_):Prop:=let T:=y.2.i.toNat;let q1:=ea y.1 (nn y.2);let c:=b7 y.1 (nn y.2);let I:=(y.1,y.2);let A:=((q1.1.ab:Nat):Int);let E:=((q1.1.i:Nat):Int);let F:=((q1.1.aq:Nat):Int);let N:=((c.1.aq:Nat):Int);let O:=((c.1.i:Nat):Int);let P:=((c.1.ab:Nat):Int);let G:=!(aC c.1.au 0);let f:=(gt (0,0) c.2.1 0).1;let l:=b_.mk O N P c.1.au c.1.wh;let b:=bp y.1 (nn l) 45;let U:=!(a_ y.1 (nn l) 45);let q:=((b.ab:Nat):Int);let r:=((b.aq:Nat):Int);let g:=((b.i:Nat):Int);let m:=Ps.ax y.1 (nn l) T 4;let H:=aC b.au 0;let V:=az g (ah y.1);let u:=b_.mk g r q b.au b.wh;let a:=b7 y.1 (nn u);let h:=(y.1,u);let v:=((a.1.i:Nat):Int);let w:=((a.1.aq:Nat):Int);let x:=((a.1.ab:Nat):Int);let j:=Ps.ax y.1 (nn u) T 4;let s:=aC a.1.au 0;let k:=(gt (0,0) a.2.1 0).1;let z:=b_.mk v w x a.1.au a.1.wh;let d:=Ps.ax y.1 (nn z) T 4;let Q:=λp:Prop=>aa ([y.2.i,4]:List Int) (aa [y.1] (aa [bQ y.1] (aa [v,w,x,a.1.au,a.1.wh] p)));let e:=λp:Prop=>aa [y.1] (aa [bQ y.1] p);let R:=λp:Prop=>aa [y.1] (aa [bQ y.1] (aa [y.2.i,y.2.aq,y.2.ab,y.2.au,y.2.wh] p));let o:=λp:Prop=>aa [a.1.au] p;let S:=λp:Prop=>aa [y.1] (aa [bQ y.1] (aa [g,r,q,b.au,b.wh] p));let t:Prop:=(0<=y.2.i/\(y.2.i<(y.1.length:Int)));let n:Prop:=(Tt 1 (az 0 (ah c.2.1)/\False));let J:Prop:=(e (g=E/\r=F/\q=A/\b.au=q1.1.au/\b.wh=q1.1.wh/\True));let B:Prop:=(e (v=E/\w=F/\x=A/\a.1.au=q1.1.au/\a.1.wh=q1.1.wh/\True));let K:Prop:=(aa [b.au] (Iv (bw h/\t)/\aa ([y.2.i,4]:List Int) (aa [y.1] (aa [bQ y.1] (aa [g,r,q,b.au,b.wh] (ak (!(aC j.au 0)) ([]=q1.2/\e (((j.i:Nat):Int)=E/\((j.aq:Nat):Int)=F/\((j.ab:Nat):Int)=A/\j.au=q1.1.au/\j.wh=q1.1.wh/\True)) (n)))))));let L:Prop:=(ak (!s) ([]=q1.2/\B) (Tt 1 (az 0 (ah c.2.1)/\Tt 1 (az 0 (ah a.2.1)/\aa [f,k] (([(f,k)]:List (Int×Int))=q1.2/\B)))));let C:Prop:=(e (((d.i:Nat):Int)=E/\((d.aq:Nat):Int)=F/\((d.ab:Nat):Int)=A/\d.au=q1.1.au/\d.wh=q1.1.wh/\True));let M:Prop:=(o (Iv (bw (y.1,z)/\t)/\Q (ak (!(aC d.au 0)) ([]=q1.2/\C) (n))));let D:Prop:=(Iv (bw (y.1,z)/\t)/\Q (ak (!(aC d.au 0)) ([]=q1.2/\C) (Tt 1 (az 0 (ah c.2.1)/\Tt 1 (az 0 (ah a.2.1)/\aa [f,k] (([(f,k)]:List (Int×Int))=q1.2/\C))))));ak (xp I) (Iv (bw I/\Mu (I,true))/\R (ak G ([]=q1.2/\e (O=E/\N=F/\P=A/\c.1.au=q1.1.au/\c.1.wh=q1.1.wh/\True)) (Iv (bw (y.1,l)/\t)/\aa ([y.2.i,4]:List Int) (aa [y.1] (aa [bQ y.1] (aa [O,N,P,c.1.au,c.1.wh] ([]=q1.2/\e (((m.i:Nat):Int)=E/\((m.aq:Nat):Int)=F/\((m.ab:Nat):Int)=A/\m.au=q1.1.au/\m.wh=q1.1.wh/\True)))))))) (Iv (bw I/\Mu (I,false))/\R (ak G ([]=q1.2/\e (O=E/\N=F/\P=A/\c.1.au=q1.1.au/\c.1.wh=q1.1.wh/\True)) (az 0 (ah c.2.1)/\Iv (bw (y.1,l)/\True)/\aa ([45]:List Int) (aa [y.1] (aa [bQ y.1] (aa [O,N,P,c.1.au,c.1.wh] (ak U (c.2.1=q1.2/\J) (aa [g] (aa [y.1] (ak V (ak (xp h) (Iv (bw h/\Mu (h,true))/\S (ak s (ak (!c.2.2) (M) (ak (!false) (M) (n))) (o (ak (!s) ([]=q1.2/\B) (n))))) (Iv (bw h/\Mu (h,false))/\S (ak s (ak (!c.2.2) (o (D)) (ak (!a.2.2) (o (D)) (Tt 1 (az 0 (ah c.2.1)/\Tt 1 (az 0 (ah a.2.1)/\aa [a.1.au,f,k] (ak (az k f) (D) (L))))))) (o (L))))) (ak H (ak (!c.2.2) (K) (K)) (aa [b.au] (ak (!H) ([]=q1.2/\J) (n))))))))))))))
@[grind=] theorem ez (t:Ps):nn ⟨t.i,t.aq,t.ab,t.au,t.wh⟩=t:=rfl
def bw.adv (h:bw y):gf y.1 (nn y.2) (nn y.2):=by
 obtain⟨_,a,b,c,_⟩:=h;exact gf.refl (by show y.2.i.toNat<=_;omega) (by show y.2.ab.toNat<=_;omega)
theorem bw.of (h:bw y) (a:gf y.1 (nn y.2) s):bw (y.1,⟨s.i,s.aq,s.ab,s.au,s.wh⟩):=by
 obtain⟨h1,d,f,g,b⟩:=h;have e:s.aq=y.2.aq.toNat:=a.op;have:=a.len;have:=a.gm;have c:((y.1,(⟨s.i,s.aq,s.ab,s.au,s.wh⟩:b_)):PS).1.length=y.1.length:=rfl;exact⟨h1,⟨ZaF _,by grind⟩,⟨ZaF _,by grind⟩,⟨ZaF _,by grind⟩,b⟩
theorem Rz (b:Fx G) (hl:s.i<G.length):(b7 G s).2.1=[]->(b7 G s).2.2=false:=by
 cases c:fi G s.i with
 | true=>rw[xr c];exact λ_=>rfl
 | false=>
  by_cases d:aK G s.i=92
  ·rw[mS c d];by_cases h1:G.length<=s.i+1
   ·grind [tc]
   ·cases a:fi G (s.i+1) with
    | true=>rw[te ω a];exact λ_=>rfl
    | false=>
     rw[xq ω a];intro h;have no:=λk=>Kb b (s:=s.next.next) s.i (i:=s.i+1) ω k b.w0 h
     grind [mA]
  ·grind [sx.gH,xt]
theorem Mw (h0:G.length<=s.i) (a:List Rg) (one:Bool) (b:Nat):j7 G a one b s=if s.au=0 then(s.ax G b 4,[]) else(s,[]):=by
 grind [fj,j7]
theorem RA (h:s.i<G.length) (a:List Rg) (one:Bool) (b:Nat):j7 G a one b s=if (b7 G s).1.au=0 then(if one=false\/(b7 G s).2.2=false\/oT (b7 G s).2.1<oT a then((b7 G s).1.ax G b 4,[]) else((b7 G s).1,[(oT a,oT (b7 G s).2.1)])) else((b7 G s).1,[]):=by
 grind [fj,j7]
theorem Qns (y:PS) (m:Rx.pre y):Ry y:=by
 obtain⟨h0,hi⟩:bw y/\y.2.i<y.1.length:=m;have a0:=h0.adv;have hl:(nn y.2).i<y.1.length:=by show y.2.i.toNat<_;obtain⟨_,n,_⟩:=h0;omega
 have j:(nn y.2).i=y.2.i.toNat:=rfl;have a:=(mC a0 hl).1;have q:=h0.of a;have u:=h0.of (a.ax y.2.i.toNat 4);have g:=a.skip 45;have r:=h0.of g;have i0:0<=y.2.i:=h0.2.1.1;unfold Ry;simp only[bN,bh,ez,E_,aw,di,Zd0,Int.ofNat_le];have o:=λh=>Rz h0.2.2.2.2 (s:=bp y.1 (b7 y.1 (nn y.2)).1 45) h
 have t:=λh=>h0.of (mC g h).1
 have hk:∀s,xp (y.1,s)=decide ((b7 y.1 (nn s)).2.1=[]):=λ_=>rfl
 have f:∀s b,Mu ((y.1,s),b)=(s.i<y.1.length/\b=xp (y.1,s)):=λ_ _=>rfl
 have v:=λ(s:Ps)=>fj (G:=y.1) s y.2.i.toNat (e:=4) (by decide)
 have c:ea y.1 (nn y.2)=if (b7 y.1 (nn y.2)).1.au≠0 then((b7 y.1 (nn y.2)).1,[]) else if (b7 y.1 (nn y.2)).2.1=[] then((b7 y.1 (nn y.2)).1.ax y.1 (nn y.2).i 4,[]) else if a_ y.1 (b7 y.1 (nn y.2)).1 45 then j7 y.1 (b7 y.1 (nn y.2)).2.1 (b7 y.1 (nn y.2)).2.2 (nn y.2).i (b7 y.1 (nn y.2)).1.next else((b7 y.1 (nn y.2)).1,(b7 y.1 (nn y.2)).2.1):=rfl
 rw[c];simp only[hk,f,ez,j];generalize b7 y.1 (nn y.2)=p at*
 have hs:a_ y.1 p.1 45->bp y.1 p.1 45=p.1.next:=λh=>Zac h
 clear c hk f;have k:=λh=>RA (G:=y.1) (s:=p.1.next) (show p.1.i+1<y.1.length from h) p.2.1 p.2.2 y.2.i.toNat
 have d:=λh=>Mw (G:=y.1) (s:=p.1.next) (show y.1.length<=p.1.i+1 from h) p.2.1 p.2.2 y.2.i.toNat
 have l:a_ y.1 p.1 45=false->bp y.1 p.1 45=p.1:=λh=>Zaa (by grind)
 with_reducible repeat' first | apply And.intro | intro _
 all_goals first
  | assumption
  | (simp_all [oT,tZ,Zbe];done)
  | (simp_all [oT,tZ,Zbe];omega)
  | (simp_all [oT,tZ,Zbe];simp(disch:=omega) only[Zac,Zaa, *];done)
  | (simp_all [oT,tZ,Zbe])
def QgI (a:Ok cK):Ok Rx:=okZ [GF,qj,s_] f292 (λ_=>dr ()) ⟨QgH a,uf,zX⟩ Qns
def XQ (b n:Nat) (l:By):List (Nat×AO D.E):=[(b,.cells [.ptr b 0,.own n 1 (ah l)] 369 false),(n,.arr 0 l 5 false)]
def RC (b:Nat) (p:AV D.E):List (Nat×AO D.E):=[(b,.cells [p,.cW] 369 false)]
def XR (v:AV D.E) (s:St D.E):C Unit:=match v with
 | .ptr b _=>aA (cN (s.h.get b)) λo=>match o with
  | .cells cs _ _=>match cs with
   | [.fC,.cW]=>.ret ()
   | _=>.fail
  | _=>.fail
 | _=>.fail
def XS (v:AV D.E) (s:St D.E):C By:=match v with
 | .ptr b _=>aA (cN (s.h.get b)) λo=>match o with
  | .cells cs _ _=>match cs with
   | [.ptr _ _,l]=>aA (aW D s 0 l) λl=>.ret (l:By)
   | _=>.fail
  | _=>.fail
 | _=>.fail
def XT:bk D:=⟨306,Unit,λa s=>match a with
 | [p]=>XR p s
 | _=>.fail,λ_=>True,λ_=>[.ptr 0 0],λ_=>RC 0 .fC,λ_=>.tuple [],λ_=>RC 0 (.ptr 0 0),1,1⟩
def QgJ:bk D:=⟨306,By,λa s=>match a with
 | [p]=>XS p s
 | _=>.fail,λ_=>True,λ_=>[.ptr 0 0],λy=>XQ 0 1 y,λ_=>.tuple [],λy=>XQ 0 1 y,2,2⟩
def XU:bk D:=⟨296,Int,λa s=>match a with
 | [p,c]=>aA (XR p s) λ_=>aQ (da c) λ_ c=>.ret c
 | _=>.fail,F_,λy=>[.ptr 0 0,.int .u8 y],λ_=>RC 0 .fC,λ_=>.nilIface,λy=>XQ 0 1 [UInt8.ofNat y.toNat],1,2⟩
def XV:bk D:=⟨296,By×Int,λa s=>match a with
 | [p,c]=>aA (XS p s) λl=>aQ (da c) λ_ c=>.ret (l,c)
 | _=>.fail,λy=>y.1.length<=1000000/\F_ y.2,λy=>[.ptr 0 0,.int .u8 y.2],λy=>XQ 0 1 y.1,λ_=>.nilIface,λy=>XQ 0 2 (y.1++[UInt8.ofNat y.2.toNat]),2,3⟩
def XW:bk D:=⟨295,Unit,λa s=>match a with
 | [p]=>XR p s
 | _=>.fail,λ_=>True,λ_=>[.ptr 0 0],λ_=>RC 0 .fC,λ_=>QtJ 0,λ_=>RC 0 .fC,1,1⟩
def XX:bk D:=⟨295,By,λa s=>match a with
 | [p]=>XS p s
 | _=>.fail,λ_=>True,λ_=>[.ptr 0 0],λy=>XQ 0 1 y,λy=>QtJ (ah y),λy=>XQ 0 1 y,2,2⟩
def QgK:bk D:=⟨297,Unit,λa s=>match a with
 | [p]=>XR p s
 | _=>.fail,λ_=>True,λ_=>[.ptr 0 0],λ_=>RC 0 .fC,λ_=>.str [],λ_=>[],1,1⟩
def QgL:bk D:=⟨297,By,λa s=>match a with
 | [p]=>XS p s
 | _=>.fail,λy=>y≠[],λ_=>[.ptr 0 0],λy=>XQ 0 1 y,λy=>.str y,λ_=>[],2,2⟩
def xu:bk D:=xm 269 PS (λy=>y) Ms (λ_=>True) (λ_=>[]) (λy=>zz (dm y.1 (nn y.2))) λy=>.tuple [.str (gO y.1 (nn y.2)),.bool (gF y.1 (nn y.2))]
def QgM (s:b_) (i:Nat):b_:={ s with i:=i }
def tg (y:PS) (i:Nat) (l:By):Prop:=(nn y.2).i<=i/\i<=y.1.length/\l.length<=i/\cr y.1 (y.1.length-i) i l=cr y.1 (y.1.length-(nn y.2).i) (nn y.2).i []
def Qnx (y:xu.Y):cU D:=⟨[],[],[],[],1,
 [(60,⟨Unit,λ_=>⟨Nat,[0,4,5],λ_=>[],[],λi=>psO y.1 (QgM y.2 i)++RC 1 .fC,2,λi=>tg y i [],λi=>y.1.length-i⟩,
  some ⟨Nat×By,[0,4,5],λ_=>[],[],λx=>psO y.1 (QgM y.2 x.1)++XQ 1 2 x.2,3,λx=>tg y x.1 x.2/\x.2≠[],λx=>y.1.length-x.1⟩⟩)]⟩
def XY (y:PS) (x:b_×List Rg×Bool):Prop:=bw (y.1,x.1)/\(nn x.1).aq=(nn y.2).aq/\x.2.1.length<=8*(nn x.1).i+(if x.1.au=0 then 0 else 8)/\∃n,(x.1.au=0->y.1.length+2<=n+(nn x.1).i)/\
 dQ y.1 (nn y.2).i n (nn x.1) x.2.1 x.2.2=dQ y.1 (nn y.2).i (y.1.length+2-(bp y.1 (nn y.2).next 94).i) (bp y.1 (nn y.2).next 94) [] true
def Qdb (y:PS) (x:b_×List Rg×Bool):Nat:=2*(y.1.length-(nn x.1).i)+(if x.1.au=0 then 1 else 0)
def GK:bk D:=xm 265 PS (λy=>y) Ms E_ (λ_=>[]) (λy=>zz (rQ y.1 (nn y.2)).1) λy=>.list 7 (rQ y.1 (nn y.2)).2
def Qnz (y:GK.Y):cU D:=⟨[],[],[(508,⟨b_×List Rg×Bool,[0,3,4],λx=>[(5,.grow 6 x.2.1 1),(6,.bool x.2.2)],[],λx=>psO y.1 x.1++[(1,.tok 6 350)],2,XY y,Qdb y⟩)],[],1,[]⟩
def o6 (y:PS):Ps×By×Bool:=
 if gF y.1 (nn y.2).next/\a_ y.1 (dm y.1 (nn y.2).next) 44=true then(dm y.1 (dm y.1 (nn y.2).next).next,gO y.1 (dm y.1 (nn y.2).next).next,!gF y.1 (dm y.1 (nn y.2).next).next)
 else(dm y.1 (nn y.2).next,gO y.1 (nn y.2).next,false)
def GL:bk D:=xm 246 PS (λy=>y) Ms E_ (λ_=>[]) (λy=>zz (gp y.1 (nn y.2)).1) λy=>.tuple [QtJ (gp y.1 (nn y.2)).2.1,QtJ (gp y.1 (nn y.2)).2.2]
def QnB (y:GL.Y):cU D:=⟨[],[],[],[(63,⟨Unit,[0,4,5,6],λ_=>[(7,.str (o6 y).2.1),(8,.bool (o6 y).2.2)],[],λ_=>psO y.1 (zz (o6 y).1),1,λ_=>True,λ_=>0⟩)],1,[]⟩
def RE (y:(List (Int×Int))×b_):Prop:=let b:=rQ y.1 (nn y.2);let q1:=aD .i64 y.2.i 1;let o:=((b.1.i:Nat):Int);let s:=((b.1.aq:Nat):Int);let t:=((b.1.ab:Nat):Int);let q:=b_.mk q1 y.2.aq y.2.ab y.2.au y.2.wh;let k:=bp y.1 (nn q) 94;let r:=a_ y.1 (nn q) 94;let l:=λp:Prop=>aa [y.1] (aa [bQ y.1] p);let u:Prop:=(0<=y.2.i/\(y.2.i<(y.1.length:Int)));Iv (bw (y.1,q)/\True)/\aa ([94]:List Int) (aa [y.1] (aa [bQ y.1] (aa [q1,y.2.aq,y.2.ab,y.2.au,y.2.wh] ((∃z:b_×(List (Int×Int))×Bool,aa [y.2.i] (aa [r] ([]=z.2.1/\true=z.2.2/\l (((k.i:Nat):Int)=z.1.i/\((k.aq:Nat):Int)=z.1.aq/\((k.ab:Nat):Int)=z.1.ab/\k.au=z.1.au/\k.wh=z.1.wh/\(Iv (XY y z))))))/\(∀x:b_×(List (Int×Int))×Bool,let d:=aX x.2.1;let e:=aC x.1.au 0;let a:=ea y.1 (nn x.1);let m:=aI (ah y.1) x.1.i;let n:=!(a_ y.1 (nn x.1) 93);let c:=Ps.ax y.1 (nn x.1) y.2.i.toNat 4;let f:Prop:=(x.1.aq=s/\x.1.ab=t/\x.1.au=b.1.au/\x.1.wh=b.1.wh/\True);let g:Prop:=(l (aD .i64 x.1.i 1=o/\f));let h:Prop:=(Iv (bw (y.1,x.1)/\u)/\aa ([y.2.i,4]:List Int) (aa [y.1] (aa [bQ y.1] (aa [x.1.i,x.1.aq,x.1.ab,x.1.au,x.1.wh] ([]=b.2/\l (((c.i:Nat):Int)=o/\((c.aq:Nat):Int)=s/\((c.ab:Nat):Int)=t/\c.au=b.1.au/\c.wh=b.1.wh/\True))))));let j:Prop:=(ak (!e) ([]=b.2/\l (x.1.i=o/\f)) (ak x.2.2 (h) (Iv (x.2.1.length<=100000000)/\aa [x.2.1] (ak r (Iv (d.length<=1000000)/\aa [d] (([Nd.mk 2 (lE d) 0 0 false 0 0]:List Nd)=b.2/\g)) (([Nd.mk 2 d 0 0 false 0 0]:List Nd)=b.2/\g)))));(Iv (XY y x))->ak e (Iv (bw (y.1,x.1)/\True)/\aa ([93]:List Int) (aa [y.1] (aa [bQ y.1] (aa [x.1.i,x.1.aq,x.1.ab,x.1.au,x.1.wh] (ak n (aa [x.1.i] (aa [y.1] (ak m (h) (Iv (bw (y.1,x.1)/\E_ (y.1,x.1))/\aa [y.1] (aa [bQ y.1] (aa [x.1.i,x.1.aq,x.1.ab,x.1.au,x.1.wh] (bF (ah (bM x.2.1 a.2)) 8/\∃z:b_×(List (Int×Int))×Bool,aa [y.2.i] (aa [r] (bM x.2.1 a.2=z.2.1/\false=z.2.2/\l (((a.1.i:Nat):Int)=z.1.i/\((a.1.aq:Nat):Int)=z.1.aq/\((a.1.ab:Nat):Int)=z.1.ab/\a.1.au=z.1.au/\a.1.wh=z.1.wh/\(Iv (XY y z/\Qdb y z<Qdb y x)))))))))))) (j)))))) (j))))))
def RF (y:(List (Int×Int))×b_):Prop:=let f:=(o6 y).1;let q1:=y.2.i.toNat;let R:=y.1.length;let H:=(o6 y).2.2;let A:=(o6 y).2.1;let U:=((y.2.ab.toNat:Nat):Int);let V:=((y.2.aq.toNat:Nat):Int);let L:=((f.aq:Nat):Int);let M:=((f.i:Nat):Int);let N:=((f.ab:Nat):Int);let a:=gp y.1 (nn y.2);let m:=aD .i64 y.2.i 1;let n:=((a.1.aq:Nat):Int);let o:=((a.1.ab:Nat):Int);let q:=((a.1.i:Nat):Int);let D:=b_.mk m y.2.aq y.2.ab y.2.au y.2.wh;let b:=gO y.1 (nn D);let E:=gF y.1 (nn D);let g:=b_.mk M L N f.au f.wh;let F:=((cr y.1 (R-m.toNat) m.toNat []).1:Int);let c:=bp y.1 (nn g) 125;let S:=!(a_ y.1 (nn g) 125);let r:=((c.aq:Nat):Int);let s:=((c.ab:Nat):Int);let t:=((c.i:Nat):Int);let h:=Ps.ax y.1 (nn g) q1 4;let G:=b_.mk F V U y.2.au y.2.wh;let d:=bp y.1 (nn G) 44;let T:=a_ y.1 (nn G) 44;let u:=((d.aq:Nat):Int);let v:=((d.ab:Nat):Int);let j:=((d.i:Nat):Int);let w:=b_.mk t r s c.au c.wh;let k:=Ps.ax y.1 (nn w) q1 4;let l:=Ps.ax y.1 (nn w) q1 2;let I:=b_.mk j u v d.au d.wh;let e:=λp:Prop=>aa [y.1] (aa [bQ y.1] p);let K:=λp:Prop=>aa [y.2.i] (aa [b] (aa [E] p));let J:Prop:=(0<=y.2.i/\(y.2.i<(R:Int)));let O:Prop:=(d.au=f.au/\d.wh=f.wh/\(Iv True));let B:Prop:=(e (t=q/\r=n/\s=o/\c.au=a.1.au/\c.wh=a.1.wh/\True));let C:Prop:=(Iv (bw (y.1,w)/\J)/\aa ([y.2.i,2]:List Int) (aa [y.1] (aa [bQ y.1] (aa [t,r,s,c.au,c.wh] (0=a.2.1/\0=a.2.2/\e (((l.i:Nat):Int)=q/\((l.aq:Nat):Int)=n/\((l.ab:Nat):Int)=o/\l.au=a.1.au/\l.wh=a.1.wh/\True))))));let P:Prop:=(Iv (bw (y.1,w)/\J)/\aa ([y.2.i,4]:List Int) (aa [y.1] (aa [bQ y.1] (aa [t,r,s,c.au,c.wh] (0=a.2.1/\0=a.2.2/\e (((k.i:Nat):Int)=q/\((k.aq:Nat):Int)=n/\((k.ab:Nat):Int)=o/\k.au=a.1.au/\k.wh=a.1.wh/\True))))));let Q:Prop:=(Iv (kV b)/\aa [b] (ak H (Iv (kV [])/\aa ([[]]:List (List UInt8)) (ak (!(ew b).2) (C) (ak (!(decide (gV []<=30))) (C) (ak H ((ew b).1=a.2.1/\(-1)=a.2.2/\B) ((ew b).1=a.2.1/\gV []=a.2.2/\B))))) (Iv (kV A)/\aa [A] (ak (!(ew b).2) (C) (ak (!(ew A).2) (C) (ak H ((ew b).1=a.2.1/\(-1)=a.2.2/\B) ((ew b).1=a.2.1/\(ew A).1=a.2.2/\B)))))));Iv (bw (y.1,D)/\True)/\aa [y.1] (aa [bQ y.1] (aa [m,y.2.aq,y.2.ab,y.2.au,y.2.wh] ((ak E (Iv (bw (y.1,G)/\True)/\aa ([44]:List Int) (aa [y.1] (aa [bQ y.1] (aa [F,V,U,y.2.au,y.2.wh] (ak T (Iv (bw (y.1,I)/\True)/\aa [y.1] (aa [bQ y.1] (aa [j,u,v,d.au,d.wh] (∃z:Unit,K (gO y.1 (nn I)=A/\(!(gF y.1 (nn I)))=H/\e (((cr y.1 (R-j.toNat) j.toNat []).1:Int)=M/\((u.toNat:Nat):Int)=L/\((v.toNat:Nat):Int)=N/\O)))))) (∃z:Unit,K (b=A/\false=H/\e (j=M/\u=L/\v=N/\O)))))))) (∃z:Unit,K (b=A/\false=H/\e (F=M/\V=L/\U=N/\y.2.au=f.au/\y.2.wh=f.wh/\(Iv True)))))/\(∀x:Unit,(Iv True)->ak (!E) (Iv (bw (y.1,g)/\J)/\aa ([y.2.i,4]:List Int) (aa [y.1] (aa [bQ y.1] (aa [M,L,N,f.au,f.wh] (0=a.2.1/\0=a.2.2/\e (((h.i:Nat):Int)=q/\((h.aq:Nat):Int)=n/\((h.ab:Nat):Int)=o/\h.au=a.1.au/\h.wh=a.1.wh/\True)))))) (Iv (bw (y.1,g)/\True)/\aa ([125]:List Int) (aa [y.1] (aa [bQ y.1] (aa [M,L,N,f.au,f.wh] (ak S (P) (ak (!H) (Iv True/\aa [A] (aa [b] (ak (ir A b) (P) (Q)))) (Q)))))))))))
def dz (G:List Gt) (i o g e w:Int):nn ⟨((cr G (G.length-i.toNat) i.toNat []).1:Nat),(o.toNat:Nat),(g.toNat:Nat),e,w⟩=dm G (nn ⟨i,o,g,e,w⟩):=rfl
def pno (s:b_):s.aq.toNat=(nn s).aq:=rfl
def png (s:b_):s.ab.toNat=(nn s).ab:=rfl
def nne (s:b_):(nn s).au=s.au:=rfl
def nnw (s:b_):(nn s).wh=s.wh:=rfl
@[simp] theorem nxw (s:Ps):s.next.wh=s.wh:=rfl
def dgo (G:List Gt) (s:Ps):(dm G s).aq=s.aq:=rfl
def dgg (G:List Gt) (s:Ps):(dm G s).ab=s.ab:=rfl
def dge (G:List Gt) (s:Ps):(dm G s).au=s.au:=rfl
def dgw (G:List Gt) (s:Ps):(dm G s).wh=s.wh:=rfl
def dzi (G:List Gt) (s:Ps):(cr G (G.length-s.i) s.i []).1=(dm G s).i:=rfl
def pni (s:b_):s.i.toNat=(nn s).i:=rfl
def bw.X1 (h:bw y) (hi:y.2.i<y.1.length):aD .i64 y.2.i 1=y.2.i+1/\nn ⟨y.2.i+1,y.2.aq,y.2.ab,y.2.au,y.2.wh⟩=(nn y.2).next/\(nn y.2).i<y.1.length/\gf y.1 (nn y.2) (nn y.2).next/\bw (y.1,⟨y.2.i+1,y.2.aq,y.2.ab,y.2.au,y.2.wh⟩):=by
 obtain⟨a,a2,a3,a4,b⟩:=id h;have hl:(nn y.2).i<y.1.length:=by show y.2.i.toNat<_;omega
 have c:((y.1,(⟨y.2.i+1,y.2.aq,y.2.ab,y.2.au,y.2.wh⟩:b_)):PS).1.length=y.1.length:=rfl;exact⟨bG ω ω,r5 a2.1,hl,h.adv.next hl,a,⟨show 0<=y.2.i+1 by omega,show y.2.i+1<=(y.1.length:Int) by omega⟩,a3,a4,b⟩
theorem xw:∀(n i:Nat) (b:By),kV b->kV (cr G n i b).2
 | 0,_,_,h=>h
 | n+1,i,b,h=>by
  unfold cr;split
  ·rename_i e
   refine xw n _ _ ?_;split
   ·intro c a;rcases Zax.1 a with d | d
    ·exact h c d
    ·grind [UInt8.toNat_ofNat']
   ·exact h
  ·exact h
theorem pT (G:List Gt) (s:Ps):kV (gO G s):=xw _ _ _ λc h=>by cases h
theorem Qdc (y:PS):gp y.1 (nn y.2)=nG y.1 (nn y.2).i (o6 y).1 (gO y.1 (nn y.2).next) (o6 y).2.1 (gF y.1 (nn y.2).next) (o6 y).2.2:=by
 grind [gp,o6]
theorem QnF (y:PS) (n:GL.pre y):RF y:=by
 obtain⟨h0,hi⟩:bw y/\y.2.i<y.1.length:=n;obtain⟨l,f,hl,k,q⟩:=h0.X1 hi;have i0:0<=y.2.i:=h0.2.1.1;have c:=(rR k).1;have g:=c.skip 44;have r:=h0.of c;have os:=h0.of g;have e:gf y.1 (nn y.2) (o6 y).1:=by
  unfold o6;split
  ·rename_i h
   exact(rR (c.next (c_ h.2))).1
  ·exact c
 have s:=h0.of e;have d:=h0.of (e.skip 125);have g1:=pT y.1 (nn y.2).next;have g2:kV (o6 y).2.1:=by grind [o6,pT]
 have x:gV []=0:=rfl;have g0:kV []:=λ_ h=>nomatch h
 have o:gF y.1 (nn y.2).next->a_ y.1 (dm y.1 (nn y.2).next) 44->o6 y=(dm y.1 (dm y.1 (nn y.2).next).next,gO y.1 (dm y.1 (nn y.2).next).next,!gF y.1 (dm y.1 (nn y.2).next).next):=λa b=>Zac ⟨a,b⟩
 have p:¬(gF y.1 (nn y.2).next/\a_ y.1 (dm y.1 (nn y.2).next) 44)->o6 y=(dm y.1 (nn y.2).next,gO y.1 (nn y.2).next,false):=λa=>Zaa a
 have k1:a_ y.1 (dm y.1 (nn y.2).next) 44->bp y.1 (dm y.1 (nn y.2).next) 44=(dm y.1 (nn y.2).next).next:=λh=>Zac h
 have k2:a_ y.1 (dm y.1 (nn y.2).next) 44=false->bp y.1 (dm y.1 (nn y.2).next) 44=dm y.1 (nn y.2).next:=λh=>Zaa (by grind)
 have t:(cr y.1 (y.1.length-(y.2.i+1).toNat) (y.2.i+1).toNat []).1=(dm y.1 (nn y.2).next).i:=by rw[<-f];rfl
 have w:(nn y.2).next.wh=y.2.wh:=rfl;have z2:nn ⟨(dm y.1 (nn y.2).next).i,(nn y.2).aq,(nn y.2).ab,y.2.au,y.2.wh⟩=dm y.1 (nn y.2).next:=rfl;unfold RF;simp only[bh,l,f,dz,ez,ZaX,ZaY,ZaZ,t,z2,Zad,dzi,pni,pno,png,Qdc];refine⟨q,?_,?_⟩
 ·clear s d g1 g2
  with_reducible repeat' first | apply And.intro | intro _
  all_goals first
   | assumption
   | (simp_all [dgo,dgg,dge,dgw,nne,nnw];done)
 ·clear o p k1 k2 r os c g;generalize o6 y=j at*
  have u:a_ y.1 j.1 125->bp y.1 j.1 125=j.1.next:=λh=>Zac h
  have v:a_ y.1 j.1 125=false->bp y.1 j.1 125=j.1:=λh=>Zaa (by grind)
  generalize gF y.1 (nn y.2).next=ok at*
  generalize gO y.1 (nn y.2).next=m at*
  with_reducible repeat' first | apply And.intro | intro _
  all_goals first
   | assumption
   | (simp_all [nG,ew];done)
def QgO (a:Ok xu):Ok GL:=okZ [xu,s_,qj,Mr,GC] f246 QnB ⟨a,zX,uf,Qgu,Qgx⟩ QnF
theorem GM {n:Nat} {b:Bool} (h:s.au≠0\/a_ G s 93):dQ G i n s a b=(s,a,b,false):=by
 cases n with
 | zero=>rfl
 | succ n=>
  grind [dQ]
theorem Mx {one:Bool}:(j7 G a one i s).1.au≠0->(j7 G a one i s).2=[]:=by
 grind [j7]
theorem X2 {G:List Gt} {s:Ps} (h:(ea G s).1.au≠0):(ea G s).2=[]:=by
 grind [ea,Mx]
theorem QnG (y:PS) (A:GK.pre y):RE y:=by
 obtain⟨h0,hi⟩:bw y/\y.2.i<y.1.length:=A;obtain⟨r,u,hl,v,D⟩:=h0.X1 hi;have i0:0<=y.2.i:=h0.2.1.1;have e:=v.skip 94;have os:=h0.of e;unfold RE;simp only[bN,bh,r,u,dz,ez,ZaX,ZaY,ZaZ,pni,aw,a8,br];refine⟨D,⟨⟨zz (bp y.1 (nn y.2).next 94),[],true⟩,rfl,rfl,rfl,rfl,rfl,rfl,rfl,os,e.op,by simp,_,λ_=>?_,rfl⟩,λx z=>?_⟩
 ·have:=e.len;show _<=_+(bp y.1 (nn y.2).next 94).i
  omega
 ·obtain⟨s,l,b⟩:=x;obtain⟨c,k,C,n,d,g⟩:=z;simp only at*
  have a2:gf y.1 (nn s) (nn s):=c.adv;obtain⟨b1,o,p,q,_⟩:y.1.length<=4096/\(0<=s.i/\s.i<=y.1.length)/\(0<=s.aq/\s.aq<=20)/\(0<=s.ab/\s.ab<=4)/\_:=id c;have E:(nn s).i<=y.1.length:=a2.len;have zi:((nn s).i:Int)=s.i:=Zby o.1;have zo:((nn s).aq:Int)=s.aq:=Zby p.1;have zg:((nn s).ab:Int)=s.ab:=Zby q.1;have eF:rQ y.1 (nn y.2)=(if (dQ y.1 (nn y.2).i n (nn s) l b).2.2.2 then((dQ y.1 (nn y.2).i n (nn s) l b).1,[]) else if (dQ y.1 (nn y.2).i n (nn s) l b).1.au≠0 then((dQ y.1 (nn y.2).i n (nn s) l b).1,[]) else if (dQ y.1 (nn y.2).i n (nn s) l b).2.2.1 then((dQ y.1 (nn y.2).i n (nn s) l b).1.ax y.1 (nn y.2).i 4,[])
   else((dQ y.1 (nn y.2).i n (nn s) l b).1.next,[wT (if a_ y.1 (nn y.2).next 94 then lE (aX (dQ y.1 (nn y.2).i n (nn s) l b).2.1) else aX (dQ y.1 (nn y.2).i n (nn s) l b).2.1)])):=by rw[g];rfl
  have cs:s.au≠0\/a_ y.1 (nn s) 93->dQ y.1 (nn y.2).i n (nn s) l b=(nn s,l,b,false):=λh=>GM h
  have f:s.au=0->∃m,n=m+1:=λh=>⟨n-1,ω⟩
  have F:y.1.length<=4096:=b1;have G:(aX l).length<=2*l.length:=pM l;have b8:l.length<=40000:=by grind
  have H:a_ y.1 (nn s) 93->aD .i64 s.i 1=s.i+1:=λh=>bG ω ω
  refine⟨λa=>⟨c,λw=>⟨λt=>⟨⟨c,i0,hi⟩,?_⟩,λt=>⟨⟨c,t⟩,?_⟩⟩,λw=>?_⟩,λa=>?_⟩
  ·obtain⟨m,rfl⟩:=f a;have:dQ y.1 (nn y.2).i (m+1) (nn s) l b=((nn s).ax y.1 (nn y.2).i 4,l,b,true):=by
    unfold dQ;rw[Zac ⟨a,by grind⟩,Zac ω]
   grind
  ·obtain⟨m,rfl⟩:=f a;have j:(nn s).i<y.1.length:=ω;obtain⟨c1,c2,c3⟩:=ky a2 j;have c4:(nn s).i<=(ea y.1 (nn s)).1.i:=c1.le;have c5:=c1.len;have c6:=@X2 y.1 (nn s);have B:(l++(ea y.1 (nn s)).2).length<=8*(ea y.1 (nn s)).1.i+(if (ea y.1 (nn s)).1.au=0 then 0 else 8):=by
    grind
   have hlen:(l++(ea y.1 (nn s)).2).length<=40000:=by grind
   refine⟨ω,⟨zz (ea y.1 (nn s)).1,l++(ea y.1 (nn s)).2,false⟩,rfl,rfl,rfl,rfl,rfl,rfl,rfl,⟨c.of c1,c1.op.trans k,B,m,λh=>?_,?_⟩,?_⟩
   ·have:=c2 h;have:=d a;show _<=m+(ea y.1 (nn s)).1.i;omega
   ·rw[<-g]
    conv=>rhs;unfold dQ
    rw[Zac ⟨a,by grind⟩,Zaa ω];rfl
   ·show 2*(y.1.length-(ea y.1 (nn s)).1.i)+(if (ea y.1 (nn s)).1.au=0 then 1 else 0)<2*(y.1.length-(nn s).i)+(if s.au=0 then 1 else 0)
    grind
  all_goals
   rw[cs (by first | exact .inl a | exact .inr (by grind))] at eF;clear g cs f C d u r e os b1 o p q
   with_reducible repeat' first | apply And.intro | intro _
   all_goals first
    | assumption
    | omega
    | (simp_all [nne,nnw,wT,nd,tZ];done)
    | (simp_all [nne,nnw,wT,nd,tZ];omega)
def QgP (a:Ok cK):Ok GK:=okZ [s_,Wa,qj,Rx,cK,Gi] f265 Qnz ⟨zX,isOk,uf,QgI a,a,Qaz a⟩ QnG
def hU (y:PS):Ps->Ps×List Nd:=qI y.1 (20-(nn y.2).aq)
def lvl (y:PS):Nat:=5*(20-(nn y.2).aq)
def RG (f:FuncId) (pre:PS->Prop) (F:PS->Ps×List Nd):bk D:=xm f PS (λy=>y) Ms pre (λ_=>[]) (λy=>zz (F y).1) λy=>.list 7 (F y).2
def qS (y:PS):Ps×List Nd:=qI y.1 (21-(nn y.2).aq) (nn y.2)
def mT (y:PS):Ps×List Nd:=mB y.1 (hU y) (nn y.2)
def yI (y:PS):Ps×List Nd:=fu y.1 (hU y) (nn y.2)
def dK (y:PS):Ps×List Nd:=jd y.1 (hU y) (nn y.2)
def mU (y:PS):Ps×List Nd:=hZ y.1 (hU y) (nn y.2)
def GN:bk D:=RG 114 (λ_=>True) qS
def My:bk D:=RG 173 (λ_=>True) mT
def Mz:bk D:=RG 213 E_ yI
def RH:bk D:=RG 245 E_ dK
def RI:bk D:=RG 264 E_ mU
def fmT (n:Nat):s6:=[GN.under (λy=>lvl y+4) n,My.under (λy=>lvl y+3) n,Mz.under (λy=>lvl y+2) n,RH.under (λy=>lvl y+1) n,RI.under (λy=>lvl y) n]
def fmW (l:s6) (i:Nat) (fn:Func) (k:bk D) (a:k.Y->cU D) (n:Nat) (y:k.Y):Prop:=vc (fmT (n+i)++l) fn k a y
def QaL (G:List Gt) (s:b_):List (Nat×AO D.E):=psO G s++[(1,.tok 9 138)]
def X3 (y:PS) (x:b_×List (List Nd)):Prop:=bw (y.1,x.1)/\(nn x.1).aq=(nn y.2).aq/\(nn y.2).i<=(nn x.1).i/\0<x.2.length/\total x.2+2*x.2.length<=3*((nn x.1).i-(nn y.2).i)+3/\∃n,(x.1.au=0->y.1.length+2<=n+(nn x.1).i)/\
 gu y.1 (hU y) n (nn x.1) x.2=gu y.1 (hU y) (y.1.length+2-(mT y).1.i) (mT y).1 [(mT y).2]
def DR (y:PS) (x:b_×List (List Nd)):Nat:=2*(y.1.length-(nn x.1).i)+(if x.1.au=0 then 1 else 0)
def QgR (y:GN.Y):cU D:=⟨[],[],[(28,⟨b_×List (List Nd),[0],λx=>[(3,.grow 9 x.2 1)],[],λx=>QaL y.1 x.1,2,X3 y,DR y⟩)],[],1,[]⟩
def QnH (y:GN.Y):Prop:=fmW [s_,yG] 4 f114 GN QgR (lvl y) y
def RJ (y:PS) (x:b_×List (List Nd)):Prop:=bw (y.1,x.1)/\(nn x.1).aq=(nn y.2).aq/\(nn y.2).i<=(nn x.1).i/\total x.2<=3*((nn x.1).i-(nn y.2).i)/\x.2.length<=(nn x.1).i-(nn y.2).i+(if x.1.au=0 then 0 else 1)/\∃n,(x.1.au=0->y.1.length+2<=n+(nn x.1).i)/\
 eE y.1 (hU y) n (nn x.1) x.2=eE y.1 (hU y) (y.1.length+2-(nn y.2).i) (nn y.2) []
def QgS (y:My.Y):cU D:=⟨[],[],[(28,⟨b_×List (List Nd),[0],λx=>[(3,.grow 9 x.2 1)],[],λx=>QaL y.1 x.1,2,RJ y,DR y⟩)],[],1,[]⟩
def QnI (y:My.Y):Prop:=fmW [Wa,yG] 3 f173 My QgS (lvl y) y
def o7 (y:PS):Ps×Int×Int:=if a_ y.1 (dK y).1 42 then((dK y).1.next,0,-1) else if a_ y.1 (dK y).1 43 then((dK y).1.next,1,-1) else if a_ y.1 (dK y).1 63 then((dK y).1.next,0,1) else gp y.1 (dK y).1
def uD (y:PS):Prop:=(dK y).1.au=0/\(a_ y.1 (dK y).1 42\/a_ y.1 (dK y).1 43\/a_ y.1 (dK y).1 63\/a_ y.1 (dK y).1 123)
def QgT (y:Mz.Y):cU D:=⟨[],[],[],[(31,⟨Unit,[0,3],λ_=>[(4,.ptr 1 0)],[],λ_=>psO y.1 (zz (o7 y).1)++[(1,.cells [QtJ 5,.cW,QtJ (o7 y).2.1,QtJ (o7 y).2.2,.bool false,QtJ 0,QtJ 1] 206 false)],2,λ_=>uD y,λ_=>0⟩)],1,[]⟩
def QnJ (y:Mz.Y):Prop:=fmW [s_,Wa,GL] 2 f213 Mz QgT (lvl y) y
def QnK (y:RH.Y):Prop:=fmW [yF,qj,GK,yH,Ra,DP] 1 f245 RH (λ_=>dr ()) (lvl y) y
def QnL (y:RI.Y):Prop:=fmW [s_,qj] 0 f264 RI (λ_=>dr ()) (lvl y) y
def RK (y:(List (Int×Int))×b_):Prop:=let c:=(qS y).1;let q1:=((c.i:Nat):Int);let o:=((c.aq:Nat):Int);let q:=((c.ab:Nat):Int);let n:=(y.1,y.2);let g:=eE y.1 (hU n) ((y.1.length+2) -y.2.i.toNat) (nn y.2) [];let m:=λp:Prop=>aa [y.1] (aa [bQ y.1] p);Iv ((bw n/\True)/\(lvl n+3)<(lvl y+4))/\aa [y.1] (aa [bQ y.1] (aa [y.2.i,y.2.aq,y.2.ab,y.2.au,y.2.wh] ((∃z:b_×(List (List Nd)),([bX 3 g.2]:List (List Nd))=z.2/\m (((g.1.i:Nat):Int)=z.1.i/\((g.1.aq:Nat):Int)=z.1.aq/\((g.1.ab:Nat):Int)=z.1.ab/\g.1.au=z.1.au/\g.1.wh=z.1.wh/\(Iv (X3 y z))))/\(∀x:b_×(List (List Nd)),let b:=bp y.1 (nn x.1) 124;let r:=a_ y.1 (nn x.1) 124;let l:=((b.i:Nat):Int);let d:=((b.ab:Nat):Int);let e:=((b.aq:Nat):Int);let h:=b_.mk l e d b.au b.wh;let f:=(y.1,h);let a:=eE y.1 (hU f) ((y.1.length+2) -l.toNat) (nn h) [];let j:=bM x.2 [bX 3 a.2];let k:=λp:Prop=>aa ([4]:List Int) (aa [x.2] p);(Iv (X3 y x))->ak (aC x.1.au 0) (Iv (bw (y.1,x.1)/\True)/\aa ([124]:List Int) (aa [y.1] (aa [bQ y.1] (aa [x.1.i,x.1.aq,x.1.ab,x.1.au,x.1.wh] (ak r (Iv ((bw f/\True)/\(lvl f+3)<(lvl y+4))/\aa [y.1] (aa [bQ y.1] (aa [l,e,d,b.au,b.wh] (bF (ah j) 24/\∃z:b_×(List (List Nd)),j=z.2/\m (((a.1.i:Nat):Int)=z.1.i/\((a.1.aq:Nat):Int)=z.1.aq/\((a.1.ab:Nat):Int)=z.1.ab/\a.1.au=z.1.au/\a.1.wh=z.1.wh/\(Iv (X3 y z/\DR y z<DR y x))))))) (Iv (total x.2<=100000/\x.2.length<=100000)/\k (bX 4 x.2=(qS y).2/\m (l=q1/\e=o/\d=q/\b.au=c.au/\b.wh=c.wh/\True)))))))) (Iv (total x.2<=100000/\x.2.length<=100000)/\k (bX 4 x.2=(qS y).2/\m (x.1.i=q1/\x.1.aq=o/\x.1.ab=q/\x.1.au=c.au/\x.1.wh=c.wh/\True)))))))
def X4:∀y,RK y=QnH y:=λy=>by kernel_rfl
def RL (y:(List (Int×Int))×b_):Prop:=let e:=eE y.1 (hU y) ((y.1.length+2) -y.2.i.toNat) (nn y.2) [];let q1:=((e.1.aq:Nat):Int);let k:=((e.1.ab:Nat):Int);let l:=((e.1.i:Nat):Int);let m:=bX 3 e.2;let j:=λp:Prop=>aa [y.1] (aa [bQ y.1] p);(∃z:b_×(List (List Nd)),[]=z.2/\j (y.2.i=z.1.i/\y.2.aq=z.1.aq/\y.2.ab=z.1.ab/\y.2.au=z.1.au/\y.2.wh=z.1.wh/\(Iv (RJ y z))))/\(∀x:b_×(List (List Nd)),let n:=!(az 0 x.1.aq);let o:=az x.1.i (ah y.1);let c:=(y.1,x.1);let q:=a_ y.1 (nn x.1) 41;let h:=!(a_ y.1 (nn x.1) 124);let a:=(yI c).1;let f:=bM x.2 [(yI c).2];let d:=λp:Prop=>aa [x.1.au,x.1.i] (aa [y.1] p);let b:Prop:=(Iv (total x.2<=100000/\x.2.length<=100000)/\aa ([3]:List Int) (aa [x.2] (bX 3 x.2=m/\j (x.1.i=l/\x.1.aq=q1/\x.1.ab=k/\x.1.au=e.1.au/\x.1.wh=e.1.wh/\True))));let g:Prop:=(Iv ((bw c/\E_ c)/\(lvl c+2)<(lvl y+3))/\aa [y.1] (aa [bQ y.1] (aa [x.1.i,x.1.aq,x.1.ab,x.1.au,x.1.wh] (bF (ah f) 24/\∃z:b_×(List (List Nd)),f=z.2/\j (((a.i:Nat):Int)=z.1.i/\((a.aq:Nat):Int)=z.1.aq/\((a.ab:Nat):Int)=z.1.ab/\a.au=z.1.au/\a.wh=z.1.wh/\(Iv (RJ y z/\DR y z<DR y x)))))));(Iv (RJ y x))->ak (aC x.1.au 0) (ak o (Iv (bw c/\True)/\aa ([124]:List Int) (aa [y.1] (aa [bQ y.1] (aa [x.1.i,x.1.aq,x.1.ab,x.1.au,x.1.wh] (ak h (Iv (bw c/\True)/\aa ([41]:List Int) (aa [y.1] (aa [bQ y.1] (aa [x.1.i,x.1.aq,x.1.ab,x.1.au,x.1.wh] (ak q (aa [x.1.au,x.1.i] (aa [y.1] (aa [x.1.aq] (ak n (g) (b))))) (d (g))))))) (d (b))))))) (d (b))) (aa [x.1.au] (b)))
def X5:∀y,RL y=QnI y:=λy=>by kernel_rfl
def RM (y:(List (Int×Int))×b_):Prop:=let O:=(yI y).2;let q1:=(yI y).1;let e:=(o7 y).1;let M:=(o7 y).2.2;let P:=((q1.aq:Nat):Int);let Q:=((q1.i:Nat):Int);let R:=((q1.ab:Nat):Int);let N:=(o7 y).2.1;let J:=((e.aq:Nat):Int);let K:=((e.ab:Nat):Int);let f:=((e.i:Nat):Int);let h:=(y.1,y.2);let b:=(dK h).1;let s:=(dK h).2;let t:=((b.ab:Nat):Int);let u:=((b.i:Nat):Int);let v:=((b.aq:Nat):Int);let w:=b_.mk f J K e.au e.wh;let j:=bp y.1 (nn w) 63;let A:=b_.mk u v t b.au b.wh;let L:=bM [Nd.mk 5 [] N M (a_ y.1 (nn w) 63) 0 1] s;let S:=a_ y.1 (nn A) 42;let c:=bp y.1 (nn A) 42;let B:=((c.aq:Nat):Int);let C:=((c.ab:Nat):Int);let D:=((c.i:Nat):Int);let E:=b_.mk D B C c.au c.wh;let d:=bp y.1 (nn E) 43;let T:=a_ y.1 (nn E) 43;let F:=((d.ab:Nat):Int);let G:=((d.aq:Nat):Int);let H:=((d.i:Nat):Int);let I:=b_.mk H G F d.au d.wh;let a:=bp y.1 (nn I) 63;let U:=a_ y.1 (nn I) 63;let k:=((a.aq:Nat):Int);let l:=((a.ab:Nat):Int);let m:=((a.i:Nat):Int);let n:=b_.mk m k l a.au a.wh;let g:=gp y.1 (nn n);let V:=a_ y.1 (nn n) 123;let o:=λp:Prop=>aa [y.1] (aa [bQ y.1] p);let q:=λp:Prop=>aa ([0,1]:List Int) (aa [y.1] (aa [bQ y.1] p));let r:=λp:Prop=>aa [s] (aa ([5]:List Int) p);Iv ((bw h/\E_ h)/\(lvl h+1)<(lvl y+2))/\aa [y.1] (aa [bQ y.1] (aa [y.2.i,y.2.aq,y.2.ab,y.2.au,y.2.wh] (ak (!(aC b.au 0)) ([]=O/\o (u=Q/\v=P/\t=R/\b.au=q1.au/\b.wh=q1.wh/\True)) ((Iv (bw (y.1,A)/\True)/\aa ([42]:List Int) (aa [y.1] (aa [bQ y.1] (aa [u,v,t,b.au,b.wh] (ak S (∃z:Unit,r (0=N/\(-1)=M/\false=false/\q (D=f/\B=J/\C=K/\c.au=e.au/\c.wh=e.wh/\(Iv (uD y))))) (Iv (bw (y.1,E)/\True)/\aa ([43]:List Int) (aa [y.1] (aa [bQ y.1] (aa [D,B,C,c.au,c.wh] (ak T (∃z:Unit,r (1=N/\(-1)=M/\false=false/\q (H=f/\G=J/\F=K/\d.au=e.au/\d.wh=e.wh/\(Iv (uD y))))) (Iv (bw (y.1,I)/\True)/\aa ([63]:List Int) (aa [y.1] (aa [bQ y.1] (aa [H,G,F,d.au,d.wh] (ak U (∃z:Unit,r (0=N/\1=M/\false=false/\q (m=f/\k=J/\l=K/\a.au=e.au/\a.wh=e.wh/\(Iv (uD y))))) (Iv (bw (y.1,n)/\True)/\aa ([123]:List Int) (aa [y.1] (aa [bQ y.1] (aa [m,k,l,a.au,a.wh] (ak V (Iv (bw (y.1,n)/\E_ (y.1,n))/\aa [y.1] (aa [bQ y.1] (aa [m,k,l,a.au,a.wh] (∃z:Unit,r (g.2.1=N/\g.2.2=M/\false=false/\q (((g.1.i:Nat):Int)=f/\((g.1.aq:Nat):Int)=J/\((g.1.ab:Nat):Int)=K/\g.1.au=e.au/\g.1.wh=e.wh/\(Iv (uD y)))))))) (s=O/\o (m=Q/\k=P/\l=R/\a.au=q1.au/\a.wh=q1.wh/\True))))))))))))))))))))))/\(∀x:Unit,(Iv (uD y))->ak (!(aC e.au 0)) ([]=O/\o (f=Q/\J=P/\K=R/\e.au=q1.au/\e.wh=q1.wh/\True)) (Iv (bw (y.1,w)/\True)/\aa ([63]:List Int) (aa [y.1] (aa [bQ y.1] (aa [f,J,K,e.au,e.wh] (bF (ah L) 72/\L=O/\o (((j.i:Nat):Int)=Q/\((j.aq:Nat):Int)=P/\((j.ab:Nat):Int)=R/\j.au=q1.au/\j.wh=q1.wh/\True)))))))))))
def X6:∀y,RM y=QnJ y:=λy=>by kernel_rfl
def RN (y:(List (Int×Int))×b_):Prop:=let e:=(dK y).1;let q1:=(dK y).2;let s:=y.2.i.toNat;let n:=((e.i:Nat):Int);let o:=((e.ab:Nat):Int);let q:=((e.aq:Nat):Int);let k:=d_ y.1 (nn y.2);let l:=rQ y.1 (nn y.2);let d:=(y.1,y.2);let r:=(mU d).1;let f:=Ps.ax y.1 (nn y.2) s 4;let a:=(gt (0,0) y.1 s).1;let j:=λp:Prop=>aa [y.1] (aa [bQ y.1] (aa [y.2.i,y.2.aq,y.2.ab,y.2.au,y.2.wh] p));let g:=λp:Prop=>aa [y.1] (aa [bQ y.1] p);let h:Prop:=(g (aD .i64 y.2.i 1=n/\y.2.aq=q/\y.2.ab=o/\y.2.au=e.au/\y.2.wh=e.wh/\True));let m:Prop:=(g (((k.1.i:Nat):Int)=n/\((k.1.aq:Nat):Int)=q/\((k.1.ab:Nat):Int)=o/\k.1.au=e.au/\k.1.wh=e.wh/\True));let c:Prop:=(Iv True/\aa [a] (([Nd.mk 2 (eg a) 0 0 false 0 0]:List Nd)=q1/\h));let b:Prop:=(Iv (bw d/\0<=y.2.i/\y.2.i<(y.1.length:Int))/\aa ([y.2.i,4]:List Int) (aa [y.1] (aa [bQ y.1] (aa [y.2.i,y.2.aq,y.2.ab,y.2.au,y.2.wh] ([]=q1/\g (((f.i:Nat):Int)=n/\((f.aq:Nat):Int)=q/\((f.ab:Nat):Int)=o/\f.au=e.au/\f.wh=e.wh/\True))))));Iv (bw d/\0<=y.2.i/\y.2.i<(y.1.length:Int))/\aa [y.2.i] (aa [y.1] (aa [bQ y.1] (aa [y.2.i,y.2.aq,y.2.ab,y.2.au,y.2.wh] (ak (fi y.1 s) (b) (aI 0 y.2.i/\az y.2.i (ah y.1)/\ak (aC a 40) (Iv ((bw d/\E_ d)/\lvl d<(lvl y+1))/\j ((mU d).2=q1/\g (((r.i:Nat):Int)=n/\((r.aq:Nat):Int)=q/\((r.ab:Nat):Int)=o/\r.au=e.au/\r.wh=e.wh/\True))) (ak (aC a 91) (Iv (bw d/\E_ d)/\j (l.2=q1/\g (((l.1.i:Nat):Int)=n/\((l.1.aq:Nat):Int)=q/\((l.1.ab:Nat):Int)=o/\l.1.au=e.au/\l.1.wh=e.wh/\True))) (ak (aC a 92) (ak (DQ d) (Iv (bw d/\GD (d,true))/\j (([Nd.mk 2 [] 0 0 false 0 0]:List Nd)=q1/\m)) (Iv (bw d/\GD (d,false))/\j (([Nd.mk 2 k.2.1 0 0 false 0 0]:List Nd)=q1/\m))) (ak (aC a 46) (Iv True/\([Nd.mk 2 WR 0 0 false 0 0]:List Nd)=q1/\h) (ak (aC a 94) (([Nd.mk 7 [] 0 0 false 0 0]:List Nd)=q1/\h) (ak (aC a 36) (([Nd.mk 8 [] 0 0 false 0 0]:List Nd)=q1/\h) (ak (aC a 42) (ak (aC a 42) (b) (c)) (ak (aC a 43) (ak (aC a 43) (b) (c)) (ak (aC a 63) (ak (aC a 63) (b) (c)) (ak (aC a 41) (ak (aC a 41) (b) (c)) (ak (aC a 93) (ak (aC a 93) (b) (c)) (ak (aC a 123) (ak (aC a 123) (b) (c)) (ak (aC a 125) (ak (aC a 125) (b) (c)) (ak (aC a 124) (b) (c)))))))))))))))))))
def X7:∀y,RN y=QnK y:=λy=>by kernel_rfl
def RO (y:(List (Int×Int))×b_):Prop:=let b:=(mU y).1;let q1:=(mU y).2;let V:=y.2.i.toNat;let A:=((b.aq:Nat):Int);let B:=((b.i:Nat):Int);let C:=((b.ab:Nat):Int);let q6:=aD .i64 y.2.i 1;let q7:=b_.mk q6 y.2.aq y.2.ab y.2.au y.2.wh;let j:=bp y.1 (nn q7) 63;let q9:=a_ y.1 (nn q7) 63;let k:=((j.ab:Nat):Int);let l:=((j.aq:Nat):Int);let m:=((j.i:Nat):Int);let G:=aD .i64 k 1;let W:=aD .i64 l 1;let h:=b_.mk m l k j.au j.wh;let a:=bp y.1 (nn h) 58;let q17:=!(a_ y.1 (nn h) 58);let o:=((a.ab:Nat):Int);let q:=((a.aq:Nat):Int);let r:=((a.i:Nat):Int);let s:=Ps.ax y.1 (nn h) V 10;let t:=Ps.ax y.1 (nn h) V 13;let X:=aD .i64 q 1;let D:=(y.1,b_.mk m W G j.au j.wh);let c:=(qS D).1;let H:=((c.i:Nat):Int);let I:=((c.ab:Nat):Int);let J:=cQ .i64 ((c.aq:Nat):Int) 1;let E:=bM [Nd.mk 6 [] 0 0 false G 1] (qS D).2;let F:=b_.mk r q o a.au a.wh;let u:=(y.1,b_.mk r X o a.au a.wh);let v:=Ps.ax y.1 (nn F) V 4;let w:=Ps.ax y.1 (nn F) V 10;let d:=(qS u).1;let K:=((d.ab:Nat):Int);let L:=((d.i:Nat):Int);let M:=cQ .i64 ((d.aq:Nat):Int) 1;let N:=b_.mk H J I c.au c.wh;let f:=bp y.1 (nn N) 41;let q40:=!(a_ y.1 (nn N) 41);let O:=((f.ab:Nat):Int);let P:=((f.aq:Nat):Int);let Q:=((f.i:Nat):Int);let R:=b_.mk L M K d.au d.wh;let g:=bp y.1 (nn R) 41;let q46:=!(a_ y.1 (nn R) 41);let S:=((g.i:Nat):Int);let T:=((g.aq:Nat):Int);let U:=((g.ab:Nat):Int);let Y:=b_.mk Q P O f.au f.wh;let x:=Ps.ax y.1 (nn Y) V 4;let Z:=b_.mk S T U g.au g.wh;let z:=Ps.ax y.1 (nn Z) V 4;let e:=λp:Prop=>aa [y.1] (aa [bQ y.1] p);let n:Prop:=(0<=y.2.i/\(y.2.i<(y.1.length:Int)));Iv (bw (y.1,q7)/\True)/\aa ([63]:List Int) (aa [y.1] (aa [bQ y.1] (aa [q6,y.2.aq,y.2.ab,y.2.au,y.2.wh] (ak q9 (Iv (bw (y.1,h)/\True)/\aa ([58]:List Int) (aa [y.1] (aa [bQ y.1] (aa [m,l,k,j.au,j.wh] (ak q17 (Iv (bw (y.1,F)/\n)/\aa ([y.2.i,4]:List Int) (aa [y.1] (aa [bQ y.1] (aa [r,q,o,a.au,a.wh] ([]=q1/\e (((v.i:Nat):Int)=B/\((v.aq:Nat):Int)=A/\((v.ab:Nat):Int)=C/\v.au=b.au/\v.wh=b.wh/\True)))))) (ak (aI 20 q) (Iv (bw (y.1,F)/\n)/\aa ([y.2.i,10]:List Int) (aa [y.1] (aa [bQ y.1] (aa [r,q,o,a.au,a.wh] ([]=q1/\e (((w.i:Nat):Int)=B/\((w.aq:Nat):Int)=A/\((w.ab:Nat):Int)=C/\w.au=b.au/\w.wh=b.wh/\True)))))) (Iv ((bw u/\True)/\(lvl u+4)<(lvl y+0))/\aa [y.1] (aa [bQ y.1] (aa [r,X,o,a.au,a.wh] (ak (aC d.au 0) (Iv (bw (y.1,R)/\True)/\aa ([41]:List Int) (aa [y.1] (aa [bQ y.1] (aa [L,M,K,d.au,d.wh] (ak q46 (Iv (bw (y.1,Z)/\n)/\aa ([y.2.i,4]:List Int) (aa [y.1] (aa [bQ y.1] (aa [S,T,U,g.au,g.wh] ([]=q1/\e (((z.i:Nat):Int)=B/\((z.aq:Nat):Int)=A/\((z.ab:Nat):Int)=C/\z.au=b.au/\z.wh=b.wh/\True)))))) ((qS u).2=q1/\e (S=B/\T=A/\U=C/\g.au=b.au/\g.wh=b.wh/\True))))))) ((qS u).2=q1/\e (L=B/\M=A/\K=C/\d.au=b.au/\d.wh=b.wh/\True)))))))))))) (ak (aI 20 l) (Iv (bw (y.1,h)/\n)/\aa ([y.2.i,10]:List Int) (aa [y.1] (aa [bQ y.1] (aa [m,l,k,j.au,j.wh] ([]=q1/\e (((s.i:Nat):Int)=B/\((s.aq:Nat):Int)=A/\((s.ab:Nat):Int)=C/\s.au=b.au/\s.wh=b.wh/\True)))))) (ak (aI 4 k) (Iv (bw (y.1,h)/\n)/\aa ([y.2.i,13]:List Int) (aa [y.1] (aa [bQ y.1] (aa [m,l,k,j.au,j.wh] ([]=q1/\e (((t.i:Nat):Int)=B/\((t.aq:Nat):Int)=A/\((t.ab:Nat):Int)=C/\t.au=b.au/\t.wh=b.wh/\True)))))) (Iv ((bw D/\True)/\(lvl D+4)<(lvl y+0))/\aa [y.1] (aa [bQ y.1] (aa [m,W,G,j.au,j.wh] (ak (aC c.au 0) (Iv (bw (y.1,N)/\True)/\aa ([41]:List Int) (aa [y.1] (aa [bQ y.1] (aa [H,J,I,c.au,c.wh] (ak q40 (Iv (bw (y.1,Y)/\n)/\aa ([y.2.i,4]:List Int) (aa [y.1] (aa [bQ y.1] (aa [Q,P,O,f.au,f.wh] ([]=q1/\e (((x.i:Nat):Int)=B/\((x.aq:Nat):Int)=A/\((x.ab:Nat):Int)=C/\x.au=b.au/\x.wh=b.wh/\True)))))) (bF (ah E) 72/\E=q1/\e (Q=B/\P=A/\O=C/\f.au=b.au/\f.wh=b.wh/\True))))))) (bF (ah E) 72/\E=q1/\e (H=B/\J=A/\I=C/\c.au=b.au/\c.wh=b.wh/\True))))))))))))
def X8:∀y,RO y=QnL y:=λy=>by kernel_rfl
theorem RP {s:b_} (h:(nn s).aq=(nn y.2).aq):hU (y.1,s)=hU y:=by grind [hU]
theorem RQ {s:b_} (h:(nn s).aq=(nn y.2).aq):lvl (y.1,s)=lvl y:=by grind [lvl]
def xx (y:PS):mD y.1 (hU y):=vp _
structure PsF (G:List Gt) (s:b_):Prop where
 ok:bw (G,s)
 a:gf G (nn s) (nn s)
 zi:((nn s).i:Int)=s.i
 zo:((nn s).aq:Int)=s.aq
 zg:((nn s).ab:Int)=s.ab
 len:G.length<=4096
 il:(nn s).i<=G.length
 ol:(nn s).aq<=20
 gl:(nn s).ab<=4
variable {G:List Gt} {Z:Nat} {s:Ps} {Y:b_} {y:PS} {A:Ps->Ps×List Nd} {l:List (List Nd)}
def bw.f {s:b_} (h:bw (G,s)):PsF G s:=by
 obtain⟨b1,a,b,c,_⟩:G.length<=4096/\(0<=s.i/\s.i<=G.length)/\(0<=s.aq/\s.aq<=20)/\(0<=s.ab/\s.ab<=4)/\_:=id h;exact⟨h,h.adv,Zby a.1,Zby b.1,Zby c.1,b1,by show s.i.toNat<=_;omega,by show s.aq.toNat<=_;omega,by show s.ab.toNat<=_;omega⟩
theorem GO (h:s.au≠0\/a_ G s 124=false):gu G A Z s l=(s,l):=by
 cases Z with
 | zero=>rfl
 | succ Z=>
  grind [gu]
def X9 (h:bw y):qS y=Dq y.1 (hU y) (nn y.2):=by
 have:=(bw.f (G:=y.1) (s:=y.2) h).ol;unfold qS hU;rw[show 21-(nn y.2).aq=(20-(nn y.2).aq)+1 by omega];rfl
theorem QnO (y:PS) (C:GN.pre y):RK y:=by
 obtain⟨h0,_⟩:bw y/\True:=C;have f:=bw.f (G:=y.1) (s:=y.2) h0;have⟨c1,c2⟩:=mE (xx y) f.il f.gl;have u:=X9 h0;have q:qS y=((gu y.1 (hU y) (y.1.length+2-(mT y).1.i) (mT y).1 [(mT y).2]).1,bX 4 (gu y.1 (hU y) (y.1.length+2-(mT y).1.i) (mT y).1 [(mT y).2]).2):=u;unfold RK;simp only[bh,ez,aw,a8,br,je,mJ];refine⟨⟨h0,by grind⟩,⟨(zz (mT y).1,[(mT y).2]),rfl,rfl,rfl,rfl,rfl,rfl,h0.of c1,c1.op,c1.le,by simp,?_,_,λ_=>?_,rfl⟩,λx B=>?_⟩
 ·show total [(mT y).2]+2*1<=_
  have e:total [(mT y).2]=(mT y).2.length:=by simp[total]
  have c3:(mT y).2.length<=3*((mT y).1.i-(nn y.2).i)+1:=c2;show _<=3*((mT y).1.i-(nn y.2).i)+3
  omega
 ·have:(mT y).1.i<=y.1.length:=c1.len;show _<=_+(mT y).1.i
  omega
 ·have⟨s,b⟩:=x;have⟨p,c,D,H,I,n,z,r⟩:=B;simp only at*
  have g:=p.f;rw[<-r] at q;have A:b.length<=10000/\total b<=20000:=by have:=g.il;have:=g.len;omega
  have cs:s.au≠0\/a_ y.1 (nn s) 124=false->qS y=(nn s,bX 4 b):=λh=>by rw[q,GO h]
  refine⟨λl=>⟨p,λj=>?_,λj=>?_⟩,λl=>?_⟩
  ·have o:=c_ j;have a3:=g.a.next o;have hs:bp y.1 (nn s) 124=(nn s).next:=Zac j;have t:bw (y.1,⟨(nn s).next.i,(nn s).next.aq,(nn s).next.ab,(nn s).next.au,(nn s).next.wh⟩):=p.of a3;have d:(nn s).next.aq=(nn y.2).aq:=c;have v:=RP (y:=y) (s:=⟨(nn s).next.i,(nn s).next.aq,(nn s).next.ab,(nn s).next.au,(nn s).next.wh⟩) d;have w:=RQ (y:=y) (s:=⟨(nn s).next.i,(nn s).next.aq,(nn s).next.ab,(nn s).next.au,(nn s).next.wh⟩) d;have⟨k,E⟩:=mE (xx y) (s:=(nn s).next) a3.len a3.gm;rw[hs,v,w];have F:(nn s).next.i<=(mB y.1 (hU y) (nn s).next).1.i:=k.le;have J:(nn s).next.i=(nn s).i+1:=rfl;refine⟨⟨t,ω⟩,?_,(zz (mB y.1 (hU y) (nn s).next).1,b++[(mB y.1 (hU y) (nn s).next).2]),rfl,rfl,rfl,rfl,rfl,rfl,⟨t.of k,k.op.trans c,?_,by simp,?_,?_⟩,?_⟩
   ·grind
   ·show _<=(mB y.1 (hU y) (nn s).next).1.i;omega
   ·show total (b++[_])+2*(b++[_]).length<=3*((mB y.1 (hU y) (nn s).next).1.i-_)+3
    grind [gv]
   ·obtain⟨m,rfl⟩:∃m,n=m+1:=⟨n-1,ω⟩;refine⟨m,λ_=>by show _<=m+(mB y.1 (hU y) (nn s).next).1.i;omega,?_⟩;rw[<-r]
    conv=>rhs;unfold gu
    rw[Zac ⟨l,j⟩];rfl
   ·show 2*(y.1.length-(mB y.1 (hU y) (nn s).next).1.i)+(if (mB y.1 (hU y) (nn s).next).1.au=0 then 1 else 0)<2*(y.1.length-(nn s).i)+(if s.au=0 then 1 else 0)
    grind
  ·grind [bp]
  ·rw[cs (.inl l)];exact⟨⟨ω,ω⟩,rfl,g.zi.symm,g.zo.symm,g.zg.symm,rfl,rfl⟩
theorem qT {r:Int} (h:a_ G s r):bp G s r=s.next:=Zac h
theorem qU {r:Int} (h:a_ G s r=false):bp G s r=s:=Zaa (by grind)
theorem GP (h:¬(s.au=0/\s.i<G.length/\a_ G s 124=false/\¬(a_ G s 41/\0<s.aq))):eE G A Z s l=(s,l):=by
 cases Z with
 | zero=>rfl
 | succ Z=>unfold eE;rw[Zaa h]
theorem QnP (y:PS) (A:My.pre y):RL y:=by
 obtain⟨h0,_⟩:bw y/\True:=A;unfold RL;simp only[bN,bh,ez,aw,a8,br,Zan,Zao];refine⟨⟨(y.2,[]),rfl,rfl,rfl,rfl,rfl,rfl,h0,rfl,Zah _,by simp[total],by simp,_,λ_=>?_,rfl⟩,λx w=>?_⟩
 ·grind
 ·have⟨s,a⟩:=x;have⟨e,b,B,H,I,n,u,o⟩:=w;simp only at*
  have g:=e.f;have F:=g.il;have G:=g.len;have zi:=g.zi;have zo:=g.zo;have v:a.length<=10000/\total a<=20000:=by grind
  rw[pni,<-o];have E:=RP (y:=y) (s:=s) b;have q:=RQ (y:=y) (s:=s) b;have r:yI (y.1,s)=fu y.1 (hU y) (nn s):=by grind [yI]
  rw[r,q];have stop:¬((nn s).au=0/\(nn s).i<y.1.length/\a_ y.1 (nn s) 124=false/\¬(a_ y.1 (nn s) 41/\0<(nn s).aq))->(total a<=100000/\a.length<=100000)/\bX 3 a=bX 3 (eE y.1 (hU y) n (nn s) a).2/\s.i=((eE y.1 (hU y) n (nn s) a).1.i:Int)/\s.aq=((eE y.1 (hU y) n (nn s) a).1.aq:Int)/\s.ab=((eE y.1 (hU y) n (nn s) a).1.ab:Int)/\s.au=(eE y.1 (hU y) n (nn s) a).1.au/\s.wh=(eE y.1 (hU y) n (nn s) a).1.wh:=λh=>by
   rw[GP h];exact⟨⟨ω,ω⟩,rfl,zi.symm,zo.symm,g.zg.symm,rfl,rfl⟩
  have go:s.au=0->s.i<y.1.length->a_ y.1 (nn s) 124=false->¬(a_ y.1 (nn s) 41/\0<s.aq)->((bw (y.1,s)/\E_ (y.1,s))/\lvl y+2<lvl y+3)/\((a++[(fu y.1 (hU y) (nn s)).2]).length:Int)*(24:Nat)<=140737488355328/\∃z:b_×List (List Nd),a++[(fu y.1 (hU y) (nn s)).2]=z.2/\((fu y.1 (hU y) (nn s)).1.i:Int)=z.1.i/\((fu y.1 (hU y) (nn s)).1.aq:Int)=z.1.aq/\((fu y.1 (hU y) (nn s)).1.ab:Int)=z.1.ab/\(fu y.1 (hU y) (nn s)).1.au=z.1.au/\(fu y.1 (hU y) (nn s)).1.wh=z.1.wh/\RJ y z/\DR y z<DR y (s,a):=λh1 c d j=>by
   have hl:(nn s).i<y.1.length:=ω;have⟨l,p,C⟩:=wX (xx y) hl g.gl;have D:(nn s).i<=(fu y.1 (hU y) (nn s)).1.i:=l.le;refine⟨⟨⟨e,c⟩,ω⟩,?_,(zz (fu y.1 (hU y) (nn s)).1,a++[(fu y.1 (hU y) (nn s)).2]),rfl,rfl,rfl,rfl,rfl,rfl,⟨e.of l,l.op.trans b,?_,?_,?_,?_⟩,?_⟩
   ·grind
   ·show _<=(fu y.1 (hU y) (nn s)).1.i;omega
   ·show total (a++[_])<=3*((fu y.1 (hU y) (nn s)).1.i-_)
    rw[gv];omega
   ·show(a++[_]).length<=(fu y.1 (hU y) (nn s)).1.i-_+(if (fu y.1 (hU y) (nn s)).1.au=0 then 0 else 1)
    grind
   ·obtain⟨m,rfl⟩:∃m,n=m+1:=⟨n-1,ω⟩;refine⟨m,λh=>by have:=p h;show _<=m+(fu y.1 (hU y) (nn s)).1.i;omega,?_⟩;rw[<-o]
    conv=>rhs;unfold eE
    rw[Zac ⟨h1,hl,d,λh=>j ⟨h.1,ω⟩⟩];rfl
   ·show 2*(y.1.length-(fu y.1 (hU y) (nn s)).1.i)+(if (fu y.1 (hU y) (nn s)).1.au=0 then 1 else 0)<2*(y.1.length-(nn s).i)+(if s.au=0 then 1 else 0)
    grind
  refine⟨λh1=>⟨λc=>⟨e,λd=>⟨e,λj=>⟨λt=>go h1 c d ω,λt=>stop λk=>k.2.2.2 ⟨j,ω⟩⟩,λj=>go h1 c d λk=>?_⟩,λd=>stop λk=>?_⟩,λc=>stop λk=>?_⟩,λh1=>stop λk=>h1 k.1⟩
  ·grind
  ·grind
  ·omega
def ez2 (a b c:Nat) (e w:Int):nn ⟨a,b,c,e,w⟩=⟨a,b,c,e,w⟩:=rfl
theorem Qdd {y:PS} (h:uD y):yI y=nH y.1 (o7 y).1 (o7 y).2.1 (o7 y).2.2 (dK y).2:=by
 have⟨h1,a⟩:=h;show fu y.1 (hU y) (nn y.2)=_
 unfold fu o7;grind [dK]
theorem Qde {y:PS} (h1:(dK y).1.au=0) (a:a_ y.1 (dK y).1 42=false) (b:a_ y.1 (dK y).1 43=false) (c:a_ y.1 (dK y).1 63=false) (d:a_ y.1 (dK y).1 123=false):yI y=dK y:=by
 show fu y.1 (hU y) (nn y.2)=_
 grind [fu,dK]
theorem X' {y:PS} (h1:(dK y).1.au≠0):yI y=((dK y).1,[]):=by
 show fu y.1 (hU y) (nn y.2)=_
 grind [fu,dK]
theorem QnQ (y:PS) (e:Mz.pre y):RM y:=by
 obtain⟨h0,hi⟩:bw y/\y.2.i<y.1.length:=e;have f:=bw.f (G:=y.1) (s:=y.2) h0;have zi:=f.zi;obtain⟨a,a2,a3⟩:gf y.1 (nn y.2) (dK y).1/\((dK y).1.au=0->(nn y.2).i<(dK y).1.i)/\(dK y).2.length<=3*((dK y).1.i-(nn y.2).i):=zD (xx y) ω f.gl;have o:=h0.of a;have a4:=a.len;have len:=f.len;have j:uD y->bw (y.1,⟨(o7 y).1.i,(o7 y).1.aq,(o7 y).1.ab,(o7 y).1.au,(o7 y).1.wh⟩):=λ⟨_,h⟩=>h0.of (by
  unfold o7;split
  ·exact a.next (c_ ‹_›)
  ·split
   ·exact a.next (c_ ‹_›)
   ·split
    ·exact a.next (c_ ‹_›)
    ·refine(wW a ?_).1;rcases h with h | h | h | h<;>exact c_ h)
 have i2:∀r,a_ y.1 (dK y).1 r->(dK y).1.i<y.1.length:=λr h=>c_ h
 have L:lvl y+1<lvl y+2:=ω;unfold RM;simp only[bh,ez,aw,a8,br,je,mJ,ZaZ,ZaY,Zan,Zao];have m:=@Qde y;have n:=@X' y;have g:=@Qdd y;refine⟨⟨⟨h0,hi⟩,L⟩,λb=>?_,λb=>⟨?_,λc=>?_⟩⟩
 ·grind
 ·have p:a_ y.1 (dK y).1 42->uD y:=λh=>⟨b,.inl h⟩
  have q:a_ y.1 (dK y).1 43->uD y:=λh=>⟨b,.inr (.inl h)⟩
  have t:a_ y.1 (dK y).1 63->uD y:=λh=>⟨b,.inr (.inr (.inl h))⟩
  have u:a_ y.1 (dK y).1 123->uD y:=λh=>⟨b,.inr (.inr (.inr h))⟩
  have l:o7 y=if a_ y.1 (dK y).1 42 then((dK y).1.next,0,-1) else if a_ y.1 (dK y).1 43 then((dK y).1.next,1,-1) else if a_ y.1 (dK y).1 63 then((dK y).1.next,0,1) else gp y.1 (dK y).1:=rfl
  grind [E_,qT,qU]
 ·rw[g c];have d:=j c;unfold nH;refine⟨λk=>by grind,λk=>?_⟩;rw[Zaa ω];exact⟨d,by grind,rfl,rfl,rfl,rfl,rfl,rfl⟩
theorem QnR (y:PS) (g:RH.pre y):RN y:=by
 obtain⟨h0,hi⟩:bw y/\y.2.i<y.1.length:=g;have⟨c,l,hl,j,m⟩:=h0.X1 hi;have f:=bw.f (G:=y.1) (s:=y.2) h0;have i0:0<=y.2.i:=h0.2.1.1;have zi:=f.zi;have a:y.2.i+1=((nn y.2).next.i:Int):=by simp_all
 have zo:=f.zo;have zg:=f.zg;have eF:dK y=jd y.1 (hU y) (nn y.2):=rfl;unfold jd at eF;have e:(y.1.getD (nn y.2).i (0,0)).1=aK y.1 (nn y.2).i:=rfl;have k:hZ y.1 (hU y) (nn y.2)=mU y:=rfl;have b:DQ y=decide ((d_ y.1 (nn y.2)).2.1=[]):=rfl;unfold RN;simp only[bN,bh,ez,aw,c,pni,di,E_];rw[e];generalize aK y.1 (nn y.2).i=r at*
 generalize dK y=at_ at*
 cases d:fi y.1 (nn y.2).i with
 | true=>
  grind []
 | false=>
  simp only[d,ZaE,Za0] at eF;simp only[reduceCtorEq,ZbV,ZaX,Zal];refine⟨⟨h0,i0,hi⟩,i0,hi,λk1=>?_,λk1=>⟨λk2=>?_,λk2=>⟨λk3=>?_,λk3=>⟨λk4=>?_,λk4=>⟨λk5=>?_,λk5=>⟨λk6=>?_,λk6=>?_⟩⟩⟩⟩⟩⟩
  ·grind
  ·grind
  ·simp only[k1,k2,k3,Zbv,Za0] at eF;subst eF;refine⟨λh=>⟨⟨h0,hi,h.symm⟩,?_,rfl,rfl,rfl,rfl,rfl⟩,λh=>⟨⟨h0,hi,h.symm⟩,rfl,rfl,rfl,rfl,rfl,rfl⟩⟩;rw[h] at b;have:=ZaH b.symm;simp only[this];rfl
  ·simp only[k1,k2,k3,k4,Zbv,Za0] at eF;subst eF;exact⟨rfl,a,zo.symm,zg.symm,rfl,rfl⟩
  ·simp only[k1,k2,k3,k4,k5,Zbv,Za0] at eF;subst eF;exact⟨rfl,a,zo.symm,zg.symm,rfl,rfl⟩
  ·simp only[k1,k2,k3,k4,k5,k6,Zbv,Za0] at eF;subst eF;exact⟨rfl,a,zo.symm,zg.symm,rfl,rfl⟩
  ·have w:(r=42\/r=43\/r=63\/r=41\/r=93\/r=123\/r=125\/r=124)->at_=((nn y.2).ax y.1 (nn y.2).i 4,[]):=λh=>by grind
   have n:¬(r=42\/r=43\/r=63\/r=41\/r=93\/r=123\/r=125\/r=124)->at_=((nn y.2).next,[wT (eg r)]):=λh=>by grind
   with_reducible repeat' first | apply And.intro | intro _
   all_goals first
    | assumption
    | (exfalso;omega)
    | (rw[w ω];done)
    | (rw[n ω];done)
    | (rw[n ω];first | rfl | exact a | exact zo.symm | exact zg.symm)
theorem Kc {s:b_} (h:(nn s).aq=(nn y.2).aq+1):qS (y.1,s)=hU y (nn s):=by
 unfold qS hU;grind
theorem RR (h:(nn Y).aq=(nn y.2).aq+1) (a:(nn y.2).aq<20):lvl (y.1,Y)+4<lvl y:=by
 grind [lvl]
theorem Kd {n:Nat} (h:n<=1000000):aD .i64 (n:Int) 1=((n+1:Nat):Int):=by grind
theorem zZ (h:1<=Z) (a:Z<=1000000):cQ .i64 (Z:Int) 1=((Z-1:Nat):Int):=by grind
structure Grp (y:PS) (s:Ps):Prop where
 a:gf y.1 (nn y.2) s
 o:s.aq<20
theorem Grp.QgV {y:PS} {s:Ps} {g:Nat} (h0:bw y) (h:Grp y s) (f:g=s.ab\/g=s.ab+1/\s.ab<4):bw (y.1,⟨s.i,((s.aq+1:Nat):Int),(g:Int),s.au,s.wh⟩):=by
 obtain⟨b1,c,d,e,b⟩:y.1.length<=4096/\(0<=y.2.i/\y.2.i<=y.1.length)/\(0<=y.2.aq/\y.2.aq<=20)/\(0<=y.2.ab/\y.2.ab<=4)/\Fx y.1:=h0;have:=h.a.len;have:=h.a.gm;have:=h.o;exact⟨b1,⟨ZaF _,by grind⟩,⟨ZaF _,by grind⟩,⟨ZaF _,by grind⟩,b⟩
theorem Grp.out {y:PS} {s:Ps} {g:Nat} (h0:bw y) (h:Grp y s) (j:g=s.ab\/g=s.ab+1/\s.ab<4):∀a,a=hU y ⟨s.i,s.aq+1,g,s.au,s.wh⟩->a.1.aq=s.aq+1/\gf y.1 (nn y.2) { a.1 with aq:=a.1.aq-1 }/\a.2.length<=20000:=λa b=>by
 have h1:=h.a.len;have c:=h.a.gm;have⟨c1,c2⟩:=xx y ⟨s.i,s.aq+1,g,s.au,s.wh⟩ h1 (by grind);rw[<-b] at c1 c2;have c3:a.1.aq=s.aq+1:=c1.op;have c5:=c1.len;have c6:s.i<=a.1.i:=c1.le;have c7:g<=a.1.ab:=c1.gr;have c8:y.1.length<=4096:=h0.1;have d:=h.a.le;have e:=h.a.op;have f:=h.a.gr;exact⟨c3,⟨by grind,c5,by grind,by grind,c1.gm⟩,ω⟩
def z6 (G:List Gt) (c:Nat) (a:Ps×List Nd) (l:List Nd):Ps×List Nd:=
 let b:Ps:={ a.1 with aq:=a.1.aq-1 }
 if b.au=0/\a_ G b 41=false then(b.ax G c 4,[]) else(if b.au=0 then b.next else b,l)
theorem QnS (y:PS) (P:RI.pre y):RO y:=by
  obtain⟨h0,hi⟩:bw y/\y.2.i<y.1.length:=P;have⟨L,O,hl,w,Q⟩:=h0.X1 hi;have i0:0<=y.2.i:=h0.2.1.1;have eF:∀free,a_ y.1 (nn y.2).next 63=free->mU y=
      (let A:=if free then(nn y.2).next.next else(nn y.2).next
       if free/\a_ y.1 A 58=false then(A.ax y.1 (nn y.2).i 4,[])
       else
        let s3:=if free then A.next else A
        if 20<=s3.aq then(s3.ax y.1 (nn y.2).i 10,[])
        else if free=false/\4<=s3.ab then(s3.ax y.1 (nn y.2).i 13,[])
        else
          let g:=if free then s3.ab else s3.ab+1
          let a:=hU y ⟨s3.i,s3.aq+1,g,s3.au,s3.wh⟩
          z6 y.1 (nn y.2).i a (if free then a.2 else { nd 6 with cap:=g,af:=1 }::a.2)):=λfree h=>by
    show hZ y.1 (hU y) (nn y.2)=_
    grind [hZ,z6]
  have v:∀(a:Ps) (b:Ps×List Nd),b.1=a->(a.i:Int)=b.1.i/\(a.aq:Int)=b.1.aq/\(a.ab:Int)=b.1.ab/\a.au=b.1.au/\a.wh=b.1.wh:=λa b h=>by grind
  
  have K:∀(s:Ps) (g:Nat) (a:Ps×List Nd) (r l:List Nd),Grp y s->(g=s.ab\/g=s.ab+1/\s.ab<4)->a=hU y ⟨s.i,s.aq+1,g,s.au,s.wh⟩->mU y=z6 y.1 (nn y.2).i a l->r=l->
      cQ .i64 (a.1.aq:Int) 1=((a.1.aq-1:Nat):Int)/\((r.length:Int)*(72:Nat)<=140737488355328\/a.2.length+1<r.length)/\
      (a.1.au=0->bw (y.1,⟨a.1.i,((a.1.aq-1:Nat):Int),a.1.ab,a.1.au,a.1.wh⟩)/\
        (a_ y.1 { a.1 with aq:=a.1.aq-1 } 41=false->[]=(mU y).2/\(mU y).1=Ps.ax y.1 { a.1 with aq:=a.1.aq-1 } (nn y.2).i 4)/\
        (a_ y.1 { a.1 with aq:=a.1.aq-1 } 41->r=(mU y).2/\(mU y).1=Ps.next { a.1 with aq:=a.1.aq-1 }))/\
      (a.1.au≠0->r=(mU y).2/\(mU y).1={ a.1 with aq:=a.1.aq-1 }):=λs g a r l H z p N T=>by
    have⟨c1,c2,c3⟩:=H.out h0 z a p;have c4:=H.o;unfold z6 at N;refine⟨zZ ω ω,ω,λk=>⟨h0.of c2,λk2=>?_,λk2=>?_⟩,λk=>?_⟩
    all_goals grind
  unfold RO;simp only[bN,bh,L,O,ez,pni,aw,a8,br,Zan,Zao,Zbn];generalize (nn y.2).next=c at*
  refine⟨Q,λu=>?_,λu=>?_⟩
  · have e:=eF true u;have a2:=w.next (c_ u);have I:=h0.of a2;rw[qT u];refine⟨I,λt=>?_,λt=>?_⟩
    · rw[qU t];rw[show mU y=(c.next.ax y.1 (nn y.2).i 4,[]) by rw[e];exact Zac ⟨rfl,t⟩];exact⟨⟨I,i0,hi⟩,rfl,rfl,rfl,rfl,rfl,rfl⟩
    · have a3:=a2.next (c_ t);have R:=h0.of a3;have e:=e.trans (Zaa (λq=>by rw[Zac rfl,t] at q;cases q.2));rw[qT t];refine⟨λm=>?_,λm=>?_⟩
      · rw[show mU y=(c.next.next.ax y.1 (nn y.2).i 10,[]) from e.trans (Zac (show 20<=c.next.next.aq by omega))];exact⟨⟨R,i0,hi⟩,rfl,rfl,rfl,rfl,rfl,rfl⟩
      · have G:Grp y c.next.next:=⟨a3,ω⟩;have e:=(e.trans (Zaa (show ¬20<=c.next.next.aq by omega))).trans (Zaa (λq=>by cases q.1));have op:c.next.next.aq+1=(nn y.2).aq+1:=by rw[a3.op]
        rw[Kd ω,Kc (y:=y) (s:=⟨(c.next.next.i:Nat),((c.next.next.aq+1:Nat):Int),(c.next.next.ab:Nat),c.next.next.au,c.next.next.wh⟩) op,ez2];generalize p:hU y ⟨c.next.next.i,c.next.next.aq+1,c.next.next.ab,c.next.next.au,c.next.next.wh⟩=a;have e:mU y=z6 y.1 (nn y.2).i a a.2:=by rw[e,<-p];rfl
        have⟨B,_,C,D⟩:=K _ _ a a.2 a.2 G (.inl rfl) p.symm e rfl;rw[B,ez2];refine⟨⟨G.QgV h0 (.inl rfl),RR op ω⟩,λk=>?_,λk=>?_⟩
        · have⟨x,E,F⟩:=C k;refine⟨x,λj=>?_,λj=>?_⟩
          · rw[qU j];have⟨d,f⟩:=E j;exact⟨⟨x,i0,hi⟩,d,v _ _ f⟩
          · rw[qT j];have⟨d,f⟩:=F j;exact⟨d,v _ _ f⟩
        · have⟨d,f⟩:=D k;exact⟨d,v _ _ f⟩
  · have e:=eF false u;rw[qU u];refine⟨λm=>?_,λm=>⟨λM=>?_,λM=>?_⟩⟩
    · rw[show mU y=(c.ax y.1 (nn y.2).i 10,[]) from e.trans (Zac (show 20<=c.aq by omega))];exact⟨⟨h0.of w,i0,hi⟩,rfl,rfl,rfl,rfl,rfl,rfl⟩
    · rw[show mU y=(c.ax y.1 (nn y.2).i 13,[]) from(e.trans (Zaa (show ¬20<=c.aq by omega))).trans (Zac ⟨rfl,show 4<=c.ab by omega⟩)];exact⟨⟨h0.of w,i0,hi⟩,rfl,rfl,rfl,rfl,rfl,rfl⟩
    · have G:Grp y c:=⟨w,ω⟩;have e:=(e.trans (Zaa (show ¬20<=c.aq by omega))).trans (Zaa (λq=>by have:4<=c.ab:=q.2;omega));have op:c.aq+1=(nn y.2).aq+1:=by rw[w.op]
      have z:c.ab+1=c.ab\/c.ab+1=c.ab+1/\c.ab<4:=.inr ⟨rfl,ω⟩;rw[Kd (n:=c.aq) ω,Kd (n:=c.ab) ω,Kc (y:=y) (s:=⟨(c.i:Nat),((c.aq+1:Nat):Int),((c.ab+1:Nat):Int),c.au,c.wh⟩) op,ez2];generalize p:hU y ⟨c.i,c.aq+1,c.ab+1,c.au,c.wh⟩=a;have e:mU y=z6 y.1 (nn y.2).i a ({ nd 6 with cap:=((c.ab+1:Nat):Int),af:=1 }::a.2):=by rw[e,<-p];rfl
      have⟨B,S,C,D⟩:=K _ _ a ([Nd.mk 6 [] 0 0 false ((c.ab+1:Nat):Int) 1]++a.2) _ G z p.symm e rfl;have J:((([Nd.mk 6 [] 0 0 false ((c.ab+1:Nat):Int) 1]++a.2).length:Nat):Int)*(72:Nat)<=140737488355328:=by
        rcases S with h | h
        · exact h
        · rw[Zab,ZbA] at h;omega
      rw[B,ez2];refine⟨⟨G.QgV h0 z,RR op ω⟩,λk=>?_,λk=>?_⟩
      · have⟨x,E,F⟩:=C k;refine⟨x,λj=>?_,λj=>?_⟩
        · rw[qU j];have⟨d,f⟩:=E j;exact⟨⟨x,i0,hi⟩,d,v _ _ f⟩
        · rw[qT j];have⟨d,f⟩:=F j;exact⟨J,d,v _ _ f⟩
      · have⟨d,f⟩:=D k;exact⟨J,d,v _ _ f⟩
inductive Fm where
 | ay | cat | rep | yJ | uE
variable {G:List Gt}
def fmC:Fm->bk D
 | .ay=>GN | .cat=>My | .rep=>Mz | .yJ=>RH | .uE=>RI
def QnT:∀i,(fmC i).Y->Nat
 | .ay=>λy=>lvl y+4 | .cat=>λy=>lvl y+3 | .rep=>λy=>lvl y+2 | .yJ=>λy=>lvl y+1 | .uE=>λy=>lvl y
def fmF:Fm->Func
 | .ay=>f114 | .cat=>f173 | .rep=>f213 | .yJ=>f245 | .uE=>f264
def QgW:Fm->s6
 | .ay=>[s_,yG] | .cat=>[Wa,yG] | .rep=>[s_,Wa,GL] | .yJ=>[yF,qj,GK,yH,Ra,DP] | .uE=>[s_,qj]
def fmO:∀i,(fmC i).Y->cU D
 | .ay=>QgR | .cat=>QgS | .rep=>QgT | .yJ=>λ_=>dr () | .uE=>λ_=>dr ()
def fmL:List Fm:=[.ay,.cat,.rep,.yJ,.uE]
set_option maxRecDepth 100000 in
theorem QnU (b:Ok cK) (c:Ok xu):∀i,Ok (fmC i):=
 w9 fmL fmC QnT (fn:=fmF) (tab:=QgW) (jb:=fmO)
  (λi=>match i with
   | .ay=>⟨zX,QaI⟩ | .cat=>⟨isOk,QaI⟩ | .rep=>⟨zX,isOk,QgO c⟩ | .yJ=>⟨Rr,uf,QgP b,QaK b,okZ [Gi] f267 (λ_=>dr ()) (Qaz b) Qnm,QaH b⟩ | .uE=>⟨zX,uf⟩)
  (λi=>match i with
   | .ay=>by kernel_rfl | .cat=>by kernel_rfl | .rep=>by kernel_rfl | .yJ=>by kernel_rfl | .uE=>by kernel_rfl)
  (λi=>match i with
   | .ay=>by kernel_rfl | .cat=>by kernel_rfl | .rep=>by kernel_rfl | .yJ=>by kernel_rfl | .uE=>by kernel_rfl)
  λi=>match i with
   | .ay=>λy a=>Eq.mp (X4 y) (QnO y a) | .cat=>λy a=>Eq.mp (X5 y) (QnP y a) | .rep=>λy a=>Eq.mp (X6 y) (QnQ y a) | .yJ=>λy a=>Eq.mp (X7 y) (QnR y a) | .uE=>λy a=>Eq.mp (X8 y) (QnS y a)
def ck (y:By):List Nd×Int×Int:=if 120<y.length then([],2,0) else wU (bf y)
def yK:bk D:=bP 75 By (λa _=>XE a) (λ_=>True) (λy=>[.str y]) λy=>.tuple [.list 7 (ck y).1,QtJ (ck y).2.1,QtJ (ck y).2.2]
def X_ (y:By) (x:Nat):Prop:=x<=(bf y).length
def QnV (y:yK.Y):cU D:=⟨[],[],[(250,⟨Nat,[21,22],λx=>[(5,.ptr 0 0),(6,QtJ (aF (bf y) x)),(23,QtJ x)],[],λx=>[(0,.cells [.list 13 (bf y),.grow 5 ((bQ (bf y)).take x) 1,QtJ 0,QtJ 0,QtJ 0,QtJ 0,QtJ 0] 190 false),(1,.tok 5 3)],2,X_ y,λx=>(bf y).length-x⟩)],[],1,[]⟩
def RS (y:List UInt8):Prop:=let a:=bf y;let q1:=bQ a;let m:=a.length;let n:=ah a;let o:=(ck y).2.1;let q:=(ck y).2.2;let r:=eE a (qI a 20) ((m+2) -0) (nn (b_.mk 0 0 0 0 0)) [];let b:=gu a (qI a 20) ((m+2) -r.1.i) r.1 [bX 3 r.2];let d:=((b.1.i:Nat):Int);let s:=((b.1.aq:Nat):Int);let f:=((b.1.ab:Nat):Int);let g:=aC b.1.au 0;let h:=b_.mk d s f b.1.au b.1.wh;let c:=Ps.ax a (nn h) d.toNat 4;let e:=λp:Prop=>aa ([0,0,0,0,0]:List Int) p;let j:Prop:=(bX 4 b.2=(ck y).1/\0=o/\0=q/\True);let k:Prop:=(ak (!g) (RAQ b.1.au b.1.wh ([]=(ck y).1/\b.1.au=o/\b.1.wh=q/\True)) (j));ak (az 120 (dS y)) ([]=(ck y).1/\2=o/\0=q/\True) (Iv (y.length<=1000000)/\RAP y ((∃z:Nat,aa [a] (aa [n] (0=aF a z/\0=(z:Int)/\aa [a] ([]=List.take z q1/\e ((Iv (X_ y z)))))))/\(∀x:Nat,let l:=bM (List.take x q1) [aF a x];(Iv (X_ y x))->ak (az (x:Int) n) (aI 0 (x:Int)/\az (x:Int) n/\bF (ah l) 8/\∃z:Nat,aa [a] (aa [n] (aD .i64 (aF a x) (gt (0,0) a (x:Int).toNat).2=aF a z/\aD .i64 (x:Int) 1=(z:Int)/\aa [a] (l=List.take z q1/\e ((Iv (X_ y z/\(m-z)<(m-x)))))))) (Iv (bw (a,b_.mk 0 0 0 0 0)/\True)/\aa [a] (List.take x q1=q1/\e (ak g (aa [b.1.au,d] (aa [a] (ak (az d n) (Iv (bw (a,h)/\0<=d/\d<(m:Int))/\aa ([d,4]:List Int) (aa [a] (aa [q1] (aa [d,s,f,b.1.au,b.1.wh] (ak (!(aC c.au 0)) (aa [c.au,c.wh] ([]=(ck y).1/\c.au=o/\c.wh=q/\True)) (j)))))) (k)))) (aa [b.1.au] (k))))))))
theorem nL:∀(n:Nat) (l:By),(iL n l).length<=l.length/\∀g∈iL n l,1<=g.2/\g.2<=4
 | 0,l=>⟨by grind [iL],λg h=>by grind [iL]⟩
 | n+1,l=>by
  by_cases h:l=[]
  ·grind [mK]
  ·have d:=Zbe.2 h;rcases kT l with h0 | ⟨m,a,h1,b,c⟩
   ·rw[mM h h0];obtain⟨i1,i2⟩:=nL n (l.drop 1);grind
   ·rw[oZ h a h1];obtain⟨i1,i2⟩:=nL n (l.drop m);grind
def DS (y:By):(bf y).length<=y.length:=(nL _ y).1
theorem ib {i:Nat} (h:i<G.length):aF G (i+1)=aF G i+(G.getD i (0,0)).2:=by
 grind [aF,List.take_succ]
theorem xy (a:∀g∈G,1<=g.2/\g.2<=4):∀i,i<=G.length->0<=aF G i/\aF G i<=4*i
 | 0,_=>by simp[aF]
 | i+1,h=>by
  have:=xy a i ω;grind [ib]
theorem QnX (y:By) (p:yK.pre y):RS y:=by
 have hl:=DS y;have w:=(nL y.length y).2;have m:=xy (G:=bf y) w;obtain⟨b,_⟩:=vp (G:=bf y) 21 N_ (Zaj _) (Zaj _);have v:=F7 y;unfold RS;simp only[bN,bh,ez,aw,lQ,a8,br,Zad,Zan,Zao,di];obtain⟨c,n⟩:∃c,eE (bf y) (qI (bf y) 20) ((bf y).length+2-0) (nn ⟨0,0,0,0,0⟩) []=c:=⟨_,rfl⟩;rw[n];obtain⟨d,o⟩:∃d,gu (bf y) (qI (bf y) 20) ((bf y).length+2-c.1.i) c.1 [bX 3 c.2]=d:=⟨_,rfl⟩;rw[o];have u:qI (bf y) 21 N_=(d.1,bX 4 d.2):=by rw[<-o,<-n];rfl
 rw[u] at b;have r:=b.len;have f:=b.op;have t:=b.gm;simp only at r f t;have f:d.1.aq=0:=f;have B:120<y.length->ck y=([],2,0):=λh=>Zac h
 obtain⟨s,hs⟩:∃s,(if d.1.au=0/\d.1.i<(bf y).length then d.1.ax (bf y) d.1.i 4 else d.1)=s:=⟨_,rfl⟩;have k:¬120<y.length->ck y=if s.au≠0 then([],s.au,s.wh) else(bX 4 d.2,0,0):=λh=>by
  grind [ck,wU]
 have A:=fj (G:=bf y) d.1 d.1.i (e:=4) (by decide);refine⟨λh=>by grind,λh=>⟨ω,⟨0,by rfl,rfl,by simp,Zaj _⟩,λx C=>⟨λl=>?_,λl=>?_⟩⟩⟩
 ·have a:x<(bf y).length:=ω;have b1:=m x ω;have q:=m (x+1) ω;rw[ib a] at q;have z:=xn (bf y);refine⟨ω,l,by simp;omega,x+1,?_,bG ω ω,?_,by assumption,ω⟩
  ·rw[bG ω ω,ib a]
  ·rw[ZbE,Zaf ω];have:=Ka a 0;grind
 ·have k:=k ω;have V':bw (bf y,⟨0,0,0,0,0⟩):=⟨by grind,⟨ZaQ _,by grind⟩,⟨ZaQ _,by grind⟩,⟨ZaQ _,by grind⟩,v⟩;have j:bw (bf y,⟨d.1.i,d.1.aq,d.1.ab,d.1.au,d.1.wh⟩):=V'.of b;refine⟨V',?_,λg=>⟨λhi=>⟨⟨j,ω,hi⟩,λhw=>?_,λhw=>absurd hw A⟩,λhi=>⟨λhw=>absurd g hw,λ_=>?_⟩⟩,λg=>⟨λ_=>?_,λhw=>absurd hw g⟩⟩
  ·grind [List.take_of_length_le,xn]
  ·grind
  ·grind
  ·grind
def QaM (b:Ok cK) (a:Ok xu):Ok yK:=okZ [Ga,GN,qj] f75 QnV ⟨QfM,QnU b a .ay,uf⟩ QnX
end
end sx
end Go.Proofs.YtiiiphndmbabcaaGreat
