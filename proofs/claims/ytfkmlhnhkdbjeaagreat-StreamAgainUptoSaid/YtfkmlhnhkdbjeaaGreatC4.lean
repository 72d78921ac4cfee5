/- StreamAgain: a part of the proof. -/
import Derived.Test.YtfkmlhnhkdbjeaaGreatC3
set_option linter.all false
namespace Go.Proofs.YtfkmlhnhkdbjeaaGreat
open Go.Proofs.Tryz
set_option maxRecDepth 100000
set_option maxHeartbeats 4000000
namespace sx
noncomputable section
open Go Go.RowKit cls syn
variable {i:Nat} {y:List Rg}
def Qgq (h:i<y.length) (r:Int):bh (y.drop i) r=((decide ((y.getD i (0,0)).1<=r)&&decide (r<=(y.getD i (0,0)).2))||bh (y.drop (i+1)) r):=Sv (getD_eq h (0,0)) r
theorem Qki (y:List Rg×Int) (a:IU.pre y):Ml y:=by
 have⟨l,r⟩:=y;unfold Ml;simp only[bN,ej,aw,gt,Zad];intro hl;refine⟨⟨0,rfl,Zaj _,rfl⟩,λi hi=>?_⟩;have⟨h1,b⟩:=hi.out;rw[b];refine⟨λh=>⟨ω,h,?_⟩,λh=>?_⟩
 ·rw[Qgq (show i<l.length by omega)];grind
 ·rw[Zbu ω];rfl
def Qkj:Ok IU:=okZ [] f168 Qrs trivial Qki
theorem Qkk (y:List Rg×Int) (a:yj.pre y):IW y:=by
 have hs:=Qki y a;unfold IW;unfold Ml at hs;simp only[bN,ej,aw,gt,Zad] at hs ⊢;grind
def TM:Ok yj:=okZ [] f195 Qj7 trivial Qkk
theorem Bm {α:Type} {a b:List α} (d:α) (c:i<a.length) (f:i<b.length) (h:a.take i=b.take i) (e:a.getD i d=b.getD i d):a.take (i+1)=b.take (i+1):=by
 grind [List.take_succ]
theorem Qry (y:List Rg×List Rg) (a:Fv.pre y):TD y:=by
 unfold TD;simp only[bN,ej,aw,gt,Zad,Zan,Zao,ZaW,Zbz];grind [Bm]
def QdZ:Ok Fv:=okZ [] f181 Qro trivial Qry
def Qrz (y:List Rg) (a:Fw.pre y):TE y:=by
 unfold TE;simp only[ej];exact⟨⟨a⟩,⟨trivial⟩⟩
def Qd0 (h:Ok cW):Ok Fw:=okZ [cW,Fv] f154 Qrq ⟨h,QdZ⟩ Qrz
def Α {l:List Rg} (h:i<(aY l).length):vw ((aY l).getD i (0,0)):=(eg l).1.1 _ (ZaJ (getD_eq h (0,0)))
def TN (l:List Rg):(aY l).length<=2*l.length:=(eg l).2.2
theorem QrA (y:List Rg) (a:IT.pre y):TC y:=by
 have a:y.length<=1000000:=a;have f:=TN y;unfold TC;simp only[bN,ej,aw,a_,bq,gt,Zad];refine⟨⟨ω⟩,⟨(0,[],0),rfl,rfl,rfl,rfl,Zaj _,rfl⟩,λx c=>?_⟩;have⟨i,out,nx⟩:=x;have⟨h1,d,e⟩:=c.out;simp only at*
 refine⟨λh=>?_,λh=>?_⟩
 ·have⟨g1,g2,g3,_⟩:=Α (l:=y) (i:=i) ω;have b:dE .i32 ((aY y).getD i (0,0)).1 1=((aY y).getD i (0,0)).1-1:=dW (cY.2 ⟨by show(-2147483648:Int)<=_;omega,by show _<=(2147483647:Int);omega⟩);have e2:ay .i32 ((aY y).getD i (0,0)).2 1=((aY y).getD i (0,0)).2+1:=dW (cY.2 ⟨by show(-2147483648:Int)<=_;omega,by show _<=(2147483647:Int);omega⟩);refine⟨ω,h,by simp;omega,(i+1,out++[(nx,((aY y).getD i (0,0)).1-1)],((aY y).getD i (0,0)).2+1),by rw[b],e2,bA ω ω,⟨?_,ω,by grind⟩,ω⟩;grind [List.drop_eq_getElem_cons,iQ]
 ·rw[Zbu ω] at h1;have h1:out++[(nx,1114111)]=iQ 0 (aY y):=h1;rw[h1];have:=A3 0 (aY y);exact⟨ω,⟨ω⟩,rfl⟩
def Qd1 (h:Ok cW):Ok IT:=okZ [cW] f199 Qrm h QrA
theorem QrB (y:List Rg×Int×Int) (d:IV.pre y):TI y:=by
 have⟨l,lo,hi⟩:=y;obtain⟨h1,c⟩:Θ l:=d;unfold TI;simp only[bN,lG,Zai,aw,a_,bq,gt];have a:(((l++[(lo,hi)]).length:Nat):Int)*((8:Nat):Int)<=140737488355328:=by grind
 rcases Zcu l with rfl | ⟨m,p,rfl⟩
 ·exact⟨λh=>absurd h (by simp),λ_=>⟨a,rfl,rfl⟩⟩
 ·simp only[Zcv] at*
  have e:=c p (by simp);have b:dE .i64 ((m++[p]).length:Int) 1=m.length:=by grind
  rw[b,Zad];have e2:ay .i32 p.2 1=p.2+1:=dW (cY.2 ⟨by show(-2147483648:Int)<=_;omega,by show _<=(2147483647:Int);omega⟩);grind [cA,dh]
def Qd2:Ok IV:=okZ [] f196 Qrw trivial QrB
def Fy {a b:List Int} (h:a.Perm b) (c:a.Pairwise (· <= ·)) (d:b.Pairwise (· <= ·)):a=b:=List.Perm.eq_of_pairwise (le:=λx y=>x<=y) (λ_ _ _ _ h1 e=>ω) c d h
def I9 (m:List Int):(Mj m).Perm m:=List.mergeSort_perm m _
theorem C3 (m:List Int):(Mj m).Pairwise (· <= ·):=by
 grind [List.pairwise_mergeSort,Mj]
theorem gS (y:List Rg):(bs y).Perm (dx y):=I9 _
theorem j4 (y:List Rg):(bs y).Pairwise (· <= ·):=C3 _
theorem sd (y:List Rg):4<=(bs y).length/\(bs y).length<=4+2*y.length:=by
 rw[(gS y).length_eq];unfold dx;have:=fV mr 2 ux y;grind
def Fz (h:i<(bs y).length):0<=(bs y).getD i 0/\(bs y).getD i 0<=1114112:=nu _ ((gS y).mem_iff.1 (ZaJ (getD_eq h 0)))
theorem OW (y:List Rg):dR (bh y) (bs y) ((bs y).length-1)=aY y:=by
 grind [E0,gS,j4,A5,E1]
theorem TO (y:List Rg):dR (λr=>!bh y r) (bs y) ((bs y).length-1)=l9 y:=by
 have hs:L8 (λr=>!bh y r) (bs y):=λk hk r h1 a=>by
  have:=A5 (gS y) (j4 y) k hk r h1 a;grind
 grind [E0,gS,j4,ZW]
def Mm (b:y.length<=2000000) (c:Int->Bool) (h:i+1<=(bs y).length):Θ (dR c (bs y) i):=by
 have:=SE c (bs y) i;have hl:=sd y;refine⟨ω,ZV (λx a=>?_) i h⟩;exact nu _ ((gS y).mem_iff.1 a)
theorem Mn (c:Int->Bool) (m:List Int) (i:Nat):dR c m (i+1)=if m.getD i 0<m.getD (i+1) 0/\(m.getD i 0<55296\/57343<m.getD i 0)/\c (m.getD i 0)=true then cA (dR c m i) (m.getD i 0) (m.getD (i+1) 0-1) else dR c m i:=by
 show(if SD c m i=true then _ else _)=_
 grind [SD]
theorem Qkl (y:List Rg) (c:mz.pre y):IY y:=by
 have c:y.length<=2000000:=c;have hl:=sd y;unfold IY;simp only[bN,ej,aw,gt,Zad];refine⟨⟨c⟩,⟨0,rfl,rfl,rfl,⟨ω⟩⟩,λi hi=>?_⟩;have hi:=hi.out;have j:ay .i64 (i:Int) 1=((i+1:Nat):Int):=bA ω ω;rw[j,Zad];refine⟨λh=>?_,λh=>?_⟩
 ·have⟨b1,l⟩:=Fz (y:=y) (i:=i+1) ω;have k:=Mn (bh y) (bs y) i;have e2:dE .i32 ((bs y).getD (i+1) 0) 1=(bs y).getD (i+1) 0-1:=dW (cY.2 ⟨by show(-2147483648:Int)<=_;omega,by show _<=(2147483647:Int);omega⟩);have g:=Mm c (bh y) hi;rw[e2];generalize (bs y).getD i 0=A at*
  generalize (bs y).getD (i+1) 0=B at*
  have go:A<B/\(A<55296\/57343<A)/\bh y A->∃z:Nat,((cA (dR (bh y) (bs y) i) A (B-1)).length:Int)=((dR (bh y) (bs y) z).length:Int)/\((i+1:Nat):Int)=(z:Int)/\cA (dR (bh y) (bs y) i) A (B-1)=dR (bh y) (bs y) z/\Iv (z+1<=(bs y).length/\(bs y).length-z<(bs y).length-i):=λa=>by
   grind
  have no:¬(A<B/\(A<55296\/57343<A)/\bh y A)->∃z:Nat,((dR (bh y) (bs y) i).length:Int)=((dR (bh y) (bs y) z).length:Int)/\((i+1:Nat):Int)=(z:Int)/\dR (bh y) (bs y) i=dR (bh y) (bs y) z/\Iv (z+1<=(bs y).length/\(bs y).length-z<(bs y).length-i):=λa=>by
   rw[Zaa a] at k;grind
  refine⟨ω,ω,ω,h,λd=>⟨ω,ω,λe=>⟨ω,ω,⟨trivial⟩,λb=>⟨ω,ω,ω,h,⟨g⟩,go ⟨d,.inl e,b⟩⟩,λb=>no λa=>by grind⟩,λe=>⟨ω,ω,λf=>⟨ω,ω,⟨trivial⟩,λb=>⟨ω,ω,ω,h,⟨g⟩,go ⟨d,.inr f,b⟩⟩,λb=>no λa=>by grind⟩,λf=>no λa=>ω⟩⟩,λd=>no λa=>ω⟩
 ·grind [OW]
def I' (h:Ok lI):Ok mz:=okZ [lI,yj,IV] f165 Qkc ⟨h,TM,Qd2⟩ Qkl
theorem Qkm (y:List Rg) (b:p_.pre y):IZ y:=by
 have b:y.length<=2000000:=b;have hl:=sd y;unfold IZ;simp only[bN,ej,Zan,Zao,aw,gt,Zad];refine⟨⟨b⟩,⟨0,rfl,rfl,rfl,⟨ω⟩⟩,λi hi=>?_⟩;have hi:=hi.out;have j:ay .i64 (i:Int) 1=((i+1:Nat):Int):=bA ω ω;rw[j,Zad];refine⟨λh=>?_,λh=>?_⟩
 ·have⟨b1,l⟩:=Fz (y:=y) (i:=i+1) ω;have k:=Mn (λr=>!bh y r) (bs y) i;have e2:dE .i32 ((bs y).getD (i+1) 0) 1=(bs y).getD (i+1) 0-1:=dW (cY.2 ⟨by show(-2147483648:Int)<=_;omega,by show _<=(2147483647:Int);omega⟩);have g:=Mm b (λr=>!bh y r) hi;rw[e2];generalize (bs y).getD i 0=A at*
  generalize (bs y).getD (i+1) 0=B at*
  have go:A<B/\(A<55296\/57343<A)/\(!bh y A)->∃z:Nat,((cA (dR (λr=>!bh y r) (bs y) i) A (B-1)).length:Int)=((dR (λr=>!bh y r) (bs y) z).length:Int)/\((i+1:Nat):Int)=(z:Int)/\cA (dR (λr=>!bh y r) (bs y) i) A (B-1)=dR (λr=>!bh y r) (bs y) z/\Iv (z+1<=(bs y).length/\(bs y).length-z<(bs y).length-i):=λa=>by
   grind
  have no:¬(A<B/\(A<55296\/57343<A)/\(!bh y A))->∃z:Nat,((dR (λr=>!bh y r) (bs y) i).length:Int)=((dR (λr=>!bh y r) (bs y) z).length:Int)/\((i+1:Nat):Int)=(z:Int)/\dR (λr=>!bh y r) (bs y) i=dR (λr=>!bh y r) (bs y) z/\Iv (z+1<=(bs y).length/\(bs y).length-z<(bs y).length-i):=λa=>by
   rw[Zaa a] at k;grind
  refine⟨ω,ω,ω,h,λc=>⟨ω,ω,λe=>⟨ω,ω,⟨trivial⟩,λd=>⟨ω,ω,ω,h,⟨g⟩,go ⟨c,.inl e,by grind⟩⟩,λd=>no λa=>by grind⟩,λe=>⟨ω,ω,λf=>⟨ω,ω,⟨trivial⟩,λd=>⟨ω,ω,ω,h,⟨g⟩,go ⟨c,.inr f,by grind⟩⟩,λd=>no λa=>by grind⟩,λf=>no λa=>ω⟩⟩,λc=>no λa=>ω⟩
 ·grind [TO]
def Qgr (h:Ok lI):Ok p_:=okZ [lI,yj,IV] f189 Qke ⟨h,TM,Qd2⟩ Qkm
theorem Qkn (y:List Rg) (a:Bl.pre y):I0 y:=by
 have a:y.length<=2000000:=a;unfold I0;simp only[bN,ej,aw,gt,Zad,Zan,Zao,ZaW,Zbz];grind [Bm]
def Qgs (h:Ok lI):Ok Bl:=okZ [mz] f164 Qkg (I' h) Qkn
theorem I_ (h:i<=y.length):(d_ y i).length<=4+2*y.length:=by
 unfold d_;have:=fV mr 2 ux (y.take i);grind
theorem FA (h:i<y.length):d_ y (i+1)=d_ y i++mr (y.getD i (0,0)):=by
 grind [d_,List.take_succ]
theorem Qko (y:List Rg) (n:lI.pre y):IX y:=by
  have n:y.length<=2000000:=n;unfold IX;simp only[bN,ej,aw,a_,bq,gt,Zad];refine⟨⟨0,by rfl,rfl,by rfl,⟨Zaj _⟩⟩,λi hi=>⟨λh=>?_,λh=>⟨⟨(1,d_ y i),rfl,rfl,rfl,Zah _,?_,?_,?_⟩,λx s=>⟨λg=>⟨(x.1,x.2),⟨(x.1,x.2),rfl,rfl,rfl,?_⟩,λz hz=>?_⟩,λg=>?_⟩⟩⟩⟩
  · have hs:=FA (y:=y) (i:=i) ω;have hl:=I_ (y:=y) (i:=i) ω;have fin:∀L:List Int,L=d_ y i++mr (y.getD i (0,0))->∃z:Nat,(L.length:Int)=((d_ y z).length:Int)/\ay .i64 (i:Int) 1=(z:Int)/\L=d_ y z/\Iv (z<=y.length/\y.length-z<y.length-i):=λL v=>by
      grind
    generalize y.getD i (0,0)=A at*
    have⟨lo,c⟩:=A;have e:0<=c->c<1114111->ay .i32 c 1=c+1:=λa b=>dW (cY.2 ⟨by show(-2147483648:Int)<=_;omega,by show _<=(2147483647:Int);omega⟩)
    have F:∀(a b:Bool),m1 (lo,c)=a->m2 (lo,c)=b->mr (lo,c)=(if a=true then[lo] else[])++(if b=true then[c+1] else[]):=λa b f e2=>by grind [mr]
    repeat' first | (intro _) | (apply And.intro)
    all_goals first
      | omega
      | (simp only[Zab,Zae,Zak];omega)
      | (refine fin _ ?_
         first
           | (rw[F true true (by simp[m1];omega) (by simp[m2];omega),e ω ω];simp;done)
           | (rw[F true false (by simp[m1];omega) (by simp[m2];omega)];simp;done)
           | (rw[F false true (by simp[m1];omega) (by simp[m2];omega),e ω ω];simp;done)
           | (rw[F false false (by simp[m1];omega) (by simp[m2];omega)];simp;done))
  · grind [d_]
  · grind [d_,dx]
  · intro a b h1 g;omega
  · grind [CR]
  · have⟨i2,m⟩:=x;have⟨k,d⟩:=z;have⟨g1,g2,g3,g4⟩:=hz.out;have r:d.length=(dx y).length:=g3.length_eq;have q:(dx y).length<=4000004:=by
      have:=fV mr 2 ux y;unfold dx;grind
    simp only at*
    have out:(k=0\/d.getD (k-1) 0<=d.getD k 0)->∃z:Nat×List Int,(d.length:Int)=(z.2.length:Int)/\ay .i64 (i2:Int) 1=(z.1:Int)/\d=z.2/\Iv ((1<=z.1/\z.1<=z.2.length/\z.2.Perm (dx y)/\EX z.2 z.1)/\(dx y).length-z.1<(dx y).length-i2):=λhk=>
      ⟨(i2+1,d),rfl,bA ω ω,rfl,⟨ω,by assumption,g3,Ir g4 hk⟩,ω⟩
    refine⟨λp=>?_,λp=>out (.inl ω)⟩;have f:dE .i64 (k:Int) 1=((k-1:Nat):Int):=by grind
    rw[f,Zad];refine⟨ω,ω,ω,ω,λl=>⟨ω,ω,ω,ω,ω,ω,ω,ω,(k-1,swap d (k-1)),?_,rfl,?_,⟨ω,?_,(swap_perm d (k-1) ω).trans g3,?_⟩,ω⟩,λl=>out (.inr l)⟩
    · rw[EV]
    · grind [swap,dh]
    · grind [EV]
    · grind [EY]
  · have⟨t,u,o,j⟩:=s.out;have:x.1=x.2.length:=ω;rw[this] at j;exact Fy (o.trans (gS y).symm) (SC j) (j4 y)
def yk:Ok lI:=okZ [] f194 Qj9 trivial Qko
def ea:a8:=⟨0,0,0,[]⟩
def iZ (n m:Int):Bool:=decide (0<=n)&&decide (n<m)
def TP:bp D:=cq 148 (Int×Int) (λa _=>match a with
 | [n,m]=>aP (cQ n) λ_ n=>aP (cQ m) λ_ m=>.ret (n,m)
 | _=>.fail) (λ_=>True) (λy=>[Qyy y.1,Qyy y.2]) λy=>.bool (iZ y.1 y.2)
def TQ (p:iY) (i:Int):Bool:=
 let x:=p.ag.getD i.toNat ea
 let behind:=decide (i+1<p.ag.length)
 if x.op≠1/\0<x.bz.length\/x.op≠2/\x.y≠0 then false
 else if x.op=1 then behind&&decide (x.x=0)&&decide (x.bz=aY x.bz)
 else if x.op=2 then iZ x.x p.ag.length&&iZ x.y p.ag.length
 else if x.op=3 then iZ x.x p.ag.length
 else if x.op=4 then behind&&iZ x.x 10
 else if x.op=5\/x.op=6 then behind&&decide (x.x=0)
 else if x.op=7 then iZ x.x p.ai.length
 else false
def Qgt (y:iY×Int):Prop:=0<=y.2/\y.2<y.1.ag.length/\y.1.ag.length<=1000/\∀x∈y.1.ag,x.bz.length<=1000000
def Β:bp D:=cq 147 (iY×Int) (λa s=>match a with
 | [p,i]=>aB (IJ p s) λp=>aP (cQ i) λ_ i=>.ret (p,i)
 | _=>.fail) Qgt (λy=>[Fj y.1,Qyy y.2]) λy=>.bool (TQ y.1 y.2)
def TR (y:Int×Int):Prop:=aj (aM 0 y.1) (aD y.1 y.2=iZ y.1 y.2/\True) (false=iZ y.1 y.2/\True)
def TS (y:iY×Int):Prop:=let h:=ab y.1.ai;let q1:=ab y.1.ag;let b:=TQ y.1 y.2;let g:=aD (ay .i64 y.2 1) q1;let a:=gt (a8.mk 0 0 0 []) y.1.ag y.2.toNat;let i:=aE a.x 0;let j:=aE a.op 1;let k:=aE a.op 2;let l:=iZ a.x q1;let m:=aD 0 (ab a.bz);let c:Prop:=(aj g (i=b/\True) (false=b/\True));let d:Prop:=(aj (aE a.op 7) (Iv True/\RAP a.x h (iZ a.x h=b/\True)) (false=b/\True));let e:Prop:=(aj j (aj g (aj i (Iv (a.bz.length<=100000000)/\RAO a.bz (decide (a.bz=aY a.bz)=b/\True)) (false=b/\True)) (false=b/\True)) (aj k (Iv True/\RAP a.x q1 (aj l (Iv True/\aa [a.y,q1] (iZ a.y q1=b/\True)) (false=b/\True))) (aj (aE a.op 3) (Iv True/\RAP a.x q1 (l=b/\True)) (aj (aE a.op 4) (aj g (Iv True/\aa ([a.x,10]:List Int) (iZ a.x 10=b/\True)) (false=b/\True)) (aj (aE a.op 5) (aj (aE a.op 5) (c) (d)) (aj (aE a.op 6) (c) (d)))))));let f:Prop:=(aj (!k) (aj (!(aE a.y 0)) (false=b/\True) (e)) (e));aM 0 y.2/\aD y.2 q1/\aj (!j) (aj m (false=b/\True) (f)) (f)
theorem QrE (y:Int×Int):TR y:=by
 grind [TR,iZ]
def Qd3:Ok TP:=okZ (V:=TR) [] f148 (λ_=>dk ()) trivial λy _=>QrE y
def OX (x:a8) (b:Bool) (n m:Int):Bool:=
 if x.op≠1/\0<x.bz.length\/x.op≠2/\x.y≠0 then false
 else if x.op=1 then b&&decide (x.x=0)&&decide (x.bz=aY x.bz)
 else if x.op=2 then iZ x.x n&&iZ x.y n
 else if x.op=3 then iZ x.x n
 else if x.op=4 then b&&iZ x.x 10
 else if x.op=5\/x.op=6 then b&&decide (x.x=0)
 else if x.op=7 then iZ x.x m
 else false
theorem QrF (y:iY×Int) (i:Qgt y):TS y:=by
 obtain⟨h1,d,l,f⟩:=i;have hi:ay .i64 y.2 1=y.2+1:=bA ω ω;have g:(gt (a8.mk 0 0 0 []) y.1.ag y.2.toNat).bz.length<=1000000:=by
  grind
 have c:TQ y.1 y.2=OX (gt (a8.mk 0 0 0 []) y.1.ag y.2.toNat) (aD (y.2+1) (ab y.1.ag)) (ab y.1.ag) (ab y.1.ai):=rfl;have a:aD y.2 (ab y.1.ag):=gF.2 d;unfold TS;rw[c,hi];generalize gt (a8.mk 0 0 0 []) y.1.ag y.2.toNat=x at g ⊢;simp only[bj,gg];refine⟨h1,a,?_⟩;clear f c a;have h:x.bz.length<=100000000:=ω;have j:aD 0 (ab x.bz)=!(x.bz==[]):=by cases x.bz<;>simp[aD,ab]
 have k:(0<x.bz.length)=((!(x.bz==[]))):=by grind
 unfold OX;simp only[j,k];generalize (x.bz==[])=e;generalize aD (y.2+1) (ab y.1.ag)=b;generalize ab y.1.ag=n;generalize ab y.1.ai=m;generalize iZ x.x n=p;generalize iZ x.y n=q;generalize iZ x.x 10=r;generalize iZ x.x m=w4;generalize decide (x.bz=aY x.bz)=w5;by_cases y0:x.y=0<;>by_cases x0:x.x=0<;>cases e<;>cases b
 all_goals
  by_cases o1:x.op=1
  ·grind
  by_cases o:x.op=2
  ·grind
  grind
def Qkp (a:Ok cW):Ok Β:=okZ [TP,Fw] f147 (λ_=>dk ()) ⟨Qd3,Qd0 a⟩ QrF
def nI (ag:List a8):Nat->List Bool->List Int->List Bool
 | 0,s,_=>s
 | f+1,s,l=>if l.length=0 then s else
  let i:=l.getD (l.length-1) 0
  let k:=l.take (l.length-1)
  let x:=ag.getD i.toNat ea
  if s.getD i.toNat false=true then nI ag f s k
  else if x.op=2 then nI ag f (s.set i.toNat true) (k++[x.x,x.y])
  else if x.op=3 then nI ag f (s.set i.toNat true) (k++[x.x])
  else if x.op=7 then nI ag f (s.set i.toNat true) k
  else nI ag f (s.set i.toNat true) (k++[i+1])
def noB (n:Nat):List Bool:=List.replicate n false
def se (ag:List a8) (start:Int):List Bool:=nI ag (3*ag.length+1) (noB ag.length) [start]
def tgP (ag:List a8):Prop:=ag.length<=1000/\∀i:Nat,i<ag.length->((ag.getD i ea).op=2->0<=(ag.getD i ea).x/\(ag.getD i ea).x<ag.length/\0<=(ag.getD i ea).y/\(ag.getD i ea).y<ag.length)/\((ag.getD i ea).op=3->0<=(ag.getD i ea).x/\(ag.getD i ea).x<ag.length)/\((ag.getD i ea).op≠2->(ag.getD i ea).op≠3->(ag.getD i ea).op≠7->i+1<ag.length)
def TT (y:List a8×Int):Prop:=tgP y.1/\0<=y.2/\y.2<y.1.length
def TU:bp D:=cq 149 (List a8×Int) (λa s=>match a with
 | [p,i]=>aB (aW D s 8 p) λp=>aP (cQ i) λ_ i=>.ret ((p:List a8),i)
 | _=>.fail) TT (λy=>[.list 8 y.1,Qyy y.2]) λy=>.list 17 (se y.1 y.2)
structure C4 where
 f:Nat
 s:List Bool
 l:List Int
def FB (y:List a8×Int) (x:C4):Prop:=x.s.length=y.1.length/\(∀i∈x.l,0<=i/\i<y.1.length)/\3*x.s.count false+x.l.length<=x.f/\x.f<=3*y.1.length+1/\nI y.1 x.f x.s x.l=se y.1 y.2
def QrG (y:TU.Y):dj D:=⟨[],[1,2],[(60,⟨C4,[0],λx=>[(5,.own 0 1 (ab x.s)),(6,.own 1 1 (ab x.l))],[],λx=>[(0,.arr 17 x.s 4 false),(1,.arr 5 x.l 3 false)],2,FB y,λx=>x.f⟩)],[],1,[]⟩
def pb (p:iY):Prop:=p.ag.length<=400/\p.ai.length<=8/\(∀i:Nat,i<p.ag.length->TQ p i)/\(∀x∈p.ag,x.bz.length<=1000000)/\tgP p.ag/\∀r:Nat,r<p.ai.length->0<=p.ai.getD r 0/\p.ai.getD r 0<p.ag.length/\∀i:Nat,i<p.ag.length->(se p.ag (p.ai.getD r 0)).getD i false->(p.ag.getD i ea).op=7->(p.ag.getD i ea).x=r
def OY:bp D:=cq 115 iY (λa s=>match a with
 | [p]=>IJ p s
 | _=>.fail) pb (λy=>[Fj y]) λ_=>.lit true
def pgO (y:iY):Nat×AO D.E:=(0,.cells [.list 8 y.ag,.list 5 y.ai] 69 false)
def QrI (y:OY.Y):dj D:=⟨[],[],[(58,⟨Nat,[20],λk=>[(1,.ptr 0 0),(21,Qyy k)],[],λ_=>[pgO y],1,λk=>k<=(iY.ag y).length,λk=>(iY.ag y).length-k⟩),
 (122,⟨Nat,[30,31],λk=>[(1,.ptr 0 0),(32,Qyy k)],[],λ_=>[pgO y],1,λk=>k<=(iY.ai y).length,λk=>(iY.ai y).length-k⟩)],[],1,
 [(62670,⟨Nat,λr=>⟨Nat,[4,30,31,32,46,47],λk=>[(1,.ptr 0 0),(48,Qyy k)],[],λ_=>[pgO y],1,λk=>k<=(iY.ag y).length/\r<(iY.ai y).length,λk=>(iY.ag y).length-k⟩,none⟩)]⟩
def TV (y:(List a8)×Int):Prop:=let c:=ab y.1;let q1:=([y.2]:List Int);let h:=λp:Prop=>aa [y.1] p;aM 0 c/\aM c c/\ba c 1/\(∃z:C4,h (ab (pq c false)=ab z.s/\ab q1=ab z.l/\q1=z.l/\pq c false=z.s/\(Iv (FB y z))))/\(∀x:C4,let j:=ab x.l;let b:=dE .i64 j 1;let g:=c_ x.l b;let a:=gt 0 x.l b.toNat;let m:=gt false x.s a.toNat;let k:=bn g [ay .i64 a 1];let e:=gt (a8.mk 0 0 0 []) y.1 a.toNat;let i:=ab (bn g [e.x]);let d:=bn g [e.x,e.y];(Iv (FB y x))->aj (aD 0 j) (aM 0 b/\aD b j/\aM 0 b/\aM b j/\aM 0 a/\aD a (ab x.s)/\aj m (∃z:C4,h (ab x.s=ab z.s/\b=ab z.l/\g=z.l/\x.s=z.s/\(Iv (FB y z/\z.f<x.f)))) (aM 0 a/\aD a (ab x.s)/\aM 0 a/\aD a c/\aj (aE e.op 2) (ba (ab d) 8/\∃z:C4,h (ab x.s=ab z.s/\ab d=ab z.l/\d=z.l/\dh x.s a.toNat true=z.s/\(Iv (FB y z/\z.f<x.f)))) (aj (aE e.op 3) (ba i 8/\∃z:C4,h (ab x.s=ab z.s/\i=ab z.l/\bn g [e.x]=z.l/\dh x.s a.toNat true=z.s/\(Iv (FB y z/\z.f<x.f)))) (aj (aE e.op 7) (∃z:C4,h (ab x.s=ab z.s/\b=ab z.l/\g=z.l/\dh x.s a.toNat true=z.s/\(Iv (FB y z/\z.f<x.f)))) (ba (ab k) 8/\∃z:C4,h (ab x.s=ab z.s/\ab k=ab z.l/\k=z.l/\dh x.s a.toNat true=z.s/\(Iv (FB y z/\z.f<x.f)))))))) (x.s=se y.1 y.2/\True))
abbrev RAU {T0 T1 T2 T3 T4 T5:Type} (a:T0) (b:T1) (c:T2) (d:T3) (e:T4) (f:T5) (p:Prop):Prop:=aa [a] (aa [b] (aa [c] (aa [d] (aa [e] (aa [f] p)))))
def TW (y:iY):Prop:=let b:=y.ag.length;let q1:=ab y.ai;let d:=y.ai.length;let e:=ab y.ag;let g:=λp:Prop=>RA2 y p;aj (aD 400 e) (False) (aj (aD 8 q1) (False) ((∃z:Nat,RAO e (0=(z:Int)/\g ((Iv (z<=b)))))/\(∀x:Nat,let q:=!(TQ y (x:Int));(Iv (x<=b))->aj (aD (x:Int) e) (Iv (Qgt (y,(x:Int)))/\RA2 y (RAO (x:Int) (aj q (False) (∃z:Nat,aa [e] (ay .i64 (x:Int) 1=(z:Int)/\g ((Iv (z<=b/\(b-z)<(b-x))))))))) ((∃z:Nat,RAP y.ai q1 (0=(z:Int)/\g ((Iv (z<=d)))))/\(∀x1:Nat,let n:=aD (x1:Int) q1;let j:=gt 0 y.ai (x1:Int).toNat;let k:=se y.ag j;let o:=λp:Prop=>RAU (x1:Int) y.ai q1 (x1:Int) k (ab k) p;(Iv (x1<=d))->aj n (aM 0 (x1:Int)=true/\n=true/\Iv True/\RAP j e (aj (!(iZ j e)) (False) (Iv (TT (y.ag,j))/\aa [y.ag] (aa [j] (∃z:Nat,(∃c:Nat,o (0=(c:Int)/\g ((Iv (c<=b/\z<d)))))/\(∀a:Nat,let h:=aD (a:Int) (ab k);let l:=gt false k (a:Int).toNat;let i:=gt (a8.mk 0 0 0 []) y.ag (a:Int).toNat;let m:=!(aE i.x (x1:Int));let f:Prop:=(∃c:Nat,o (ay .i64 (a:Int) 1=(c:Int)/\g ((Iv ((c<=b/\z<d)/\(b-c)<(b-a))))));(Iv (a<=b/\z<d))->aj h (aM 0 (a:Int)=true/\h=true/\aj l (aM 0 (a:Int)=true/\aD (a:Int) e=true/\aj (aE i.op 7) (aM 0 (a:Int)=true/\aD (a:Int) e=true/\aj m (False) (f)) (f)) (f)) (∃c:Nat,aa [y.ai] (aa [q1] (ay .i64 (x1:Int) 1=(c:Int)/\g ((Iv (c<=d/\(d-c)<(d-x1))))))))))))) (True))))))
theorem FC:∀(s:List Bool) (i:Nat),i<s.length->s.getD i false=false->(s.set i true).count false+1=s.count false
 | [],_,h,_=>absurd h (Zbo _)
 | b::s,0,_,h=>by
  grind
 | b::s,i+1,h,h2=>by
  grind
theorem QrK (y:List a8×Int) (N:TT y):TV y:=by
 obtain⟨⟨c1,c2⟩,O,P⟩:=N;unfold TV;simp only[bN,bj,aw,dh,bq,a_];refine⟨ω,ω,ω,⟨⟨3*y.1.length+1,noB y.1.length,[y.2]⟩,by rfl,rfl,rfl,rfl,by unfold noB;simp,λi hi=>?_,?_,Zah _,rfl⟩,λx z=>⟨λh=>?_,λh=>?_⟩⟩
 ·grind
 ·unfold noB;simp
 ·obtain⟨f,s,l⟩:=x;obtain⟨e,e2,t,u,c⟩:=z;simp only at e e2 t u c h ⊢;obtain⟨m,J⟩:∃m,l.length=m+1:=⟨l.length-1,ω⟩;obtain⟨f,rfl⟩:∃g,f=g+1:=⟨f-1,ω⟩;have L:dE .i64 (l.length:Int) 1=(m:Int):=by
   grind
  have w:gt 0 l m=l[m]'ω:=by
   grind
  have hi:=e2 _ (Zas (l:=l) (n:=m) ω);have hk:∀i∈l.take m,0<=i/\i<(y.1.length:Int):=λi hi=>e2 i (Zcg hi)
  have d:(l.take m).length=m:=by grind
  rw[nI,Zaa ω,J,Zde] at c;rw[L,Zad,w];have p:c_ l (m:Int)=l.take m:=rfl;rw[p];have E:l.getD m 0=l[m]'ω:=w;simp only[E] at c;generalize l[m]'ω=i at hi c ⊢;generalize l.take m=k at hk d c ⊢;obtain⟨n,rfl⟩:=Zau hi.1;have K:n<s.length:=ω;simp only[Zad] at c ⊢;have F:gt (a8.mk 0 0 0 []) y.1 n=y.1.getD n ea:=rfl;have gs:gt false s n=s.getD n false:=rfl;rw[F,gs];obtain⟨B,C,D⟩:=c2 n ω;have H:List.count false s<=s.length:=List.count_le_length;have G:ay .i64 (n:Int) 1=(n:Int)+1:=bA ω ω;rw[G];generalize y.1.getD n ea=x at B C D c ⊢;have snoc:∀(v:List Int),(∀i∈v,0<=i/\i<(y.1.length:Int))->∀i∈k++v,0<=i/\i<(y.1.length:Int):=λv M i hi=>(Zax.1 hi).elim (hk i) (M i)
  refine⟨ω,ω,ω,ω,ω,ω,λhs=>?_,λhs=>⟨ω,ω,ω,ω,?_⟩⟩
  ·rw[Zac hs] at c;exact⟨⟨f,s,k⟩,rfl,by rw[d],rfl,rfl,⟨e,hk,by grind,by show f<=_;omega,c⟩,Zbr _⟩
  ·have I:=FC s n K hs;rw[Zaa (by rw[hs];decide)] at c;have sH:(s.set n true).length=s.length:=Zbb;have two:∀a b:Int,(k++[a,b]).length=m+2:=λa b=>by rw[Zab,d];rfl
   have one:∀a:Int,(k++[a]).length=m+1:=λa=>by rw[Zab,d];rfl
   refine⟨λo=>?_,λj=>⟨λo=>?_,λq=>⟨λo=>?_,λA=>?_⟩⟩⟩
   ·rw[Zac o] at c;obtain⟨r,a2,a3,a4⟩:=B o;refine⟨by rw[two];omega,⟨f,s.set n true,k++[x.x,x.y]⟩,by rw[sH],rfl,rfl,rfl,⟨sH.trans e,snoc _ λi hi=>?_,by grind,by show f<=_;omega,c⟩,Zbr _⟩;simp only[Zbf,Zds,Zdt] at hi;omega
   ·rw[Zaa j,Zac o] at c;obtain⟨r,a2⟩:=C o;refine⟨by rw[one];omega,⟨f,s.set n true,k++[x.x]⟩,by rw[sH],rfl,rfl,rfl,⟨sH.trans e,snoc _ λi hi=>?_,by grind,by show f<=_;omega,c⟩,Zbr _⟩;rw[ZaI.1 hi];exact⟨r,a2⟩
   ·rw[Zaa j,Zaa q,Zac o] at c;exact⟨⟨f,s.set n true,k⟩,by rw[sH],by rw[d],rfl,rfl,⟨sH.trans e,hk,by grind,by show f<=_;omega,c⟩,Zbr _⟩
   ·rw[Zaa j,Zaa q,Zaa A] at c;have:=D j q A;refine⟨by rw[one];omega,⟨f,s.set n true,k++[(n:Int)+1]⟩,by rw[sH],rfl,rfl,rfl,⟨sH.trans e,snoc _ λi hi=>?_,by grind,by show f<=_;omega,c⟩,Zbr _⟩;rw[ZaI.1 hi];omega
 ·obtain⟨f,s,l⟩:=x;obtain⟨e,e2,t,u,c⟩:=z;simp only at c h ⊢;rw[<-c];cases f with
  | zero=>rfl
  | succ f=>rw[nI,Zac ω]
def Qd4:Ok TU:=okZ [] f149 QrG trivial QrK
theorem nJ (ag:List a8):∀f s l,(nI ag f s l).length=s.length
 | 0,s,l=>rfl
 | f+1,s,l=>by
  rw[nI];simp only;split
  ·rfl
  ·split
   ·exact nJ ag f _ _
   ·split
    ·rw[nJ];exact Zbb
    ·split
     ·rw[nJ];exact Zbb
     ·split<;>(rw[nJ];exact Zbb)
theorem tp (ag:List a8) (a:Int):(se ag a).length=ag.length:=by
 grind [se,nJ,noB]
theorem QrL (y:iY) (g:pb y):TW y:=by
 obtain⟨p1,p2,p3,p4,p5,p6⟩:=g;unfold TW;simp only[bN,bj,aw,Zad,dL,Zan,Zao];refine⟨λh=>ω,λh=>⟨λh=>ω,λh=>⟨⟨0,rfl,Zaj _⟩,λx e=>⟨λk=>?_,λk=>⟨⟨0,rfl,Zaj _⟩,λr j=>⟨λk=>?_,λk=>trivial⟩⟩⟩⟩⟩⟩
 ·have b:x<y.ag.length:=ω;have hs:=p3 x b;exact⟨⟨ω,k,by grind,p4⟩,⟨λq=>Bool.noConfusion (hs.symm.trans q),λ_=>⟨x+1,bA ω ω,ω,ω⟩⟩⟩
 ·have a:r<y.ai.length:=ω;obtain⟨d,a2,a3⟩:=p6 r a;have hw:iZ (y.ai.getD r 0) y.ag.length:=by grind [iZ]
  refine⟨ω,k,⟨λq=>Bool.noConfusion (hw.symm.trans q),λ_=>⟨⟨p5,d,a2⟩,r,⟨0,rfl,Zaj _,a⟩,λx e=>⟨λk2=>?_,λ_=>⟨r+1,bA ω ω,ω,ω⟩⟩⟩⟩⟩;have f:x<y.ag.length:=by grind [tp]
  have i:∃c:Nat,ay .i64 (x:Int) 1=(c:Int)/\(c<=y.ag.length/\r<y.ai.length)/\y.ag.length-c<y.ag.length-x:=⟨x+1,bA ω ω,⟨ω,a⟩,ω⟩;simp_all
def Qd5 (a:Ok cW):Ok OY:=okZ [Β,TP,TU] f115 QrI ⟨Qkp a,Qd3,Qd4⟩ QrL
def EwC (a b:db) (p:Prop):Prop:=a.c0=b.c0/\a.c1=b.c1/\a.c2=b.c2/\a.c3=b.c3/\a.c4=b.c4/\a.c5=b.c5/\a.c6=b.c6/\a.c7=b.c7/\a.c8=b.c8/\a.c9=b.c9/\p
def EwT (a b:a7) (p:Prop):Prop:=a.c0=b.c0/\a.c1=b.c1/\a.c2=b.c2/\a.c3=b.c3/\a.c4=b.c4/\a.c5=b.c5/\a.c6=b.c6/\a.c7=b.c7/\a.c8=b.c8/\a.c9=b.c9/\p
def EwM (a:a7) (b:db) (p:Prop):Prop:=a.c0=b.c0/\a.c1=b.c1/\a.c2=b.c2/\a.c3=b.c3/\a.c4=b.c4/\a.c5=b.c5/\a.c6=b.c6/\a.c7=b.c7/\a.c8=b.c8/\a.c9=b.c9/\p
def FD (a:db) (p:Prop):Prop:=aa [a.c0,a.c1,a.c2,a.c3,a.c4,a.c5,a.c6,a.c7,a.c8,a.c9] p
def RwH (a:a7) (p:Prop):Prop:=aa [a.c0,a.c1,a.c2,a.c3,a.c4,a.c5,a.c6,a.c7,a.c8,a.c9] p
def Qgv:(∀a p,FD a p=p)/\∀a p,RwH a p=p:=⟨λ_ _=>by simp[FD],λ_ _=>by simp[RwH]⟩
structure rF where
 w:db
 rd:List a7
 e:Bool
def Qkr (n:Nat) (y:rF):List (Nat×AO D.E):=[(5,.cells [.ptr 6 0,.own n 11 (ab y.rd),.bool y.e] 266 false),
 (6,.cells [.bool y.w.done,.int .i64 y.w.c0,.int .i64 y.w.c1,.int .i64 y.w.c2,.int .i64 y.w.c3,.int .i64 y.w.c4,.int .i64 y.w.c5,.int .i64 y.w.c6,.int .i64 y.w.c7,.int .i64 y.w.c8,.int .i64 y.w.c9,.dc] 113 false),
 (n,.arr 1 y.rd 240 false)]
def QrN (v:AV D.E) (s:St D.E):C db:=match v with
 | .ptr b _=>aB (dg (s.h.get b)) λo=>match o with
  | .cells cs _ _=>match cs with
   | [d,a0,a,a2,a3,a4,a5,c,e,f,a9,_]=>aP (xg d) λd _=>aP (cQ a0) λ_ a0=>aP (cQ a) λ_ a=>aP (cQ a2) λ_ a2=>aP (cQ a3) λ_ a3=>aP (cQ a4) λ_ a4=>
    aP (cQ a5) λ_ a5=>aP (cQ c) λ_ c=>aP (cQ e) λ_ e=>aP (cQ f) λ_ f=>aP (cQ a9) λ_ a9=>.ret ⟨d,a0,a,a2,a3,a4,a5,c,e,f,a9,[]⟩
   | _=>.fail
  | _=>.fail
 | _=>.fail
def QrO (v:AV D.E) (s:St D.E):C rF:=match v with
 | .ptr b _=>aB (dg (s.h.get b)) λo=>match o with
  | .cells cs _ _=>match cs with
   | [l,r,e]=>aB (QrN l s) λl=>aB (aW D s 1 r) λr=>aP (xg e) λe _=>.ret ⟨l,r,e⟩
   | _=>.fail
  | _=>.fail
 | _=>.fail
structure Ja where
 v:iB
 k:rF
 t:a7
variable {s:jb} {i:Int}
def QrP (a:List (AV D.E)) (s:St D.E):C Ja:=match a with
 | [v,w,t]=>aB (IK v s) λv=>aB (QrO w s) λw=>aB (asAgg t) λcs=>aB (ug D 1 cs) λt=>.ret ⟨v,w,t⟩
 | _=>.fail
def Κ:a8:=⟨0,0,0,[]⟩
def Qgw (t:a7) (i v:Int):a7:=⟨t.pc,if i=0 then v else t.c0,if i=1 then v else t.c1,if i=2 then v else t.c2,if i=3 then v else t.c3,if i=4 then v else t.c4,if i=5 then v else t.c5,if i=6 then v else t.c6,if i=7 then v else t.c7,if i=8 then v else t.c8,if i=9 then v else t.c9⟩
def Qks (w:db) (t:a7):db:=⟨true,t.c0,t.c1,t.c2,t.c3,t.c4,t.c5,t.c6,t.c7,t.c8,t.c9,w.aU⟩
def qX (ag:List a8) (aq:Int):Nat->jb->rF->a7->Bool×jb×rF
 | 0,s,k,_=>(false,s,k)
 | n+1,s,k,t=>
  if ga s t.pc=false then(false,s,k) else
  let a:=dU s t.pc true
  let x:=ag.getD t.pc.toNat Κ
  if x.op=7 then(true,a,{ k with w:=Qks k.w t })
  else if x.op=2 then
   let r:=qX ag aq n a k { t with pc:=x.x }
   if r.1=true then r else qX ag aq n r.2.1 r.2.2 { t with pc:=x.y }
  else if x.op=1 then(false,a,{ k with rd:=k.rd++[t] })
  else if x.op=3 then qX ag aq n a k { t with pc:=x.x }
  else if x.op=4 then qX ag aq n a k (Qgw { t with pc:=t.pc+1 } x.x aq)
  else if x.op=5/\0<aq then(false,a,k)
  else if x.op=6/\k.e=false then(false,a,k)
  else qX ag aq n a k { t with pc:=t.pc+1 }
def dA (s:jb):Nat:=(List.range s.pl.length).countP λi:Nat=>ga s i
def C5 (s:jb):Prop:=s.pl.length<=1000/\(∀v∈s.pl,(0:Int)<=v)/\s.us.length+dA s=s.pl.length/\∀j,j<s.us.length->0<=(s.us.getD j it0).i/\(s.us.getD j it0).i<s.pl.length/\s.pl.getD (s.us.getD j it0).i.toNat 0=j
def Μ (c:List a8):Prop:=c.length<=1000/\∀x∈c,x.op=4->0<=x.x/\x.x<=9
def toP (y:Ja):Prop:=C5 y.v.s/\y.v.s.pl.length=y.v.p.ag.length/\Μ y.v.p.ag/\y.k.rd.length+dA y.v.s<=1000000/\y.k.w.aU=[]
def jI (y:Ja):Bool×jb×rF:=qX y.v.p.ag y.v.aq (dA y.v.s+1) y.v.s y.k y.t
def Jb:bp D:=⟨170,Ja,QrP,toP,λy=>[.ptr 0 0,.ptr 5 0,.agg (D.bm 1 y.t)],λy=>CY 0 3 4 y.v++Qkr 7 y.k,λy=>.bool (jI y).1,λy=>CY 0 8 4 { y.v with s:=(jI y).2.1 }++Qkr 9 (jI y).2.2,8,10⟩
def yl (y:Jb.Y):Nat:=dA (Ja.v y).s
def thO (n:Nat) (t:a7):Nat×AO D.E:=(n,.cells [.int .i64 t.pc,.int .i64 t.c0,.int .i64 t.c1,.int .i64 t.c2,.int .i64 t.c3,.int .i64 t.c4,.int .i64 t.c5,.int .i64 t.c6,.int .i64 t.c7,.int .i64 t.c8,.int .i64 t.c9] 240 false)
def HA (y:Ja) (t:a7):Prop:=ga y.v.s y.t.pc/\qX y.v.p.ag y.v.aq (dA y.v.s) (dU y.v.s y.t.pc true) y.k t=jI y
def QrQ (y:Jb.Y):dj D:=⟨[(18,.rR 10 1 9)],[13],[],[(63,⟨a7,[0,1,8],λ_=>[],[0,1,2,4,5,6,7,9],λt=>[thO 11 t],12,HA y,λ_=>0⟩)],1,[]⟩
def QrR (y:Jb.Y):Prop:=vc [Jb.under yl (yl y),Tg] f170 Jb QrQ y
def TX (y:Ja):Prop:=let i:=ab y.k.rd;let q1:=(jI y).1;let c:=dU y.v.s y.t.pc true;let P:=!(ga y.v.s y.t.pc);let d:=(jI y).2.2;let j:=ab c.us;let O:=bn y.k.rd [y.t];let l:=ab c.pl;let D:=ab d.rd;let E:=ab (jI y).2.1.pl;let n:=ab (jI y).2.1.us;let F:=iB.mk y.v.p y.v.aq y.v.L c;let a:=gt (a8.mk 0 0 0 []) y.v.p.ag y.t.pc.toNat;let G:=rF.mk (db.mk y.k.w.done y.k.w.c0 y.k.w.c1 y.k.w.c2 y.k.w.c3 y.k.w.c4 y.k.w.c5 y.k.w.c6 y.k.w.c7 y.k.w.c8 y.k.w.c9 []) y.k.rd y.k.e;let r:=Ja.mk F G (a7.mk a.x y.t.c0 y.t.c1 y.t.c2 y.t.c3 y.t.c4 y.t.c5 y.t.c6 y.t.c7 y.t.c8 y.t.c9);let m:=(jI r).2.1;let b:=(jI r).2.2;let H:=ab m.pl;let I:=ab m.us;let J:=ab b.rd;let g:=Ja.mk (iB.mk y.v.p y.v.aq y.v.L m) (rF.mk (db.mk b.w.done b.w.c0 b.w.c1 b.w.c2 b.w.c3 b.w.c4 b.w.c5 b.w.c6 b.w.c7 b.w.c8 b.w.c9 []) b.rd b.e) (a7.mk a.y y.t.c0 y.t.c1 y.t.c2 y.t.c3 y.t.c4 y.t.c5 y.t.c6 y.t.c7 y.t.c8 y.t.c9);let u:=(jI g).2.2;let M:=λp:Prop=>RA2 y.v.p (aa [y.v.aq,ab y.v.L,l,j] (RA9 c (RAO y.v.L p)));let o:=λp:Prop=>RA2 y.v.p (aa [y.v.aq,ab y.v.L] p);let q:=λp:Prop=>RAO y.v.L p;let f:=λp:Prop=>RAO y.v.aq p;let N:=λp:Prop=>RAR i y.k.e y.k.rd y.k.w.done p;let K:Prop:=(y.k.w.done=d.w.done/\EwC y.k.w d.w (True));let V:=λz:a7=>FD y.k.w (aa [y.k.rd] ((Iv (HA y z))));let B:Prop:=(∃z:a7,ay .i64 y.t.pc 1=z.pc/\EwT y.t z (RA2 y.v.p (aa [y.v.aq,ab y.v.L,l,j] (RA9 c (RAR y.v.L i y.k.e y.k.w.done (V z))))));let C:Prop:=(false=q1/\o (l=E/\j=n/\c.us=(jI y).2.1.us/\c.pl=(jI y).2.1.pl/\q (i=D/\y.k.e=d.e/\y.k.rd=d.rd/\K)));let U:=λz:a7=>aa [y.v.p.ai] (aa [y.v.aq,ab y.v.L,l,j] (aa [c.us] (aa [c.pl] (aa [y.v.L] (aa [i] (aa [y.k.e,y.k.w.done] (V z)))))));Iv (θ y.v.s/\y.v.s.us.length<4096)/\RAO y.t.pc (Tt 1 (aa [ab y.v.s.pl,ab y.v.s.us] (aa [y.v.s.us] (aa [y.v.s.pl] (aa [y.t.pc] (aj P (C) (aM 0 y.t.pc/\aD y.t.pc (ab y.v.p.ag)/\aa [y.v.p.ag] (aa [y.t.pc,a.op,a.x,a.y] (aa [a.bz] ((aj (aE a.op 7) (RwH y.t (RwH y.t (true=q1/\o (l=E/\j=n/\c.us=(jI y).2.1.us/\c.pl=(jI y).2.1.pl/\q (i=D/\y.k.e=d.e/\y.k.rd=d.rd/\true=d.w.done/\EwM y.t d.w (True)))))) (aj (aE a.op 2) (Iv (toP r/\yl r<yl y)/\aa [a.x] (RwH y.t (N (FD y.k.w (M (aj (jI r).1 (true=q1/\o (H=E/\I=n/\m.us=(jI y).2.1.us/\m.pl=(jI y).2.1.pl/\q (J=D/\b.e=d.e/\b.rd=d.rd/\b.w.done=d.w.done/\EwC b.w d.w (True)))) (Iv (toP g/\yl g<yl y)/\aa [a.y] (RwH y.t (aa [J] (aa [b.e] (aa [b.rd] (aa [b.w.done] (FD b.w (aa [y.v.p.ag] (aa [y.v.p.ai] (aa [y.v.aq,ab y.v.L,H,I] (aa [m.us] (aa [m.pl] (aa [y.v.L] ((jI g).1=q1/\o (ab (jI g).2.1.pl=E/\ab (jI g).2.1.us=n/\(jI g).2.1.us=(jI y).2.1.us/\(jI g).2.1.pl=(jI y).2.1.pl/\q (ab u.rd=D/\u.e=d.e/\u.rd=d.rd/\u.w.done=d.w.done/\EwC u.w d.w (True))))))))))))))))))))))) (aj (aE a.op 1) (ba (ab O) 88/\aa [i,y.t.pc] (RwH y.t (false=q1/\o (l=E/\j=n/\c.us=(jI y).2.1.us/\c.pl=(jI y).2.1.pl/\q (ab O=D/\y.k.e=d.e/\O=d.rd/\K))))) (aj (aE a.op 3) (∃z:a7,a.x=z.pc/\EwT y.t z (aa [y.v.p.ag] (U z))) (aj (aE a.op 4) (aj (aE a.x 9) (f (∃z:a7,ay .i64 y.t.pc 1=z.pc/\y.t.c0=z.c0/\y.t.c1=z.c1/\y.t.c2=z.c2/\y.t.c3=z.c3/\y.t.c4=z.c4/\y.t.c5=z.c5/\y.t.c6=z.c6/\y.t.c7=z.c7/\y.t.c8=z.c8/\y.v.aq=z.c9/\aa [y.v.p.ag] (U z))) (aj (aE a.x 8) (f (∃z:a7,ay .i64 y.t.pc 1=z.pc/\y.t.c0=z.c0/\y.t.c1=z.c1/\y.t.c2=z.c2/\y.t.c3=z.c3/\y.t.c4=z.c4/\y.t.c5=z.c5/\y.t.c6=z.c6/\y.t.c7=z.c7/\y.v.aq=z.c8/\y.t.c9=z.c9/\aa [y.v.p.ag] (U z))) (aj (aE a.x 7) (f (∃z:a7,ay .i64 y.t.pc 1=z.pc/\y.t.c0=z.c0/\y.t.c1=z.c1/\y.t.c2=z.c2/\y.t.c3=z.c3/\y.t.c4=z.c4/\y.t.c5=z.c5/\y.t.c6=z.c6/\y.v.aq=z.c7/\y.t.c8=z.c8/\y.t.c9=z.c9/\aa [y.v.p.ag] (U z))) (aj (aE a.x 6) (f (∃z:a7,ay .i64 y.t.pc 1=z.pc/\y.t.c0=z.c0/\y.t.c1=z.c1/\y.t.c2=z.c2/\y.t.c3=z.c3/\y.t.c4=z.c4/\y.t.c5=z.c5/\y.v.aq=z.c6/\y.t.c7=z.c7/\y.t.c8=z.c8/\y.t.c9=z.c9/\aa [y.v.p.ag] (U z))) (aj (aE a.x 5) (f (∃z:a7,ay .i64 y.t.pc 1=z.pc/\y.t.c0=z.c0/\y.t.c1=z.c1/\y.t.c2=z.c2/\y.t.c3=z.c3/\y.t.c4=z.c4/\y.v.aq=z.c5/\y.t.c6=z.c6/\y.t.c7=z.c7/\y.t.c8=z.c8/\y.t.c9=z.c9/\aa [y.v.p.ag] (U z))) (aj (aE a.x 4) (f (∃z:a7,ay .i64 y.t.pc 1=z.pc/\y.t.c0=z.c0/\y.t.c1=z.c1/\y.t.c2=z.c2/\y.t.c3=z.c3/\y.v.aq=z.c4/\y.t.c5=z.c5/\y.t.c6=z.c6/\y.t.c7=z.c7/\y.t.c8=z.c8/\y.t.c9=z.c9/\aa [y.v.p.ag] (U z))) (aj (aE a.x 3) (f (∃z:a7,ay .i64 y.t.pc 1=z.pc/\y.t.c0=z.c0/\y.t.c1=z.c1/\y.t.c2=z.c2/\y.v.aq=z.c3/\y.t.c4=z.c4/\y.t.c5=z.c5/\y.t.c6=z.c6/\y.t.c7=z.c7/\y.t.c8=z.c8/\y.t.c9=z.c9/\aa [y.v.p.ag] (U z))) (aj (aE a.x 2) (f (∃z:a7,ay .i64 y.t.pc 1=z.pc/\y.t.c0=z.c0/\y.t.c1=z.c1/\y.v.aq=z.c2/\y.t.c3=z.c3/\y.t.c4=z.c4/\y.t.c5=z.c5/\y.t.c6=z.c6/\y.t.c7=z.c7/\y.t.c8=z.c8/\y.t.c9=z.c9/\aa [y.v.p.ag] (U z))) (aj (aE a.x 1) (f (∃z:a7,ay .i64 y.t.pc 1=z.pc/\y.t.c0=z.c0/\y.v.aq=z.c1/\y.t.c2=z.c2/\y.t.c3=z.c3/\y.t.c4=z.c4/\y.t.c5=z.c5/\y.t.c6=z.c6/\y.t.c7=z.c7/\y.t.c8=z.c8/\y.t.c9=z.c9/\aa [y.v.p.ag] (U z))) (aE a.x 0/\f (∃z:a7,ay .i64 y.t.pc 1=z.pc/\y.v.aq=z.c0/\y.t.c1=z.c1/\y.t.c2=z.c2/\y.t.c3=z.c3/\y.t.c4=z.c4/\y.t.c5=z.c5/\y.t.c6=z.c6/\y.t.c7=z.c7/\y.t.c8=z.c8/\y.t.c9=z.c9/\aa [y.v.p.ag] (U z)))))))))))) (aj (aE a.op 5) (aj (aD 0 y.v.aq) (C) (B)) (aj (aE a.op 6) (aj (!y.k.e) (C) (B)) (B))))))))/\(∀x:a7,let h:=Ja.mk F G x;let A:=(jI h).2.2;(Iv (HA y x))->Iv (toP h/\yl h<yl y)/\aa [x.pc] (RwH x (N (FD y.k.w (M ((jI h).1=q1/\o (ab (jI h).2.1.pl=E/\ab (jI h).2.1.us=n/\(jI h).2.1.us=(jI y).2.1.us/\(jI h).2.1.pl=(jI y).2.1.pl/\q (ab A.rd=D/\A.e=d.e/\A.rd=d.rd/\A.w.done=d.w.done/\EwC A.w d.w (True)))))))))))))))))))
def Ν:∀y,TX y=QrR y:=λy=>by kernel_rfl
theorem oD:ga s i↔0<=i/\i<s.pl.length/\tn s i=false:=by
 grind [ga]
theorem tq:tn s i↔0<=i/\i<s.pl.length/\s.pl.getD i.toNat 0<s.us.length/\(s.us.getD (s.pl.getD i.toNat 0).toNat it0).i=i:=by
 grind [tn]
theorem TY (h:∀v∈s.pl,(0:Int)<=v) (i:Nat):0<=s.pl.getD i 0:=by
 rw[Zag];cases e:s.pl[i]? with
 | none=>exact ZaQ 0
 | some v=>exact h v (ZaJ e)
theorem wO (x:Bool) (h:ga s i):dU s i x=⟨s.pl.set i.toNat s.us.length,s.us++[⟨i,x⟩]⟩:=by grind [dU]
theorem has_add (x:Bool) (a:∀v∈s.pl,(0:Int)<=v) (h:ga s i) (j:Int):tn (dU s i x) j↔tn s j\/j=i:=by
 obtain⟨h1,c,d⟩:=oD.1 h;rw[wO x h,tq,tq];simp only[Zbb,Zab,Zae,Zak];have g:=TY a j.toNat;by_cases e:j=i
 ·grind
 ·by_cases f:0<=j/\j<s.pl.length
  ·have b:(s.pl.set i.toNat (s.us.length:Int)).getD j.toNat 0=s.pl.getD j.toNat 0:=by
    grind
   grind
  ·omega
theorem oF (x:Bool):(dU s i x).pl.length=s.pl.length:=by grind [dU]
theorem Ο (x:Bool) (a:∀v∈s.pl,(0:Int)<=v) (h:ga s i) (j:Int):ga (dU s i x) j=(ga s j&&decide (j≠i)):=by
 grind [oD,has_add,dU]
theorem Bn (p:Nat->Bool) (a:Nat):∀n,(List.range n).countP (λx=>p x&&decide (x≠a))+(if a<n/\p a=true then 1 else 0)=(List.range n).countP p
 | 0=>by simp
 | n+1=>by
  have b:=Bn p a n;grind [List.range_succ]
theorem nK (x:Bool) (b:∀v∈s.pl,(0:Int)<=v) (h:ga s i):dA (dU s i x)+1=dA s:=by
 obtain⟨h1,a,_⟩:=oD.1 h;unfold dA;rw[oF,<-Bn (λi:Nat=>ga s i) i.toNat s.pl.length,Zac ⟨ω,by grind⟩];grind [Ο]
theorem C6 (x:Bool) (hs:C5 s) (h:ga s i):C5 (dU s i x):=by
 obtain⟨h1,f,n,g⟩:=hs;obtain⟨c1,c2,c3⟩:=oD.1 h;have o:=nK x f h;refine⟨by grind [oF],?_,?_,?_⟩
 ·grind [wO]
 ·grind [wO]
 ·rw[wO x h];intro j k;simp only[Zab,Zae,Zak,Zbb] at k ⊢;by_cases e:j<s.us.length
  ·obtain⟨a,b,c⟩:=g j e;have d:(s.us++[(⟨i,x⟩:Item)]).getD j it0=s.us.getD j it0:=by grind
   rw[d];refine⟨a,b,?_⟩;have l:(s.us.getD j it0).i≠i:=λq=>by
    grind [tq,Int.toNat_natCast]
   rw[Zag,Zc2 ω,<-Zag];exact c
  ·have m:j=s.us.length:=ω;simp_all
structure Ρ (s:jb) (k:rF) (r:Bool×jb×rF):Prop where
 i:C5 r.2.1
 l:r.2.1.pl.length=s.pl.length
 rd:r.2.2.rd.length+dA r.2.1<=k.rd.length+dA s
 f:dA r.2.1<=dA s
 th:r.2.2.w.aU=k.w.aU
 e:r.2.2.e=k.e
variable {s:jb}
def Ρ.trans {k:rF} {b:Bool} {a:jb} {k1:rF} {r:Bool×jb×rF} (h:Ρ s k (b,a,k1)) (g:Ρ a k1 r):Ρ s k r:=
 ⟨g.i,g.l.trans h.l,Zav g.rd h.rd,Zav g.f h.f,g.th.trans h.th,g.e.trans h.e⟩
theorem wP {k:rF} {i:Int} (b x:Bool) (hs:C5 s) (h:ga s i):Ρ s k (b,dU s i x,k):=by
 have a:=nK x hs.2.1 h;exact⟨C6 x hs h,oF x,by grind,by grind,rfl,rfl⟩
theorem kj (ag:List a8) (aq:Int):∀(n:Nat) (s:jb) (k:rF) (t:a7),C5 s->Ρ s k (qX ag aq n s k t)
 | 0,s,k,t,hs=>⟨hs,rfl,Zah _,Zah _,rfl,rfl⟩
 | n+1,s,k,t,hs=>by
  unfold qX;by_cases h:ga s t.pc=false
  ·rw[Zac h];exact⟨hs,rfl,Zah _,Zah _,rfl,rfl⟩
  ·rw[Zaa h];have c:ga s t.pc:=by grind
   have a:=wP (k:=k) false true hs c;have d:=nK true hs.2.1 c;simp only;have go:∀b,Ρ s k (qX ag aq n (dU s t.pc true) k b):=λb=>a.trans (kj ag aq n _ k b a.i)
   split
   ·exact⟨a.i,a.l,a.rd,a.f,rfl,rfl⟩
   split
   ·split
    ·exact go _
    ·exact(go { t with pc:=_ }).trans (kj ag aq n _ _ _ (go _).i)
   split
   ·exact⟨a.i,a.l,by grind,a.f,rfl,rfl⟩
   grind
theorem ym (ag:List a8) (aq:Int):∀(n m:Nat) (s:jb) (k:rF) (t:a7),C5 s->dA s<n->dA s<m->qX ag aq n s k t=qX ag aq m s k t
 | 0,_,_,_,_,_,h,_=>by omega
 | _,0,_,_,_,_,_,h=>by omega
 | n+1,m+1,s,k,t,hs,h1,g=>by
  rw[qX,qX];by_cases h:ga s t.pc=false
  ·grind
  ·rw[Zaa h,Zaa h];have d:ga s t.pc:=by grind
   have e:=wP (k:=k) false true hs d;have j:=nK true hs.2.1 d;have go:∀k b,qX ag aq n (dU s t.pc true) k b=qX ag aq m (dU s t.pc true) k b:=λk b=>ym ag aq n m _ k b e.i ω ω
   have go2:∀a c,qX ag aq n (qX ag aq m (dU s t.pc true) k a).2.1 (qX ag aq m (dU s t.pc true) k a).2.2 c=qX ag aq m (qX ag aq m (dU s t.pc true) k a).2.1 (qX ag aq m (dU s t.pc true) k a).2.2 c:=λa c=>by
    have hk:=kj ag aq m (dU s t.pc true) k a e.i;have:=hk.f;exact ym ag aq n m _ _ c hk.i ω ω
   simp only[go,go2]
theorem Mo {i:Int} {x:Bool} (h:ga s i=false):dU s i x=s:=by grind [dU]
def TZ (h:C5 s):θ s/\s.us.length<=1000:=⟨⟨by have:=h.1;omega,by have:=h.1;have:=h.2.2.1;omega,h.2.1⟩,by have:=h.1;have:=h.2.2.1;omega⟩
abbrev FE (y:Ja) (t:a7):Ja:=⟨⟨y.v.p,y.v.aq,y.v.L,dU y.v.s y.t.pc true⟩,y.k,t⟩
theorem Qd8 {y:Ja} (e:toP y) (h:ga y.v.s y.t.pc) (t:a7):jI (FE y t)=qX y.v.p.ag y.v.aq (dA y.v.s) (dU y.v.s y.t.pc true) y.k t/\toP (FE y t)/\yl (FE y t)<yl y:=by
 obtain⟨a,hl,c,f,hw⟩:=e;have d:=nK true a.2.1 h;have b:=wP (k:=y.k) false true a h;refine⟨?_,⟨b.i,by grind [oF],c,?_,hw⟩,?_⟩
 ·show qX y.v.p.ag y.v.aq (dA (dU y.v.s y.t.pc true)+1) (dU y.v.s y.t.pc true) y.k t=_
  rw[d]
 ·grind
 ·show dA (dU y.v.s y.t.pc true)<dA y.v.s
  omega
theorem QrS (y:Ja) (G:toP y):TX y:=by
  unfold TX;simp only[bN,bj,Qgv,EwC,EwT,EwM,aw,bq,a_,dL,Zad,ZaX,ZaY,ZaZ,Zan,Zao];have F:=G;obtain⟨A,hl,B,V,hw⟩:=G;have hk:(⟨⟨y.k.w.done,y.k.w.c0,y.k.w.c1,y.k.w.c2,y.k.w.c3,y.k.w.c4,y.k.w.c5,y.k.w.c6,y.k.w.c7,y.k.w.c8,y.k.w.c9,[]⟩,y.k.rd,y.k.e⟩:rF)=y.k:=by rw[<-hw]
  obtain⟨H,hu⟩:=TZ A;have I:y.v.p.ag.length<=1000:=B.1;have b:jI y=qX y.v.p.ag y.v.aq (dA y.v.s+1) y.v.s y.k y.t:=rfl;simp only[hk];refine⟨⟨H,ω⟩,λh=>?_,λh=>?_⟩
  · grind [qX,Mo]
  · obtain⟨c1,c2,c3⟩:=oD.1 h;have J:¬ga y.v.s y.t.pc=false:=by grind
    rw[qX,Zaa J] at b;have E:∀x:a8,(y.v.p.ag.getD y.t.pc.toNat ⟨0,0,0,[]⟩)=x->y.v.p.ag.getD y.t.pc.toNat Κ=x:=λx h=>h
    generalize M:y.v.p.ag.getD y.t.pc.toNat ⟨0,0,0,[]⟩=x at*
    have E:=E x rfl;simp only[E] at b;refine⟨c1,ω,⟨λd=>?_,λd=>⟨λn=>?_,λn=>⟨λo1=>?_,λo1=>⟨λo=>?_,λo=>⟨λu=>?_,λu=>?_⟩⟩⟩⟩⟩,λt ht=>?_⟩
    · rw[Zac d] at b;rw[b]
      (repeat' apply And.intro)<;>rfl
    · rw[Zaa d,Zac n] at b;obtain⟨Q,R,s3⟩:=Qd8 F h ⟨x.x,y.t.c0,y.t.c1,y.t.c2,y.t.c3,y.t.c4,y.t.c5,y.t.c6,y.t.c7,y.t.c8,y.t.c9⟩;have a:=kj y.v.p.ag y.v.aq (dA y.v.s) (dU y.v.s y.t.pc true) y.k ⟨x.x,y.t.c0,y.t.c1,y.t.c2,y.t.c3,y.t.c4,y.t.c5,y.t.c6,y.t.c7,y.t.c8,y.t.c9⟩ (C6 true A h);rw[<-Q] at a;have g:jI y=if (jI (FE y ⟨x.x,y.t.c0,y.t.c1,y.t.c2,y.t.c3,y.t.c4,y.t.c5,y.t.c6,y.t.c7,y.t.c8,y.t.c9⟩)).1=true then jI (FE y ⟨x.x,y.t.c0,y.t.c1,y.t.c2,y.t.c3,y.t.c4,y.t.c5,y.t.c6,y.t.c7,y.t.c8,y.t.c9⟩)
          else qX y.v.p.ag y.v.aq (dA y.v.s) (jI (FE y ⟨x.x,y.t.c0,y.t.c1,y.t.c2,y.t.c3,y.t.c4,y.t.c5,y.t.c6,y.t.c7,y.t.c8,y.t.c9⟩)).2.1 (jI (FE y ⟨x.x,y.t.c0,y.t.c1,y.t.c2,y.t.c3,y.t.c4,y.t.c5,y.t.c6,y.t.c7,y.t.c8,y.t.c9⟩)).2.2 ⟨x.y,y.t.c0,y.t.c1,y.t.c2,y.t.c3,y.t.c4,y.t.c5,y.t.c6,y.t.c7,y.t.c8,y.t.c9⟩:=by grind
      refine⟨⟨R,s3⟩,?_⟩;generalize jI (FE y ⟨x.x,y.t.c0,y.t.c1,y.t.c2,y.t.c3,y.t.c4,y.t.c5,y.t.c6,y.t.c7,y.t.c8,y.t.c9⟩)=r at*
      have U:=nK true A.2.1 h;have m:r.2.2.w.aU=[]:=a.th.trans hw;have C:(⟨⟨r.2.2.w.done,r.2.2.w.c0,r.2.2.w.c1,r.2.2.w.c2,r.2.2.w.c3,r.2.2.w.c4,r.2.2.w.c5,r.2.2.w.c6,r.2.2.w.c7,r.2.2.w.c8,r.2.2.w.c9,[]⟩,r.2.2.rd,r.2.2.e⟩:rF)=r.2.2:=by rw[<-m]
      simp only[C];have K:dA r.2.1<=dA (dU y.v.s y.t.pc true):=a.f;have D:dA r.2.1<dA y.v.s:=ω;refine⟨λq=>?_,λq=>?_⟩
      · grind
      · rw[Zaa (by grind)] at g;have e2:jI ⟨⟨y.v.p,y.v.aq,y.v.L,r.2.1⟩,r.2.2,⟨x.y,y.t.c0,y.t.c1,y.t.c2,y.t.c3,y.t.c4,y.t.c5,y.t.c6,y.t.c7,y.t.c8,y.t.c9⟩⟩=jI y:=by
          rw[g];exact ym _ _ _ _ _ _ _ a.i (Zbr _) D
        refine⟨⟨⟨a.i,by show r.2.1.pl.length=_;rw[a.l,oF];exact hl,B,?_,m⟩,?_⟩,?_⟩
        · have:=a.rd;grind
        · assumption
        · grind
    · grind
    · rw[Zaa d,Zaa n,Zaa o1,Zac o] at b;exact⟨⟨x.x,y.t.c0,y.t.c1,y.t.c2,y.t.c3,y.t.c4,y.t.c5,y.t.c6,y.t.c7,y.t.c8,y.t.c9⟩,rfl,rfl,rfl,rfl,rfl,rfl,rfl,rfl,rfl,rfl,rfl,h,b.symm⟩
    · rw[Zaa d,Zaa n,Zaa o1,Zaa o,Zac u] at b;have j:x∈y.v.p.ag:=by
        grind
      obtain⟨S,T⟩:=B.2 x j u;have hz:HA y (Qgw ⟨y.t.pc+1,y.t.c0,y.t.c1,y.t.c2,y.t.c3,y.t.c4,y.t.c5,y.t.c6,y.t.c7,y.t.c8,y.t.c9⟩ x.x y.v.aq):=⟨h,b.symm⟩;have c:ay .i64 y.t.pc 1=y.t.pc+1:=bA ω ω
      repeat' first | apply And.intro | intro _
      all_goals first
        | omega
        | (refine⟨_,?_,?_,?_,?_,?_,?_,?_,?_,?_,?_,?_,hz⟩
           · exact c
           all_goals (unfold Qgw;simp only;split<;>first | rfl | omega))
    · rw[Zaa d,Zaa n,Zaa o1,Zaa o,Zaa u] at b;have c:ay .i64 y.t.pc 1=y.t.pc+1:=bA ω ω;have N:jI y=qX y.v.p.ag y.v.aq (dA y.v.s) (dU y.v.s y.t.pc true) y.k ⟨y.t.pc+1,y.t.c0,y.t.c1,y.t.c2,y.t.c3,y.t.c4,y.t.c5,y.t.c6,y.t.c7,y.t.c8,y.t.c9⟩->
          ∃z:a7,ay .i64 y.t.pc 1=z.pc/\y.t.c0=z.c0/\y.t.c1=z.c1/\y.t.c2=z.c2/\y.t.c3=z.c3/\y.t.c4=z.c4/\y.t.c5=z.c5/\y.t.c6=z.c6/\y.t.c7=z.c7/\y.t.c8=z.c8/\y.t.c9=z.c9/\HA y z:=
        λe=>⟨⟨y.t.pc+1,y.t.c0,y.t.c1,y.t.c2,y.t.c3,y.t.c4,y.t.c5,y.t.c6,y.t.c7,y.t.c8,y.t.c9⟩,c,rfl,rfl,rfl,rfl,rfl,rfl,rfl,rfl,rfl,rfl,h,e.symm⟩
      refine⟨λO=>⟨λp=>?_,λp=>?_⟩,λO=>⟨λP=>⟨λq=>?_,λq=>?_⟩,λP=>?_⟩⟩
      · grind
      · grind
      · grind
      · grind
      · grind
    · obtain⟨_,ht⟩:=ht;grind [Qd8]
def Qkt:Ok Jb:=QY yl Ν QdR QrS
def wkP (a b n:Nat) (y:rF):List (Nat×AO D.E):=[(a,.cells [.ptr b 0,.own n 11 (ab y.rd),.bool y.e] 266 false),
 (b,.cells [.bool y.w.done,.int .i64 y.w.c0,.int .i64 y.w.c1,.int .i64 y.w.c2,.int .i64 y.w.c3,.int .i64 y.w.c4,.int .i64 y.w.c5,.int .i64 y.w.c6,.int .i64 y.w.c7,.int .i64 y.w.c8,.int .i64 y.w.c9,.dc] 113 false),
 (n,.arr 1 y.rd 240 false)]
def Mq:db:=⟨false,0,0,0,0,0,0,0,0,0,0,[]⟩
def tr (ag:List a8) (aq:Int):List a7->jb->rF->jb×rF
 | [],s,k=>(s,k)
 | t::l,s,k=>let r:=qX ag aq (dA s+1) s k t;if r.1=true then r.2 else tr ag aq l r.2.1 r.2.2
structure FF where
 v:iB
 i:Int
 e:Bool
def D4 (y:FF):db:=y.v.L.getD y.i.toNat Mq
def exK (y:FF):rF:=⟨{ D4 y with aU:=[] },[],y.e⟩
def exS (y:FF):jb:=⟨y.v.s.pl,gI⟩
def cz (y:FF):jb×rF:=tr y.v.p.ag y.v.aq (D4 y).aU (exS y) (exK y)
def vmP (v:iB):Prop:=v.s.pl.length=v.p.ag.length/\(∀x∈v.s.pl,(0:Int)<=x)/\Μ v.p.ag
def exP (y:FF):Prop:=vmP y.v/\0<=y.i/\y.i<y.v.L.length/\(D4 y).aU.length<=1000000
def QrV (a:List (AV D.E)) (s:St D.E):C FF:=match a with
 | [p,i,e]=>aB (IK p s) λv=>aP (cQ i) λ_ i=>aP (xg e) λe _=>.ret ⟨v,i,e⟩
 | _=>.fail
def lsA (w:db):AV D.E:=.agg [.bool w.done,.int .i64 w.c0,.int .i64 w.c1,.int .i64 w.c2,.int .i64 w.c3,.int .i64 w.c4,.int .i64 w.c5,.int .i64 w.c6,.int .i64 w.c7,.int .i64 w.c8,.int .i64 w.c9,.dc]
def OZ:bp D:=⟨146,FF,QrV,exP,λy=>[.ptr 0 0,Qyy y.i,.bool y.e],λy=>Fl 0 y.v,λy=>.tuple [lsA (cz y).2.w,.list 1 (cz y).2.rd],λy=>CY 0 5 4 { y.v with s:=(cz y).1 },5,6⟩
def exI (y:FF) (x:Nat×jb×rF):Prop:=x.1<=(D4 y).aU.length/\C5 x.2.1/\x.2.1.pl.length=y.v.p.ag.length/\x.2.2.rd.length+dA x.2.1<=1000/\x.2.2.w.aU=[]/\tr y.v.p.ag y.v.aq ((D4 y).aU.drop x.1) x.2.1 x.2.2=cz y
def QrW (y:OZ.Y):dj D:=⟨[],[],[(506,⟨Nat×jb×rF,[0,6,7,9,10,34,35],λx=>[(36,Qyy x.1)],[5],λx=>CY 0 9 4 { FF.v y with s:=x.2.1 }++wkP 8 7 10 x.2.2,11,exI y,λx=>(D4 y).aU.length-x.1⟩)],[],1,[]⟩
def T0 (y:FF):Prop:=let n:=ab y.v.L;let q1:=(D4 y).aU.length;let o:=ab y.v.s.pl;let q:=ab (cz y).1.pl;let r:=ab (cz y).1.us;let d:=gt (db.mk false 0 0 0 0 0 0 0 0 0 0 []) y.v.L y.i.toNat;let l:=ab d.aU;let m:=λp:Prop=>RA2 y.v.p (RAP y.v.aq n p);aM 0 y.i/\aD y.i n/\Iv True/\aa [o,ab y.v.s.us] (RA9 y.v.s ((∃z:Nat×jb×rF,aa [d.aU] (aa [l] (0=(z.1:Int)/\0=ab z.2.2.rd/\y.e=z.2.2.e/\[]=z.2.2.rd/\d.done=z.2.2.w.done/\d.c0=z.2.2.w.c0/\d.c1=z.2.2.w.c1/\d.c2=z.2.2.w.c2/\d.c3=z.2.2.w.c3/\d.c4=z.2.2.w.c4/\d.c5=z.2.2.w.c5/\d.c6=z.2.2.w.c6/\d.c7=z.2.2.w.c7/\d.c8=z.2.2.w.c8/\d.c9=z.2.2.w.c9/\m (o=ab z.2.1.pl/\ab gI=ab z.2.1.us/\gI=z.2.1.us/\y.v.s.pl=z.2.1.pl/\aa [y.v.L] ((Iv (exI y z)))))))/\(∀x:Nat×jb×rF,let k:=(x.1:Int);let t:=ab x.2.1.us;let g:=ab x.2.1.pl;let b:=gt (a7.mk 0 0 0 0 0 0 0 0 0 0 0) d.aU k.toNat;let c:=Ja.mk (iB.mk y.v.p y.v.aq y.v.L x.2.1) (rF.mk (db.mk x.2.2.w.done x.2.2.w.c0 x.2.2.w.c1 x.2.2.w.c2 x.2.2.w.c3 x.2.2.w.c4 x.2.2.w.c5 x.2.2.w.c6 x.2.2.w.c7 x.2.2.w.c8 x.2.2.w.c9 []) x.2.2.rd x.2.2.e) b;let a:=(jI c).2.2;let h:=ab (jI c).2.1.us;let j:=ab (jI c).2.1.pl;let f:=ab a.rd;(Iv (exI y x))->aj (aD k l) (aM 0 k/\aD k l/\Iv (toP c)/\aa [b.pc,b.c0,b.c1,b.c2,b.c3,b.c4,b.c5,b.c6,b.c7,b.c8,b.c9,ab x.2.2.rd] (aa [x.2.2.e] (aa [x.2.2.rd] (aa [x.2.2.w.done] (aa [x.2.2.w.c0,x.2.2.w.c1,x.2.2.w.c2,x.2.2.w.c3,x.2.2.w.c4,x.2.2.w.c5,x.2.2.w.c6,x.2.2.w.c7,x.2.2.w.c8,x.2.2.w.c9] (aa [y.v.p.ag] (aa [y.v.p.ai] (aa [y.v.aq,n,g,t] (aa [x.2.1.us] (aa [x.2.1.pl] (aa [y.v.L] (aj (jI c).1 (aa [a.w.done] (aa [a.w.c0,a.w.c1,a.w.c2,a.w.c3,a.w.c4,a.w.c5,a.w.c6,a.w.c7,a.w.c8,a.w.c9,f,f] (a.w.done=(cz y).2.w.done/\a.w.c0=(cz y).2.w.c0/\a.w.c1=(cz y).2.w.c1/\a.w.c2=(cz y).2.w.c2/\a.w.c3=(cz y).2.w.c3/\a.w.c4=(cz y).2.w.c4/\a.w.c5=(cz y).2.w.c5/\a.w.c6=(cz y).2.w.c6/\a.w.c7=(cz y).2.w.c7/\a.w.c8=(cz y).2.w.c8/\a.w.c9=(cz y).2.w.c9/\a.rd=(cz y).2.rd/\m (j=q/\h=r/\(jI c).2.1.us=(cz y).1.us/\(jI c).2.1.pl=(cz y).1.pl/\aa [y.v.L] (True))))) (∃z:Nat×jb×rF,aa [d.aU] (aa [l] (ay .i64 k 1=(z.1:Int)/\f=ab z.2.2.rd/\a.e=z.2.2.e/\a.rd=z.2.2.rd/\a.w.done=z.2.2.w.done/\a.w.c0=z.2.2.w.c0/\a.w.c1=z.2.2.w.c1/\a.w.c2=z.2.2.w.c2/\a.w.c3=z.2.2.w.c3/\a.w.c4=z.2.2.w.c4/\a.w.c5=z.2.2.w.c5/\a.w.c6=z.2.2.w.c6/\a.w.c7=z.2.2.w.c7/\a.w.c8=z.2.2.w.c8/\a.w.c9=z.2.2.w.c9/\m (j=ab z.2.1.pl/\h=ab z.2.1.us/\(jI c).2.1.us=z.2.1.us/\(jI c).2.1.pl=z.2.1.pl/\aa [y.v.L] ((Iv (exI y z/\(q1-z.1)<(q1-x.1)))))))))))))))))))) (aa [x.2.2.w.done] (aa [x.2.2.w.c0,x.2.2.w.c1,x.2.2.w.c2,x.2.2.w.c3,x.2.2.w.c4,x.2.2.w.c5,x.2.2.w.c6,x.2.2.w.c7,x.2.2.w.c8,x.2.2.w.c9,ab x.2.2.rd,ab x.2.2.rd] (x.2.2.w.done=(cz y).2.w.done/\x.2.2.w.c0=(cz y).2.w.c0/\x.2.2.w.c1=(cz y).2.w.c1/\x.2.2.w.c2=(cz y).2.w.c2/\x.2.2.w.c3=(cz y).2.w.c3/\x.2.2.w.c4=(cz y).2.w.c4/\x.2.2.w.c5=(cz y).2.w.c5/\x.2.2.w.c6=(cz y).2.w.c6/\x.2.2.w.c7=(cz y).2.w.c7/\x.2.2.w.c8=(cz y).2.w.c8/\x.2.2.w.c9=(cz y).2.w.c9/\x.2.2.rd=(cz y).2.rd/\m (g=q/\t=r/\x.2.1.us=(cz y).1.us/\x.2.1.pl=(cz y).1.pl/\aa [y.v.L] (True))))))))
theorem tt {l:List Int} (h:∀v∈l,(0:Int)<=v) (hl:l.length<=1000):C5 ⟨l,gI⟩/\dA ⟨l,gI⟩=l.length:=by
 have a:dA ⟨l,gI⟩=l.length:=by
  unfold dA;rw[List.countP_eq_length.2,List.length_range];intro i hi;rw[List.mem_range] at hi;refine oD.2 ⟨ω,ω,?_⟩;cases e:tn ⟨l,gI⟩ i with
  | false=>rfl
  | true=>
   have c:=(tq.1 e).2.2.1;have d:=TY (s:=⟨l,gI⟩) h (i:Int).toNat;have f:((gI.length:Nat):Int)=0:=rfl;grind
 exact⟨⟨hl,h,by rw[a];exact Za6 _,λj b=>absurd b (Zbo _)⟩,a⟩
theorem QrY (y:FF) (J:exP y):T0 y:=by
 unfold T0;simp only[bN,bj,aw,dL,Zad];obtain⟨⟨z,A,f⟩,m,n,G⟩:=J;have D:y.v.p.ag.length<=1000:=f.1;have F:y.v.L.getD y.i.toNat ⟨false,0,0,0,0,0,0,0,0,0,0,[]⟩=D4 y:=rfl;simp only[F];obtain⟨t,E⟩:=tt (l:=y.v.s.pl) A ω;refine⟨m,n,⟨(0,exS y,exK y),rfl,rfl,rfl,rfl,rfl,rfl,rfl,rfl,rfl,rfl,rfl,rfl,rfl,rfl,rfl,rfl,rfl,rfl,rfl,⟨Zaj _,t,z,?_,rfl,rfl⟩⟩,λx I=>?_⟩
 ·show 0+dA ⟨y.v.s.pl,gI⟩<=1000
  omega
 ·obtain⟨k,s,w⟩:=x;obtain⟨h1,h,j,C,g,a⟩:=I;simp only at h1 h j C g a ⊢;have o:(⟨⟨w.w.done,w.w.c0,w.w.c1,w.w.c2,w.w.c3,w.w.c4,w.w.c5,w.w.c6,w.w.c7,w.w.c8,w.w.c9,[]⟩,w.rd,w.e⟩:rF)=w:=by rw[<-g]
  simp only[o];refine⟨λq=>?_,λq=>?_⟩
  ·have d:k<(D4 y).aU.length:=ω;have ht:(D4 y).aU.getD k ⟨0,0,0,0,0,0,0,0,0,0,0⟩=(D4 y).aU[k]:=by grind
   rw[ht];rw[Zaq d] at a;have c:=kj y.v.p.ag y.v.aq (dA s+1) s w (D4 y).aU[k] h;have B:jI ⟨⟨y.v.p,y.v.aq,y.v.L,s⟩,w,(D4 y).aU[k]⟩=qX y.v.p.ag y.v.aq (dA s+1) s w (D4 y).aU[k]:=rfl;rw[tr] at a;rw[<-B] at a c;refine⟨ω,q,⟨h,j,f,?_,g⟩,?_⟩
   ·grind
   generalize jI ⟨⟨y.v.p,y.v.aq,y.v.L,s⟩,w,(D4 y).aU[k]⟩=r at*
   have u:r.2.2.w.aU=[]:=c.th.trans g;have H:=c.rd;refine⟨λb=>?_,λb=>?_⟩
   ·grind
   ·rw[Zaa (by grind)] at a;exact⟨(k+1,r.2.1,r.2.2),bA ω ω,rfl,rfl,rfl,rfl,rfl,rfl,rfl,rfl,rfl,rfl,rfl,rfl,rfl,rfl,rfl,rfl,rfl,rfl,⟨d,c.i,c.l.trans j,by grind,u,a⟩,ω⟩
  ·grind [tr]
def Qea:Ok OZ:=okZ [Th,Jb] f146 QrW ⟨QdS,Qkt⟩ QrY
def ig (v:iB):Nat->jb×List db
 | 0=>(v.s,[])
 | k+1=>((cz ⟨⟨v.p,v.aq,v.L,(ig v k).1⟩,k,true⟩).1,(ig v k).2++[(cz ⟨⟨v.p,v.aq,v.L,(ig v k).1⟩,k,true⟩).2.w])
def enP (y:iB):Prop:=vmP y/\y.L.length<=1000/\∀l∈y.L,l.aU.length<=1000000
def FG:bp D:=⟨113,iB,ON,enP,λ_=>[.ptr 0 0],Fl 0,λy=>.list 2 (ig y y.L.length).2,λy=>CY 0 5 4 { y with s:=(ig y y.L.length).1 },5,6⟩
def Qkv (y:FG.Y):dj D:=⟨[],[],[(58,⟨Nat,[0,10,11],λk=>[(3,.grow 2 (ig y k).2 6),(12,Qyy k)],[],λk=>CY 0 5 4 { y with s:=(ig y k).1 }++[(6,.tok 2 113)],7,λk=>k<=List.length (iB.L y),λk=>List.length (iB.L y) -k⟩)],[],1,[]⟩
def Jc (y:iB):Prop:=let b:=y.L.length;let d:=λp:Prop=>RA2 y.p (aa [y.aq,ab y.L] p);(∃z:Nat,aa [ab y.L,ab y.L] ([]=(ig y z).2/\0=(z:Int)/\d (ab y.s.pl=ab (ig y z).1.pl/\ab y.s.us=ab (ig y z).1.us/\y.s.us=(ig y z).1.us/\y.s.pl=(ig y z).1.pl/\aa [y.L] ((Iv (z<=b))))))/\(∀x:Nat,let c:=(ig y x).1;let h:=aD (x:Int) (ab y.L);let e:=ab c.pl;let f:=ab c.us;let a:=FF.mk (iB.mk y.p y.aq y.L c) (x:Int) true;let g:=bn (ig y x).2 [db.mk (cz a).2.w.done (cz a).2.w.c0 (cz a).2.w.c1 (cz a).2.w.c2 (cz a).2.w.c3 (cz a).2.w.c4 (cz a).2.w.c5 (cz a).2.w.c6 (cz a).2.w.c7 (cz a).2.w.c8 (cz a).2.w.c9 []];(Iv (x<=b))->aj h (Iv (exP a)/\RAO (x:Int) (Tt 1 (aa [y.p.ag] (aa [y.p.ai] (aa [y.aq,ab y.L,e,f] (aa [c.us] (aa [c.pl] (aa [y.L] (ba (ab g) 112/\∃z:Nat,aa [ab y.L,ab y.L] (g=(ig y z).2/\ay .i64 (x:Int) 1=(z:Int)/\d (ab (cz a).1.pl=ab (ig y z).1.pl/\ab (cz a).1.us=ab (ig y z).1.us/\(cz a).1.us=(ig y z).1.us/\(cz a).1.pl=(ig y z).1.pl/\aa [y.L] ((Iv (z<=b/\(b-z)<(b-x))))))))))))))) ((ig y x).2=(ig y b).2/\d (e=ab (ig y b).1.pl/\f=ab (ig y b).1.us/\c.us=(ig y b).1.us/\c.pl=(ig y b).1.pl/\RAO y.L (True))))
theorem yn (ag:List a8) (aq:Int):∀(l:List a7) (s:jb) (k:rF),C5 s->Ρ s k (false,tr ag aq l s k)
 | [],s,k,hs=>⟨hs,rfl,Zah _,Zah _,rfl,rfl⟩
 | t::l,s,k,hs=>by
  have a:=kj ag aq (dA s+1) s k t hs;rw[tr];split
  ·exact⟨a.i,a.l,a.rd,a.f,a.th,a.e⟩
  ·exact Ρ.trans (b:=false) ⟨a.i,a.l,a.rd,a.f,a.th,a.e⟩ (yn ag aq l _ _ a.i)
def C7 {y:FF} (h:vmP y.v):(cz y).1.pl.length=y.v.p.ag.length/\(∀x∈(cz y).1.pl,(0:Int)<=x)/\(cz y).2.rd.length<=1000/\(cz y).2.w.aU=[]:=by
 obtain⟨h1,c,d⟩:=h;have g:y.v.p.ag.length<=1000:=d.1;obtain⟨b,e⟩:=tt (l:=y.v.s.pl) c ω;have a:=yn y.v.p.ag y.v.aq (D4 y).aU (exS y) (exK y) b;refine⟨a.l.trans h1,a.i.2.1,?_,a.th⟩;have f:(cz y).2.rd.length+dA (cz y).1<=0+dA ⟨y.v.s.pl,gI⟩:=a.rd;omega
theorem C8 {y:iB} (h:vmP y):∀k,vmP ⟨y.p,y.aq,y.L,(ig y k).1⟩/\(ig y k).2.length=k
 | 0=>⟨h,rfl⟩
 | k+1=>by
  have a:=C8 h k;have e:=C7 (y:=⟨⟨y.p,y.aq,y.L,(ig y k).1⟩,k,true⟩) a.1;exact⟨⟨e.1,e.2.1,h.2.2⟩,by grind [ig]⟩
theorem Qkx (y:iB) (e:enP y):Jc y:=by
 unfold Jc;simp only[bN,bj,aw,bq,a_];obtain⟨d,hl,hs⟩:=e;refine⟨⟨0,rfl,rfl,rfl,rfl,rfl,rfl,Zaj _⟩,λx f=>⟨λk=>?_,λk=>?_⟩⟩
 ·have c:x<y.L.length:=ω;obtain⟨i1,i2⟩:=C8 d x;have b:(D4 ⟨⟨y.p,y.aq,y.L,(ig y x).1⟩,x,true⟩).aU.length<=1000000:=by
   show(y.L.getD (x:Int).toNat Mq).aU.length<=1000000
   grind
  have hw:=(C7 (y:=⟨⟨y.p,y.aq,y.L,(ig y x).1⟩,x,true⟩) i1).2.2.2;have a:∀w:db,w.aU=[]->(⟨w.done,w.c0,w.c1,w.c2,w.c3,w.c4,w.c5,w.c6,w.c7,w.c8,w.c9,[]⟩:db)=w:=λw h=>by rw[<-h]
  simp only[a _ hw];refine⟨⟨i1,by grind,by assumption,b⟩,?_,x+1,rfl,bA ω ω,rfl,rfl,rfl,rfl,ω,ω⟩;grind
 ·grind
def Qgx:Ok FG:=okZ [OZ] f113 Qkv Qea Qkx
structure Mr where
 v:iB
 i:Int
 r:Int
def fp (y:Mr):FF:=⟨y.v,y.i,false⟩
def nxT (t:a7):a7:={ t with pc:=t.pc+1 }
def Qky (ag:List a8) (r:Int) (t:a7):Bool:=bh (ag.getD t.pc.toNat Κ).bz r
def Ab (ag:List a8) (r:Int):List a7->jb->List a7->jb×List a7
 | [],s,o=>(s,o)
 | t::l,s,o=>if Qky ag r t=true then Ab ag r l (dU s (t.pc+1) true) (if ga s (t.pc+1)=true then o++[nxT t] else o) else Ab ag r l s o
def Υ (y:Mr):jb×List a7:=Ab y.v.p.ag y.r (cz (fp y)).2.rd ⟨(cz (fp y)).1.pl,gI⟩ []
def stA (y:Mr):Int:=y.v.p.ai.getD y.i.toNat 0
def yo (y:Mr):jb×List a7:=if (cz (fp y)).2.w.done=true then Υ y else(dU (Υ y).1 (stA y) true,if ga (Υ y).1 (stA y)=true then(Υ y).2++[⟨stA y,-1,-1,-1,-1,-1,-1,-1,-1,-1,-1⟩] else(Υ y).2)
def stW (y:Mr):db:={ (cz (fp y)).2.w with aU:=(yo y).2 }
def stP (y:Mr):Prop:=exP (fp y)/\y.i<y.v.p.ai.length
def QkA (a:List (AV D.E)) (s:St D.E):C Mr:=match a with
 | [p,i,r]=>aB (IK p s) λv=>aP (cQ i) λ_ i=>aP (cQ r) λ_ r=>.ret ⟨v,i,r⟩
 | _=>.fail
def lsW (b n:Nat) (w:db) (o:List a7):List (Nat×AO D.E):=[(b,.cells [.bool w.done,.int .i64 w.c0,.int .i64 w.c1,.int .i64 w.c2,.int .i64 w.c3,.int .i64 w.c4,.int .i64 w.c5,.int .i64 w.c6,.int .i64 w.c7,.int .i64 w.c8,.int .i64 w.c9,.own n 11 (ab o)] 113 false),(n,.arr 1 o 240 false)]
def T2:bp D:=⟨144,Mr,QkA,stP,λy=>[.ptr 0 0,Qyy y.i,.int .i32 y.r],λy=>Fl 0 y.v,λy=>.agg (D.bm 2 (stW y)),λy=>CY 0 5 4 { y.v with s:=(yo y).1 },5,6⟩
def C9 (y:Mr) (x:Nat×jb×List a7):Prop:=x.1<=(cz (fp y)).2.rd.length/\C5 x.2.1/\x.2.1.pl.length=y.v.p.ag.length/\x.2.2.length<=x.1/\Ab y.v.p.ag y.r ((cz (fp y)).2.rd.drop x.1) x.2.1 x.2.2=Υ y
def Qr0 (y:T2.Y):dj D:=⟨[],[8,11],[(122,⟨Nat×jb×List a7,[0,1,2,6,22,23],λx=>[(7,.ptr 7 0),(24,Qyy x.1)],[5],λx=>CY 0 9 4 { Mr.v y with s:=x.2.1 }++lsW 7 10 (cz (fp y)).2.w x.2.2,11,C9 y,λx=>(cz (fp y)).2.rd.length-x.1⟩)],[],1,[]⟩
abbrev RA8 (v:db) (p:Prop):Prop:=aa [v.c0] (aa [v.c1] (aa [v.c2] (aa [v.c3] (aa [v.c4] (aa [v.c5] (aa [v.c6] (aa [v.c7] (aa [v.c8] (aa [v.c9] p)))))))))
def T3 (y:Mr):Prop:=let b:=FF.mk y.v y.i false;let q1:=ab (yo y).1.us;let q:=(cz (fp y)).2.rd.length;let F:=!(cz (fp y)).2.w.done;let D:=ab (yo y).1.pl;let G:=ab (cz b).1.us;let E:=ab (cz b).1.pl;let C:=ab (cz b).2.rd;let o:=gt 0 y.v.p.ai y.i.toNat;let A:=λp:Prop=>RAO (cz (fp y)).2.w.done (RA8 (cz (fp y)).2.w p);let e:=λp:Prop=>RAO y.v.L p;let m:=λp:Prop=>RAR y.i y.r (cz b).2.rd C p;let f:=λp:Prop=>RA2 y.v.p (aa [y.v.aq,ab y.v.L] p);Iv (exP b)/\RAO y.i (false=false/\aa [y.v.p.ag] (aa [y.v.p.ai] (aa [y.v.aq,ab y.v.L,ab y.v.s.pl,ab y.v.s.us] (aa [y.v.s.us] (aa [y.v.s.pl] (aa [y.v.L] (Iv True/\aa [E,G] (aa [(cz b).1.us] (aa [(cz b).1.pl] ((∃z:Nat×jb×(List a7),m (0=(z.1:Int)/\(cz b).2.w.done=(cz (fp y)).2.w.done/\(cz b).2.w.c0=(cz (fp y)).2.w.c0/\(cz b).2.w.c1=(cz (fp y)).2.w.c1/\(cz b).2.w.c2=(cz (fp y)).2.w.c2/\(cz b).2.w.c3=(cz (fp y)).2.w.c3/\(cz b).2.w.c4=(cz (fp y)).2.w.c4/\(cz b).2.w.c5=(cz (fp y)).2.w.c5/\(cz b).2.w.c6=(cz (fp y)).2.w.c6/\(cz b).2.w.c7=(cz (fp y)).2.w.c7/\(cz b).2.w.c8=(cz (fp y)).2.w.c8/\(cz b).2.w.c9=(cz (fp y)).2.w.c9/\0=ab z.2.2/\[]=z.2.2/\f (E=ab z.2.1.pl/\ab gI=ab z.2.1.us/\gI=z.2.1.us/\(cz b).1.pl=z.2.1.pl/\e ((Iv (C9 y z))))))/\(∀x:Nat×jb×(List a7),let d:=(x.1:Int);let g:=ab x.2.2;let h:=ab x.2.1.pl;let j:=ab x.2.1.us;let k:=dU x.2.1 o true;let a:=gt (a7.mk 0 0 0 0 0 0 0 0 0 0 0) (cz b).2.rd d.toNat;let l:=ay .i64 a.pc 1;let c:=dU x.2.1 l true;let t:=bn x.2.2 [a7.mk o (-1) (-1) (-1) (-1) (-1) (-1) (-1) (-1) (-1) (-1)];let B:=bh (gt (a8.mk 0 0 0 []) y.v.p.ag a.pc.toNat).bz y.r;let n:=bn x.2.2 [a7.mk l a.c0 a.c1 a.c2 a.c3 a.c4 a.c5 a.c6 a.c7 a.c8 a.c9];let u:Prop:=(f (ab k.pl=D/\ab k.us=q1/\k.us=(yo y).1.us/\k.pl=(yo y).1.pl/\e (True)));(Iv (C9 y x))->aj (aD d C) (aM 0 d=true/\aD d C=true/\aM 0 a.pc=true/\aD a.pc (ab y.v.p.ag)=true/\Iv True/\aa [(gt (a8.mk 0 0 0 []) y.v.p.ag a.pc.toNat).bz] (aa [y.r] (aj B (Iv (θ x.2.1/\x.2.1.us.length<4096)/\aa [l] (Tt 1 (aa [h,j] (aa [x.2.1.us] (aa [x.2.1.pl] (aa [y.v.p.ag] (aa [a.pc] (aa [(gt (a8.mk 0 0 0 []) y.v.p.ag a.pc.toNat).bz] (aa [a.pc] (aj (ga x.2.1 l) (ba (ab n) 88=true/\∃z:Nat×jb×(List a7),m (ay .i64 d 1=(z.1:Int)/\A (ab n=ab z.2.2/\n=z.2.2/\f (ab c.pl=ab z.2.1.pl/\ab c.us=ab z.2.1.us/\c.us=z.2.1.us/\c.pl=z.2.1.pl/\e ((Iv (C9 y z/\(q-z.1)<(q-x.1)))))))) (∃z:Nat×jb×(List a7),m (ay .i64 d 1=(z.1:Int)/\A (g=ab z.2.2/\x.2.2=z.2.2/\f (ab c.pl=ab z.2.1.pl/\ab c.us=ab z.2.1.us/\c.us=z.2.1.us/\c.pl=z.2.1.pl/\e ((Iv (C9 y z/\(q-z.1)<(q-x.1)))))))))))))))))) (aa [y.v.p.ag] (aa [a.pc] (aa [(gt (a8.mk 0 0 0 []) y.v.p.ag a.pc.toNat).bz] (∃z:Nat×jb×(List a7),m (ay .i64 d 1=(z.1:Int)/\A (g=ab z.2.2/\x.2.2=z.2.2/\f (h=ab z.2.1.pl/\j=ab z.2.1.us/\x.2.1.us=z.2.1.us/\x.2.1.pl=z.2.1.pl/\e ((Iv (C9 y z/\(q-z.1)<(q-x.1)))))))))))))) (aj F (aM 0 y.i=true/\aD y.i (ab y.v.p.ai)=true/\Iv (θ x.2.1/\x.2.1.us.length<4096)/\aa [o] (Tt 1 (aa [h,j] (aa [x.2.1.us] (aa [x.2.1.pl] (aa [(cz (fp y)).2.w.done] (aa [y.v.p.ai] (aa [o] (aj (ga x.2.1 o) (aM 0 y.i=true/\aD y.i (ab y.v.p.ai)=true/\Iv True/\ba (ab t) 88=true/\aa [g,g] (aa [y.v.p.ai,y.v.p.ai] (aa [o,o] (aa [(cz (fp y)).2.w.done] (aa [(cz (fp y)).2.w.c0,(cz (fp y)).2.w.c1,(cz (fp y)).2.w.c2,(cz (fp y)).2.w.c3,(cz (fp y)).2.w.c4,(cz (fp y)).2.w.c5,(cz (fp y)).2.w.c6,(cz (fp y)).2.w.c7,(cz (fp y)).2.w.c8,(cz (fp y)).2.w.c9] (t=(yo y).2/\u)))))) (A (x.2.2=(yo y).2/\u))))))))))) (aa [(cz (fp y)).2.w.done,(cz (fp y)).2.w.done] (aa [(cz (fp y)).2.w.c0,(cz (fp y)).2.w.c1,(cz (fp y)).2.w.c2,(cz (fp y)).2.w.c3,(cz (fp y)).2.w.c4,(cz (fp y)).2.w.c5,(cz (fp y)).2.w.c6,(cz (fp y)).2.w.c7,(cz (fp y)).2.w.c8,(cz (fp y)).2.w.c9] (x.2.2=(yo y).2/\f (h=D/\j=q1/\x.2.1.us=(yo y).1.us/\x.2.1.pl=(yo y).1.pl/\e (True)))))))))))))))))
def rdI (n:Nat) (l:List a7):Prop:=∀t∈l,0<=t.pc/\t.pc<n
theorem Jd (ag:List a8) (aq:Int) (N:Nat):∀(n:Nat) (s:jb) (k:rF) (t:a7),s.pl.length=N->C5 s->rdI N k.rd->rdI N (qX ag aq n s k t).2.2.rd
 | 0,s,k,t,_,_,h=>h
 | n+1,s,k,t,e,hs,h=>by
  unfold qX;by_cases f:ga s t.pc=false
  ·grind
  ·rw[Zaa f];have d:ga s t.pc:=by grind
   have c:=wP (k:=k) false true hs d;have hl:(dU s t.pc true).pl.length=N:=(oF true).trans e;have go:∀a,rdI N (qX ag aq n (dU s t.pc true) k a).2.2.rd:=λa=>Jd ag aq N n _ k a hl c.i h
   simp only;split
   ·exact h
   split
   ·split
    ·exact go _
    ·have b:=kj ag aq n (dU s t.pc true) k { t with pc:=(ag.getD t.pc.toNat Κ).x } c.i;exact Jd ag aq N n _ _ _ (b.l.trans hl) b.i (go _)
   split
   ·intro u hu;rcases Zax.1 hu with q | q
    ·exact h u q
    ·grind [oD]
   grind
theorem FH (ag:List a8) (aq:Int) (N:Nat):∀(l:List a7) (s:jb) (k:rF),s.pl.length=N->C5 s->rdI N k.rd->rdI N (tr ag aq l s k).2.rd
 | [],s,k,_,_,h=>h
 | t::l,s,k,hN,hs,h=>by
  have a:=kj ag aq (dA s+1) s k t hs;have b:=Jd ag aq N (dA s+1) s k t hN hs h;rw[tr];split
  ·exact b
  ·exact FH ag aq N l _ _ (a.l.trans hN) a.i b
def Qgz {y:FF} (h:vmP y.v):rdI y.v.p.ag.length (cz y).2.rd:=by
 obtain⟨h1,b,c⟩:=h;have d:y.v.p.ag.length<=1000:=c.1;obtain⟨a,_⟩:=tt (l:=y.v.s.pl) b ω;exact FH _ _ _ _ _ _ h1 a λt ht=>nomatch ht
theorem uA {s:jb} (i:Int) (x:Bool) (hs:C5 s):C5 (dU s i x)/\(dU s i x).pl.length=s.pl.length:=by
 grind [oF,Mo,C6]
theorem uB (ag:List a8) (r:Int):∀(l:List a7) (s:jb) (o:List a7),C5 s->C5 (Ab ag r l s o).1/\(Ab ag r l s o).1.pl.length=s.pl.length/\(Ab ag r l s o).2.length<=o.length+l.length
 | [],s,o,hs=>⟨hs,rfl,Zah _⟩
 | t::l,s,o,hs=>by
  rw[Ab];split
  ·obtain⟨a,a2⟩:=uA (t.pc+1) true hs;obtain⟨b1,b,c⟩:=uB ag r l (dU s (t.pc+1) true) (if ga s (t.pc+1)=true then o++[nxT t] else o) a;grind
  ·obtain⟨b1,b,c⟩:=uB ag r l s o hs;grind
theorem Qr2 (y:Mr) (M:stP y):T3 y:=by
 unfold T3;simp only[bN,bj,aw,bq,a_,dL,Zad,Zan,Zao];obtain⟨C,m⟩:=M;have z:=C;obtain⟨n,a,J,K⟩:=C;replace n:vmP y.v:=n;replace a:0<=y.i:=a;obtain⟨q,e2,O,P⟩:=C7 (y:=fp y) n;have f:=Qgz (y:=fp y) n;have H:y.v.p.ag.length<=1000:=n.2.2.1;replace q:(cz (fp y)).1.pl.length=y.v.p.ag.length:=q;replace f:rdI y.v.p.ag.length (cz (fp y)).2.rd:=f;obtain⟨e,I⟩:=tt (l:=(cz (fp y)).1.pl) e2 ω;have L:(⟨y.v,y.i,false⟩:FF)=fp y:=rfl;simp only[L];have F:y.v.p.ai.getD y.i.toNat 0=stA y:=rfl;simp only[F];refine⟨z,⟨(0,⟨(cz (fp y)).1.pl,gI⟩,[]),?_⟩,λx E=>⟨λk=>?_,λk=>?_⟩⟩
 ·repeat' apply And.intro
  all_goals first | exact trivial | rfl | exact Zaj _ | exact e.1 | exact e.2.1 | exact e.2.2.1 | exact e.2.2.2 | exact q
 ·obtain⟨i,s,o⟩:=x;obtain⟨h1,g,u,w,h⟩:=E;simp only at h1 g u w h k ⊢;have j:i<(cz (fp y)).2.rd.length:=ω;have ht:(cz (fp y)).2.rd.getD i ⟨0,0,0,0,0,0,0,0,0,0,0⟩=(cz (fp y)).2.rd[i]:=by grind
  rw[Zaq j,Ab] at h;have D:=f _ (Zas j);simp only[ht];generalize (cz (fp y)).2.rd[i]=t at*
  have B:ay .i64 t.pc 1=t.pc+1:=bA ω ω;simp only[B];obtain⟨A,hu⟩:=TZ g;obtain⟨N,a2⟩:=uA (t.pc+1) true g;have G:bh (y.v.p.ag.getD t.pc.toNat ⟨0,0,0,[]⟩).bz y.r=Qky y.v.p.ag y.r t:=rfl;simp only[G];refine⟨ω,k,D.1,D.2,λb=>⟨⟨A,ω⟩,λc=>⟨?_,(i+1,dU s (t.pc+1) true,o++[nxT t]),?_⟩,λc=>⟨(i+1,dU s (t.pc+1) true,o),?_⟩⟩,λb=>⟨(i+1,s,o),?_⟩⟩
  ·grind
  ·grind [C9,nxT]
  ·grind [C9]
  ·grind [C9]
 ·obtain⟨i,s,o⟩:=x;obtain⟨h1,g,u,w,h⟩:=E;simp only at h1 g u w h k ⊢;have hi:i=(cz (fp y)).2.rd.length:=ω;rw[hi,ZbH,Ab] at h;obtain⟨A,hu⟩:=TZ g;refine⟨λd=>⟨a,m,⟨A,ω⟩,λc=>⟨a,m,?_,?_⟩,λc=>?_⟩,λd=>?_⟩
  ·grind
  all_goals grind [yo]
def QkB:Ok T2:=okZ [OZ,Th,Tg,IU,OL] f144 Qr0 ⟨Qea,QdS,QdR,Qkj,To⟩ Qr2
def jy (v:iB) (r:Int):Nat->iB
 | 0=>v
 | k+1=>⟨v.p,v.aq,(jy v r k).L.set k (stW ⟨jy v r k,k,r⟩),(yo ⟨jy v r k,k,r⟩).1⟩
structure Zj where
 v:iB
 r:Int
 n:Int
def ϊ (n:Int):Int:=gu (imax n 0) 4
def rnF (y:Zj):iB:={ jy y.v y.r y.v.L.length with aq:=y.v.aq+ϊ y.n }
def rnP (y:Zj):Prop:=enP y.v/\y.v.p.ai.length=y.v.L.length/\0<=y.v.aq/\y.v.aq<=1000000000000
def T4:bp D:=⟨109,Zj,λa s=>match a with
 | [p,r,n]=>aB (IK p s) λv=>aP (cQ r) λ_ r=>aP (cQ n) λ_ n=>.ret ⟨v,r,n⟩
 | _=>.fail,rnP,λy=>[.ptr 0 0,.int .i32 y.r,Qyy y.n],λy=>Fl 0 y.v,λ_=>.tuple [],λy=>CY 0 5 4 (rnF y),5,6⟩
def Qr4 (y:T4.Y):dj D:=⟨[],[],[(10,⟨Nat,[0,1,2,11],λk=>[(12,Qyy k)],[],λk=>CY 0 5 4 (jy (Zj.v y) (Zj.r y) k),6,λk=>k<=List.length (iB.L (Zj.v y)),λk=>List.length (iB.L (Zj.v y)) -k⟩)],[],1,[]⟩
def T5 (y:Zj):Prop:=let g:=ab y.v.L;let q1:=y.v.L.length;let e:=jy y.v y.r q1;(∃z:Nat,let c:=jy y.v y.r z;RAQ y.r y.n g (0=(z:Int)/\y.v.p.ag=c.p.ag/\y.v.p.ai=c.p.ai/\y.v.aq=c.aq/\g=ab c.L/\ab y.v.s.pl=ab c.s.pl/\ab y.v.s.us=ab c.s.us/\y.v.s.us=c.s.us/\y.v.s.pl=c.s.pl/\y.v.L=c.L/\(Iv (z<=q1))))/\(∀x:Nat,let a:=jy y.v y.r x;let f:=ab a.L;let h:=ab a.s.us;let i:=ab a.s.pl;let b:=Mr.mk a (x:Int) y.r;(Iv (x<=q1))->aj (aD (x:Int) g) (Iv (stP b)/\RAP (x:Int) y.r (RA2 a.p (RAR a.aq f i h (RA9 a.s (RAO a.L (aM 0 (x:Int)/\aD (x:Int) f/\aa [f,f] (∃z:Nat,let d:=jy y.v y.r z;aa [y.r,y.n,g] (ay .i64 (x:Int) 1=(z:Int)/\a.p.ag=d.p.ag/\a.p.ai=d.p.ai/\a.aq=d.aq/\f=ab d.L/\ab (yo b).1.pl=ab d.s.pl/\ab (yo b).1.us=ab d.s.us/\(yo b).1.us=d.s.us/\(yo b).1.pl=d.s.pl/\dh a.L (x:Int).toNat (db.mk (cz (fp b)).2.w.done (cz (fp b)).2.w.c0 (cz (fp b)).2.w.c1 (cz (fp b)).2.w.c2 (cz (fp b)).2.w.c3 (cz (fp b)).2.w.c4 (cz (fp b)).2.w.c5 (cz (fp b)).2.w.c6 (cz (fp b)).2.w.c7 (cz (fp b)).2.w.c8 (cz (fp b)).2.w.c9 (yo b).2)=d.L/\(Iv (z<=q1/\(q1-z)<(q1-x))))))))))) (a.p.ag=e.p.ag/\a.p.ai=e.p.ai/\ay .i64 a.aq (gu (imax y.n 0) 4)=(y.v.aq+ϊ y.n)/\f=ab e.L/\i=ab e.s.pl/\h=ab e.s.us/\a.s.us=e.s.us/\a.s.pl=e.s.pl/\a.L=e.L/\True))
theorem QgA {y:Mr} (h:vmP y.v):(yo y).1.pl.length=y.v.p.ag.length/\(∀x∈(yo y).1.pl,(0:Int)<=x)/\(yo y).2.length<=1001:=by
 obtain⟨a,e2,f,g⟩:=C7 (y:=fp y) h;have d:y.v.p.ag.length<=1000:=h.2.2.1;replace a:(cz (fp y)).1.pl.length=y.v.p.ag.length:=a;obtain⟨b,e⟩:=tt (l:=(cz (fp y)).1.pl) e2 ω;obtain⟨g1,g2,g3⟩:=uB y.v.p.ag y.r (cz (fp y)).2.rd ⟨(cz (fp y)).1.pl,gI⟩ [] b;replace g2:(Υ y).1.pl.length=y.v.p.ag.length:=Eq.trans g2 a;replace g1:C5 (Υ y).1:=g1;replace g3:(Υ y).2.length<=0+(cz (fp y)).2.rd.length:=g3;obtain⟨c,a2⟩:=uA (stA y) true g1;unfold yo;split
 ·exact⟨g2,g1.2.1,ω⟩
 ·refine⟨a2.trans g2,c.2.1,?_⟩;grind
theorem qY {v:iB} (r:Int) (h:enP v):∀k,enP (jy v r k)/\(jy v r k).p=v.p/\(jy v r k).aq=v.aq/\(jy v r k).L.length=v.L.length
 | 0=>⟨h,rfl,rfl,rfl⟩
 | k+1=>by
  obtain⟨⟨i1,i2,i3⟩,a,b,c⟩:=qY r h k;have e:=QgA (y:=⟨jy v r k,k,r⟩) i1;have hl:((jy v r k).L.set k (stW ⟨jy v r k,k,r⟩)).length=v.L.length:=by grind
  refine⟨⟨⟨e.1.trans (by grind [jy]),e.2.1,h.1.2.2⟩,by show(List.set _ _ _).length<=1000;rw[hl];exact h.2.1,λl hl=>?_⟩,rfl,rfl,hl⟩;rcases Zb1 hl with q | q
  ·grind
  ·rw[q];have:=e.2.2;show(yo ⟨jy v r k,k,r⟩).2.length<=1000000
   omega
theorem Qr6 (y:Zj) (i:rnP y):T5 y:=by
 unfold T5;simp only[bN,bj,aw,dh,Zad];obtain⟨c,hs,g,h⟩:=i;have hl:y.v.L.length<=1000:=c.2.1;refine⟨⟨0,rfl,rfl,rfl,rfl,rfl,rfl,rfl,rfl,rfl,rfl,Zaj _⟩,λx l=>⟨λk=>?_,λk=>?_⟩⟩
 ·obtain⟨⟨i1,i2,i3⟩,d,j,m⟩:=qY y.r c x;have e:x<(jy y.v y.r x).L.length:=ω;have b:(D4 (fp ⟨jy y.v y.r x,x,y.r⟩)).aU.length<=1000000:=by
   show((jy y.v y.r x).L.getD (x:Int).toNat Mq).aU.length<=1000000
   grind
  have a:stP ⟨jy y.v y.r x,x,y.r⟩:=⟨⟨i1,by show(0:Int)<=(x:Int);omega,by show(x:Int)<((jy y.v y.r x).L.length:Int);omega,b⟩,by grind⟩;have f:(jy y.v y.r (x+1)).L.length=(jy y.v y.r x).L.length:=by grind [qY]
  refine⟨a,ω,ω,x+1,bA ω ω,?_⟩;have hz:x+1<=y.v.L.length/\y.v.L.length-(x+1)<y.v.L.length-x:=⟨ω,ω⟩
  repeat' first | exact hz | apply And.intro
  all_goals first | rfl | exact ZaR iY.ag d | exact ZaR iY.ai d | exact j | (rw[f]) | skip
 ·grind [qY,ϊ,gu,imax]
def QkD:Ok T4:=okZ [T2] f109 Qr4 QkB Qr6
def zN (l:List db):Prop:=l.length<=1000/\∀x∈l,x.aU.length<=1000000
def lsO (n:Nat) (l:List db):Nat×AO D.E:=(n,.arr 2 l 113 false)
def T6 (y:iB):iB:=⟨y.p,0,jH,⟨rE y.p.ag.length,gI⟩⟩
def ό:bp D:=⟨114,iB,ON,λy=>y.p.ag.length<=4096/\y.p.ai.length<=1000,λ_=>[.ptr 0 0],Fl 0,λ_=>.ptr 5 0,λy=>Fl 0 y++CY 5 8 10 (OO (T6 y) y.p.ai.length),5,11⟩
def O0:bp D:=⟨85,List db,λa s=>match a with
 | [l]=>aB (aW D s 2 l) λl=>.ret (l:List db)
 | _=>.fail,zN,λy=>[.own 0 12 (ab y)],λy=>[lsO 0 y],λy=>.own 1 12 (ab y),λy=>[lsO 0 y,lsO 1 y],1,2⟩
def Qr8 (y:O0.Y):dj D:=⟨[],[6],[(58,⟨Nat,[6,7],λk=>[(3,.own 1 12 (ab (List.take k (y:List db)))),(8,Qyy k)],[0],λk=>[lsO 1 (List.take k (y:List db))],2,λk=>k<=List.length (y:List db),λk=>List.length (y:List db) -k⟩)],[],1,[]⟩
def ύ:bp D:=⟨111,iB,ON,λy=>y.p.ag.length<=4096/\zN y.L,λ_=>[.ptr 0 0],Fl 0,λ_=>.ptr 5 0,λy=>Fl 0 y++CY 5 8 10 { T6 y with aq:=y.aq,L:=y.L },5,11⟩
abbrev RAB (v:iB) (p:Prop):Prop:=aa [v.aq] (aa [ab v.L] (aa [ab v.s.pl] (aa [ab v.s.us] p)))
def Qec (y:iB):Prop:=let a:=y.p.ai.length;let q1:=rE (y.p.ag.length:Int);let b:=ab (jH++List.map fL (List.take a y.p.ai));Iv (y.p.ag.length<=4096)/\RA2 y.p (RAB y (RA9 y.s (RAO y.L (Iv ((a+jH.length)<=1000000)/\aa [y.p.ag] (aa [y.p.ai] (aa ([0,ab jH,ab q1,ab gI]:List Int) (aa [gI] (aa [q1] (aa [jH] (aa [y.p.ag] (aa [y.p.ai] (aa ([0,b,ab q1,ab gI]:List Int) (aa [gI] (aa [q1] (aa [jH++List.map fL (List.take a y.p.ai)] (aa [y.p.ag] (aa [y.p.ai] (aa [y.aq,ab y.L,ab y.s.pl,ab y.s.us] (aa [y.s.pl] (aa [y.s.us] (aa [y.L] (True))))))))))))))))))))))
def T7 (y:List db):Prop:=(∃z:Nat,aa [ab y,ab y] (0=ab (List.take z y)/\0=(z:Int)/\[]=List.take z y/\aa [y] ((Iv (z<=y.length)))))/\(∀x:Nat,let a:=y.length;let q1:=List.take x y;let c:=aD (x:Int) (ab y);let b:=gt (db.mk false 0 0 0 0 0 0 0 0 0 0 []) y (x:Int).toNat;let d:=ab (bn q1 [b]);(Iv (x<=a))->aj c (aM 0 (x:Int)/\c/\ba (ab b.aU) 88/\ba d 112/\∃z:Nat,aa [ab y,ab y] (d=ab (List.take z y)/\ay .i64 (x:Int) 1=(z:Int)/\bn q1 [b]=List.take z y/\aa [y] ((Iv (z<=a/\(a-z)<(a-x)))))) (ab q1=ab y/\q1=y/\RAO y (True)))
def Qed (y:iB):Prop:=let a:=rE (y.p.ag.length:Int);Iv (y.p.ag.length<=4096)/\RA2 y.p (RAB y (RA9 y.s (RAO y.L (Iv (zN y.L)/\aa [ab y.L] (aa [y.L] (aa [y.aq,y.aq,ab y.L] (aa [y.p.ag] (aa [y.p.ai] (aa [y.aq,ab y.L,ab a,ab gI] (aa [gI] (aa [a] (aa [y.L] (aa [y.p.ag] (aa [y.p.ai] (aa [y.aq,ab y.L,ab y.s.pl,ab y.s.us] (aa [y.s.pl] (aa [y.s.us] (aa [y.L] (True)))))))))))))))))))
def QkE:Ok ό:=okZ (V:=Qec) [Tn,OP] f114 (λ_=>dk ()) ⟨QdX,QdY⟩ λy a=>by
 unfold Qec;simp only[bj,aw];obtain⟨h1,b⟩:y.p.ag.length<=4096/\y.p.ai.length<=1000:=a;exact⟨h1,by show y.p.ai.length+0<=1000000;omega⟩
theorem Qsb (y:List db) (a:zN y):T7 y:=by
 unfold T7;simp only[bN,bj,aw,bq,a_,dL,Zad];obtain⟨h1,b⟩:=a;refine⟨⟨0,rfl,rfl,rfl,Zaj _⟩,λx c=>⟨λk=>?_,λk=>?_⟩⟩
 ·grind [List.take_append_getElem]
 ·grind
def Qee:Ok O0:=okZ [] f85 Qr8 trivial Qsb
def QkF:Ok ύ:=okZ (V:=Qed) [Tn,O0] f111 (λ_=>dk ()) ⟨QdX,Qee⟩ λy a=>by
 unfold Qed;simp only[bj,aw];exact a
structure jz where
 a:Int
 b:Int
 c:Int
 d:Int
 n:Int
def HB (y:jz):List (Nat×AO D.E):=[(0,.cells [.int .u8 y.a,.int .u8 y.b,.int .u8 y.c,.int .u8 y.d,.int .i64 y.n] 194 false)]
def O3 (v:AV D.E) (s:St D.E):C jz:=match v with
 | .ptr b _=>aB (dg (s.h.get b)) λo=>match o with
  | .cells cs _ _=>match cs with
   | [a,b,c,d,n]=>aP (cQ a) λ_ a=>aP (cQ b) λ_ b=>aP (cQ c) λ_ c=>aP (cQ d) λ_ d=>aP (cQ n) λ_ n=>.ret ⟨a,b,c,d,n⟩
   | _=>.fail
  | _=>.fail
 | _=>.fail
def di (y:jz):By:=[b8 y.a,b8 y.b,b8 y.c,b8 y.d].take y.n.toNat
def D5 (k:Nat):List Gt:=List.replicate k (65533,1)
def HC:jz:=⟨0,0,0,0,0⟩
def unC:bp D:=⟨73,Unit,λ_ _=>.ret (),λ_=>True,λ_=>[],λ_=>[],λ_=>.ptr 0 0,λ_=>HB HC,0,1⟩
def uC (y:jz):Prop:=0<=y.n/\y.n<=4
def uhC:bp D:=⟨80,jz,λa s=>match a with
 | [p]=>O3 p s
 | _=>.fail,uC,λ_=>[.ptr 0 0],HB,λy=>.list 0 (di y),HB,1,1⟩
def ueC:bp D:=⟨112,jz,λa s=>match a with
 | [p]=>O3 p s
 | _=>.fail,uC,λ_=>[.ptr 0 0],HB,λy=>.list 13 (D5 y.n.toNat),λy=>HB { y with n:=0 },1,1⟩
def ueO (y:ueC.Y):dj D:=⟨[],[],[(28,⟨Nat,[0],λk=>[(3,.grow 13 (D5 k) 1)],[],λk=>HB { y with n:=y.n-k }++[(1,.tok 13 135)],2,λk=>k<=y.n.toNat,λk=>y.n.toNat-k⟩)],[],1,[]⟩
def df (l:By) (i:Nat):Int:=if i<l.length then((l.getD i 0).toNat:Int) else 0
def uoF (l:By):jz:=⟨df l 0,df l 1,df l 2,df l 3,if l.length<=4 then l.length else 4⟩
def uoC:bp D:=⟨46,By,λa s=>Tf a s,λy=>y=[]\/gy y,λy=>[.list 0 y],λ_=>[],λ_=>.tuple [.ptr 0 0,Qyy 0],λy=>HB (uoF y),0,1⟩
def l_ (y:jz) (i:Nat):Int:=if i=0 then y.a else if i=1 then y.b else if i=2 then y.c else y.d
def D6 (y:jz) (k:Nat):jz:=⟨if 0+k<y.n.toNat then l_ y (0+k) else y.a,if 1+k<y.n.toNat then l_ y (1+k) else y.b,if 2+k<y.n.toNat then l_ y (2+k) else y.c,if 3+k<y.n.toNat then l_ y (3+k) else y.d,y.n-k⟩
def udC:bp D:=⟨110,jz×Int,λa s=>match a with
 | [p,k]=>aB (O3 p s) λy=>aP (cQ k) λ_ k=>.ret (y,k)
 | _=>.fail,λy=>uC y.1/\1<=y.2/\y.2<=y.1.n,λy=>[.ptr 0 0,Qyy y.2],λy=>HB y.1,λ_=>.tuple [],λy=>HB (D6 y.1 y.2.toNat),1,1⟩
def QkJ (y:Unit):Prop:=aa ([0,0,0,0,0]:List Int) (True)
def QkK (y:jz):Prop:=let f:=([b8 y.a]:List UInt8);let q1:=([b8 y.a,b8 y.b]:List UInt8);let g:=([b8 y.a,b8 y.b,b8 y.c]:List UInt8);let h:=([b8 y.a,b8 y.b,b8 y.c,b8 y.d]:List UInt8);let e:=λp:Prop=>RAR y.a y.b y.c y.d p;aj (aE y.n 4) (ba (ab h) 1/\h=di y/\e (4=y.n/\True)) (aj (aE y.n 3) (ba (ab g) 1/\g=di y/\e (3=y.n/\True)) (aj (aE y.n 2) (ba (ab q1) 1/\q1=di y/\e (2=y.n/\True)) (aj (aE y.n 1) (ba (ab f) 1/\f=di y/\e (1=y.n/\True)) (aE y.n 0/\Tt 1 ([]=di y/\e (0=y.n/\True))))))
def QkL (y:jz):Prop:=let e:=y.n.toNat;let f:=λp:Prop=>RAR y.a y.b y.c y.d p;(∃z:Nat,[]=D5 z/\f (y.n=(y.n-(z:Int))/\(Iv (z<=e))))/\(∀x:Nat,let h:=aD 0 (y.n-(x:Int));let g:=bn (D5 x) [(65533,1)];(Iv (x<=e))->aj h (ba (ab g) 16/\∃z:Nat,g=D5 z/\f (dE .i64 (y.n-(x:Int)) 1=(y.n-(z:Int))/\(Iv (z<=e/\(e-z)<(e-x))))) (D5 x=D5 e/\f ((y.n-(x:Int))=0/\True)))
def QgE (y:List UInt8):Prop:=let a:Prop:=(Iv True/\RAG (cL (aD 0 (fo y)) (sat y 0) 0=df y 0/\cL (aD 1 (fo y)) (sat y 1) 0=df y 1/\cL (aD 2 (fo y)) (sat y 2) 0=df y 2/\cL (aD 3 (fo y)) (sat y 3) 0=df y 3/\gu 4 (fo y)=ite (y.length<=4) (y.length:Int) 4/\True));Iv True/\RAO y (aj (!(gy y)) (aj (aD 0 (ab y)) (False) (a)) (a))
def QkM (y:jz×Int):Prop:=let e:=y.2.toNat;let q1:=y.1.n.toNat;let h:=ite ((2+e)<q1) (l_ y.1 (2+e)) y.1.c;let f:=ite ((0+e)<q1) (l_ y.1 (0+e)) y.1.a;let g:=ite ((1+e)<q1) (l_ y.1 (1+e)) y.1.b;let l:Prop:=(y.1.d=ite ((3+e)<q1) (l_ y.1 (3+e)) y.1.d/\3=(y.1.n-(e:Int))/\True);let k:Prop:=(y.1.c=h/\y.1.d=ite ((3+e)<q1) (l_ y.1 (3+e)) y.1.d/\2=(y.1.n-(e:Int))/\True);let j:Prop:=(y.1.b=g/\y.1.c=h/\y.1.d=ite ((3+e)<q1) (l_ y.1 (3+e)) y.1.d/\1=(y.1.n-(e:Int))/\True);let i:Prop:=(y.1.a=f/\y.1.b=g/\y.1.c=h/\y.1.d=ite ((3+e)<q1) (l_ y.1 (3+e)) y.1.d/\0=(y.1.n-(e:Int))/\True);aj (aE y.1.n 4) (aj (aE y.2 4) (i) (aj (aE y.2 3) (y.1.d=f/\j) (aj (aE y.2 2) (y.1.c=f/\y.1.d=g/\k) (aj (aE y.2 1) (y.1.b=f/\y.1.c=g/\y.1.d=h/\l) (aE y.2 0/\y.1.a=f/\y.1.b=g/\y.1.c=h/\y.1.d=ite ((3+e)<q1) (l_ y.1 (3+e)) y.1.d/\4=(y.1.n-(e:Int))/\True))))) (aj (aE y.1.n 3) (aj (aE y.2 4) (False) (aj (aE y.2 3) (i) (aj (aE y.2 2) (y.1.c=f/\j) (aj (aE y.2 1) (y.1.b=f/\y.1.c=g/\k) (aE y.2 0/\y.1.a=f/\y.1.b=g/\y.1.c=h/\l))))) (aj (aE y.1.n 2) (aj (aE y.2 4) (False) (aj (aE y.2 3) (False) (aj (aE y.2 2) (i) (aj (aE y.2 1) (y.1.b=f/\j) (aE y.2 0/\y.1.a=f/\y.1.b=g/\k))))) (aj (aE y.1.n 1) (aj (aE y.2 4) (False) (aj (aE y.2 3) (False) (aj (aE y.2 2) (False) (aj (aE y.2 1) (i) (aE y.2 0/\y.1.a=f/\j))))) (aE y.1.n 0/\aj (aE y.2 4) (False) (aj (aE y.2 3) (False) (aj (aE y.2 2) (False) (aj (aE y.2 1) (False) (aE y.2 0/\i))))))))
theorem QgH:Ok unC:=okZ (V:=QkJ) [] f73 (λ_=>dk ()) trivial λy a=>by
 grind [QkJ]
theorem QkN:Ok uhC:=okZ (V:=QkK) [] f80 (λ_=>⟨[(1,.rR 0 4 4)],[],[],[],1,[]⟩) trivial λy a=>by
 unfold QkK;simp only[bj,ib,iA,aw,bq];obtain⟨h1,b⟩:0<=y.n/\y.n<=4:=a;unfold di;refine⟨λk=>⟨by grind,by simp_all,k.symm⟩,λ_=>⟨λk=>⟨by grind,by simp_all,k.symm⟩,λ_=>⟨λk=>⟨by grind,by simp_all,k.symm⟩,λ_=>⟨λk=>⟨by grind,by simp_all,k.symm⟩,λ_=>?_⟩⟩⟩⟩;have k:y.n=0:=ω;simp_all
def T8 (k:Nat):D5 k++[(65533,1)]=D5 (k+1):=(List.replicate_succ' ..).symm
theorem Qsc:Ok ueC:=okZ (V:=QkL) [] f112 ueO trivial λy a=>by
 unfold QkL;simp only[bN,bj,aw,bq,a_];obtain⟨h1,b⟩:0<=y.n/\y.n<=4:=a;refine⟨⟨0,rfl,ω,Zaj _⟩,λx c=>⟨λk=>⟨?_,x+1,T8 x,?_,ω,ω⟩,λk=>?_⟩⟩
 ·grind [D5]
 ·grind
 ·grind
theorem ϑ (y:By) (i:Nat):cL (aD i (fo y)) (sat y i) 0=df y i:=by
 grind [cL,df,sat]
theorem uoH (y:By) (a:y=[]\/gy y):QgE y:=by
 unfold QgE;simp only[bN,bj,aw,Zan,Zao];grind [gu,ϑ]
def QgI:Ok uoC:=okZ [r_,unC] f46 (λ_=>dk ()) ⟨C0,QgH⟩ uoH
def Qsd:Ok udC:=okZ (V:=QkM) [] f110 (λ_=>⟨[(0,.rR 0 4 4),(0,.ZC 1 4)],[],[],[],1,[]⟩) trivial λy i=>by
 unfold QkM;simp only[bj,ib,iA];obtain⟨⟨h1,e⟩,f,g⟩:(0<=y.1.n/\y.1.n<=4)/\1<=y.2/\y.2<=y.1.n:=i;obtain⟨⟨a,b,c,d,n⟩,k⟩:=y;simp only at h1 e f g ⊢;have h:n=1\/n=2\/n=3\/n=4:=ω;have hk:k=1\/k=2\/k=3\/k=4:=ω;rcases h with rfl | rfl | rfl | rfl<;>rcases hk with rfl | rfl | rfl | rfl<;>first | omega | simp[l_]
end
end sx
namespace sx
open Go Go.RowKit
variable {M:Pm D} {H:Hp D} {w w':World}
variable {a:AV D.E} {g:Nat} {A:Array Value} {l:List (AV D.E)}
def jS (a:eP M H w) (h:Below w.heap.size w w') (lo:Nat):dq H M w H M w' lo lo:=.world a h.size (λc b=>h.block c b) h.os h.tape h.output lo
theorem yp (h:LR M [a] A.toList):∃v,A=#[v]/\VR M a v:=by
 obtain⟨l⟩:=A;obtain⟨v,r,e,h1,b⟩:=h.bJ;have:=b.mj;grind
theorem FI {b:AV D.E} (h:LR M [a,b] A.toList):∃v u,A=#[v,u]/\VR M a v/\VR M b u:=by
 obtain⟨l⟩:=A;obtain⟨v,r,e,h1,c⟩:=h.bJ;obtain⟨u,g,e2,f,d⟩:=c.bJ;have:=d.mj;grind
theorem ϒ (r:eP M H w) (n:Below w.heap.size w w') {o c:Nat} {xs:List (D.E c)} (B:w.heap.size<=g)
  (s:∀i v,(aX c xs)[i]?=some v->∃m,w'.cell? ⟨g,o+i,none⟩=some m/\VR M v m) (lo:Nat):dq H M w H ⟨M.pl,dC M.sg g o (aX c xs)⟩ w' lo lo:=by
 have k:=dq.world r n.size (λc s=>n.block c s) n.os n.tape n.output lo;have hle:sx.Le M ⟨M.pl,dC M.sg g o (aX c xs)⟩:=⟨λ_ _ h=>h,lu λq _ _=>by
  cases hs:M.sg g q with
  | none=>rfl
  | some v=>have:=r.slt hs;omega⟩
 have u:∀b f a,H b=some f->M.pl b=some a->a.real->a.cg≠g:=λb f a h d l=>by
  obtain⟨m2,h1,x⟩:=r.obj b f h;rw[d] at h1;cases h1;have:=x.lt l;omega
 refine⟨⟨λb f h=>let ⟨a,d,z⟩:=k.gv.obj b f h;⟨a,d,z.mono hle λ_=>rfl⟩,k.gv.inj,λb q v h=>?_,λb f a h hw d l j y=>?_,λb c xs e a h d l=>(k.gv.LL b c xs e a h d l).mono hle.2,k.gv.mZ⟩,
  λ_ _=>rfl,hle.2,λb q h=>?_,k.size,k.aS,k.born,k.Oc,k.os,k.tape,k.output,k.le⟩
 ·replace h:dC M.sg g o (aX c xs) b q=some v:=h;unfold dC at h;split at h
  ·rename_i t
   obtain⟨rfl,h1,x⟩:=t;obtain⟨m,p,e2⟩:=s _ v h;rw[show o+(q-o)=q by omega] at p;exact⟨(eA iX (ZaJ h)).2,m,p,e2.mono hle⟩
  ·obtain⟨A,m,p,e2⟩:=k.gv.ia b q v h;exact⟨A,m,p,e2.mono hle⟩
 ·show dC M.sg g o (aX c xs) a.cg j=none
  unfold dC;rw[Zaa λq=>u b f a h d l q.1];exact k.gv.sep b f a h hw d l j y
 ·grind [nm]
theorem Ms {α:Type} {c:Nat} {f:D.E c->α} {bm:α->List Value}:∀{xs:List (D.E c)},(∀x∈xs,LR M (D.bm c x) (bm (f x)))->LR M (aX c xs) ((xs.map f).flatMap bm)
 | [],_=>.nil
 | x::xs,h=>(h x (by simp)).app (Ms (xs:=xs) λy a=>h y (by grind))
def LR.cell {v:List Value} (h:LR M l v) (e:l[g]?=some a):∃b,v[g]?=some b/\VR M a b:=h.get e
def gb {M:Pm D} {k:IntKind} {n:Int} {v:Value} (h:VR M (.int k n) v):v=.int k n:=by cases h;rfl
theorem qb (f:eP M H w) {b:Nat} {cs:List (AV D.E)} {e:TypeId} {ro:Bool} (g:H b=some (.cells cs e ro)) {c:MI} (j:M.pl b=some c):
  c.real/\c.sh=0/\c.rS=cs.length/\∃C a,w.heap[c.cg]?=some (.cells C e a)/\LR M cs C.toList/\(ro=false->a.1=a.2\/cs.length<=a.1/\c.jM=1):=by
 obtain⟨l,d,⟨k,hs,ht⟩,C,a,h1,n,o,p,q⟩:=f.obj b _ g;rw[j] at d;cases d;refine⟨k,hs,ht,C,a,h1,⟨(by grind),λi v r m e2=>?_⟩,λh=>by grind⟩;grind
end sx
set_option maxRecDepth 100000
set_option maxHeartbeats 4000000
namespace sx
noncomputable section
open Go Go.RowKit cls syn
def sJ (n:Nat) (y:jz):By:=[b8 y.a,b8 y.b,b8 y.c,b8 y.d].take n
def T9 (n:Nat):bp D:=⟨86,jz,λa s=>match a with
 | [p]=>match p with
  | .sub b _ m=>bE (Nat.beq m n) (O3 (.ptr b 0) s) .fail
  | _=>.fail
 | _=>.fail,λ_=>True,λ_=>[.sub 0 0 n],HB,λy=>.tuple [.int .i32 (bK (sJ n y)).1,Qyy (bK (sJ n y)).2,.bool (gy (sJ n y))],HB,1,1⟩
def Bo (y:jz) (c:Int):jz:=⟨if y.n=0 then c else y.a,if y.n=1 then c else y.b,if y.n=2 then c else y.c,if y.n=3 then c else y.d,y.n+1⟩
def kN (y:jz):Gt:=if (bK (di y)).2=0 then(65533,1) else bK (di y)
def oG:Nat->jz->List Gt->jz×List Gt
 | 0,y,l=>(y,l)
 | k+1,y,l=>if 0<y.n/\gy (di y)=false then oG k (D6 y (kN y).2.toNat) (l++[kN y]) else(y,l)
def t_ (y:jz) (c:Int):jz×List Gt:=oG 4 (Bo y c) []
def T_:bp D:=⟨75,jz×Int,λa s=>match a with
 | [p,c]=>aB (O3 p s) λy=>aP (cQ c) λ_ c=>.ret (y,c)
 | _=>.fail,λy=>0<=y.1.n/\y.1.n<=3,λy=>[.ptr 0 0,.int .u8 y.2],λy=>HB y.1,λy=>.list 13 (t_ y.1 y.2).2,λy=>HB (t_ y.1 y.2).1,1,1⟩
def rG (y:jz×Int) (x:jz×List Gt):Prop:=0<=x.1.n/\x.1.n<=4/\x.2.length+x.1.n.toNat<=4/\oG x.1.n.toNat x.1 x.2=t_ y.1 y.2
def Qse (y:T_.Y):dj D:=⟨[(1,.rR 0 4 3),(5,.rR 0 4 4)],[],[(124,⟨jz×List Gt,[0],λx=>[(5,.grow 13 x.2 1)],[],λx=>HB x.1++[(1,.tok 13 135)],2,rG y,λx=>x.1.n.toNat⟩)],[(3,⟨Unit,[0],λ_=>[],[],λ_=>HB { Bo y.1 y.2 with n:=y.1.n },1,λ_=>True,λ_=>0⟩)],1,[]⟩
def Ua (y:jz×Int):Prop:=let e:=(t_ y.1 y.2).1;let q1:=(t_ y.1 y.2).2;let u:=ite (y.1.n=2) y.2 y.1.c;let B:=ite (y.1.n=0) y.2 y.1.a;let C:=ite (y.1.n=1) y.2 y.1.b;let D:=ite (y.1.n=3) y.2 y.1.d;(aj (aE y.1.n 3) (∃z:Unit,y.1.a=B/\y.1.b=C/\y.1.c=u/\y.2=D/\3=y.1.n/\(Iv True)) (aj (aE y.1.n 2) (∃z:Unit,y.1.a=B/\y.1.b=C/\y.2=u/\y.1.d=D/\2=y.1.n/\(Iv True)) (aj (aE y.1.n 1) (∃z:Unit,y.1.a=B/\y.2=C/\y.1.c=u/\y.1.d=D/\1=y.1.n/\(Iv True)) (aE y.1.n 0/\∃z:Unit,y.2=B/\y.1.b=C/\y.1.c=u/\y.1.d=D/\0=y.1.n/\(Iv True)))))/\(∀x:Unit,(Iv True)->(∃z:jz×(List (Int×Int)),[]=z.2/\B=z.1.a/\C=z.1.b/\u=z.1.c/\D=z.1.d/\ay .i64 y.1.n 1=z.1.n/\(Iv (rG y z)))/\(∀x1:jz×(List (Int×Int)),let p:=jz.mk x1.1.a x1.1.b x1.1.c x1.1.d 2;let q:=jz.mk x1.1.a x1.1.b x1.1.c x1.1.d 1;let r:=jz.mk x1.1.a x1.1.b x1.1.c x1.1.d 3;let s:=jz.mk x1.1.a x1.1.b x1.1.c x1.1.d 4;let j:=bn x1.2 [(65533,1)];let k:=bK (sJ 2 p);let l:=bK (sJ 3 r);let m:=bK (sJ 4 s);let o:=bK (sJ 1 q);let f:=o.2.toNat;let g:=m.2.toNat;let h:=l.2.toNat;let i:=k.2.toNat;let t:=bn x1.2 [(l.1,l.2)];let v:=bn x1.2 [(k.1,k.2)];let w:=bn x1.2 [(m.1,m.2)];let A:=bn x1.2 [(o.1,o.2)];(Iv (rG y x1))->aj (aD 0 x1.1.n) (aj (aE x1.1.n 4) (Iv True/\aa ([x1.1.a,x1.1.b,x1.1.c,x1.1.d,4]:List Int) (aj (gy (sJ 4 s)) (x1.2=q1/\x1.1.a=e.a/\x1.1.b=e.b/\x1.1.c=e.c/\x1.1.d=e.d/\4=e.n/\True) (aj (aE m.2 0) (ba (ab j) 16/\Iv (uC s/\(1:Int)<=(1:Int)/\(1:Int)<=(4:Int))/\aa ([1,x1.1.a,x1.1.b,x1.1.c,x1.1.d,4]:List Int) (∃z:jz×(List (Int×Int)),j=z.2/\ite (1<Int.toNat 4) (l_ s 1) x1.1.a=z.1.a/\ite (2<Int.toNat 4) (l_ s 2) x1.1.b=z.1.b/\ite (3<Int.toNat 4) (l_ s 3) x1.1.c=z.1.c/\ite (4<Int.toNat 4) (l_ s 4) x1.1.d=z.1.d/\(4-((Int.toNat 1:Nat):Int))=z.1.n/\(Iv (rG y z/\z.1.n.toNat<x1.1.n.toNat)))) (ba (ab w) 16/\Iv (uC s/\1<=m.2/\m.2<=4)/\aa ([m.2,x1.1.a,x1.1.b,x1.1.c,x1.1.d,4]:List Int) (∃z:jz×(List (Int×Int)),w=z.2/\ite ((0+g)<Int.toNat 4) (l_ s (0+g)) x1.1.a=z.1.a/\ite ((1+g)<Int.toNat 4) (l_ s (1+g)) x1.1.b=z.1.b/\ite ((2+g)<Int.toNat 4) (l_ s (2+g)) x1.1.c=z.1.c/\ite ((3+g)<Int.toNat 4) (l_ s (3+g)) x1.1.d=z.1.d/\(4-(g:Int))=z.1.n/\(Iv (rG y z/\z.1.n.toNat<x1.1.n.toNat))))))) (aj (aE x1.1.n 3) (Iv True/\aa ([x1.1.a,x1.1.b,x1.1.c,x1.1.d,3]:List Int) (aj (gy (sJ 3 r)) (x1.2=q1/\x1.1.a=e.a/\x1.1.b=e.b/\x1.1.c=e.c/\x1.1.d=e.d/\3=e.n/\True) (aj (aE l.2 0) (ba (ab j) 16/\Iv (uC r/\(1:Int)<=(1:Int)/\(1:Int)<=(3:Int))/\aa ([1,x1.1.a,x1.1.b,x1.1.c,x1.1.d,3]:List Int) (∃z:jz×(List (Int×Int)),j=z.2/\ite (1<Int.toNat 3) (l_ r 1) x1.1.a=z.1.a/\ite (2<Int.toNat 3) (l_ r 2) x1.1.b=z.1.b/\ite (3<Int.toNat 3) (l_ r 3) x1.1.c=z.1.c/\ite (4<Int.toNat 3) (l_ r 4) x1.1.d=z.1.d/\(3-((Int.toNat 1:Nat):Int))=z.1.n/\(Iv (rG y z/\z.1.n.toNat<x1.1.n.toNat)))) (ba (ab t) 16/\Iv (uC r/\1<=l.2/\l.2<=3)/\aa ([l.2,x1.1.a,x1.1.b,x1.1.c,x1.1.d,3]:List Int) (∃z:jz×(List (Int×Int)),t=z.2/\ite ((0+h)<Int.toNat 3) (l_ r (0+h)) x1.1.a=z.1.a/\ite ((1+h)<Int.toNat 3) (l_ r (1+h)) x1.1.b=z.1.b/\ite ((2+h)<Int.toNat 3) (l_ r (2+h)) x1.1.c=z.1.c/\ite ((3+h)<Int.toNat 3) (l_ r (3+h)) x1.1.d=z.1.d/\(3-(h:Int))=z.1.n/\(Iv (rG y z/\z.1.n.toNat<x1.1.n.toNat))))))) (aj (aE x1.1.n 2) (Iv True/\aa ([x1.1.a,x1.1.b,x1.1.c,x1.1.d,2]:List Int) (aj (gy (sJ 2 p)) (x1.2=q1/\x1.1.a=e.a/\x1.1.b=e.b/\x1.1.c=e.c/\x1.1.d=e.d/\2=e.n/\True) (aj (aE k.2 0) (ba (ab j) 16/\Iv (uC p/\(1:Int)<=(1:Int)/\(1:Int)<=(2:Int))/\aa ([1,x1.1.a,x1.1.b,x1.1.c,x1.1.d,2]:List Int) (∃z:jz×(List (Int×Int)),j=z.2/\ite (1<Int.toNat 2) (l_ p 1) x1.1.a=z.1.a/\ite (2<Int.toNat 2) (l_ p 2) x1.1.b=z.1.b/\ite (3<Int.toNat 2) (l_ p 3) x1.1.c=z.1.c/\ite (4<Int.toNat 2) (l_ p 4) x1.1.d=z.1.d/\(2-((Int.toNat 1:Nat):Int))=z.1.n/\(Iv (rG y z/\z.1.n.toNat<x1.1.n.toNat)))) (ba (ab v) 16/\Iv (uC p/\1<=k.2/\k.2<=2)/\aa ([k.2,x1.1.a,x1.1.b,x1.1.c,x1.1.d,2]:List Int) (∃z:jz×(List (Int×Int)),v=z.2/\ite ((0+i)<Int.toNat 2) (l_ p (0+i)) x1.1.a=z.1.a/\ite ((1+i)<Int.toNat 2) (l_ p (1+i)) x1.1.b=z.1.b/\ite ((2+i)<Int.toNat 2) (l_ p (2+i)) x1.1.c=z.1.c/\ite ((3+i)<Int.toNat 2) (l_ p (3+i)) x1.1.d=z.1.d/\(2-(i:Int))=z.1.n/\(Iv (rG y z/\z.1.n.toNat<x1.1.n.toNat))))))) (aj (aE x1.1.n 1) (Iv True/\aa ([x1.1.a,x1.1.b,x1.1.c,x1.1.d,1]:List Int) (aj (gy (sJ 1 q)) (x1.2=q1/\x1.1.a=e.a/\x1.1.b=e.b/\x1.1.c=e.c/\x1.1.d=e.d/\1=e.n/\True) (aj (aE o.2 0) (ba (ab j) 16/\Iv (uC q/\(1:Int)<=(1:Int)/\(1:Int)<=(1:Int))/\aa ([1,x1.1.a,x1.1.b,x1.1.c,x1.1.d,1]:List Int) (∃z:jz×(List (Int×Int)),j=z.2/\ite (1<Int.toNat 1) (l_ q 1) x1.1.a=z.1.a/\ite (2<Int.toNat 1) (l_ q 2) x1.1.b=z.1.b/\ite (3<Int.toNat 1) (l_ q 3) x1.1.c=z.1.c/\ite (4<Int.toNat 1) (l_ q 4) x1.1.d=z.1.d/\(1-((Int.toNat 1:Nat):Int))=z.1.n/\(Iv (rG y z/\z.1.n.toNat<x1.1.n.toNat)))) (ba (ab A) 16/\Iv (uC q/\1<=o.2/\o.2<=1)/\aa ([o.2,x1.1.a,x1.1.b,x1.1.c,x1.1.d,1]:List Int) (∃z:jz×(List (Int×Int)),A=z.2/\ite ((0+f)<Int.toNat 1) (l_ q (0+f)) x1.1.a=z.1.a/\ite ((1+f)<Int.toNat 1) (l_ q (1+f)) x1.1.b=z.1.b/\ite ((2+f)<Int.toNat 1) (l_ q (2+f)) x1.1.c=z.1.c/\ite ((3+f)<Int.toNat 1) (l_ q (3+f)) x1.1.d=z.1.d/\(1-(f:Int))=z.1.n/\(Iv (rG y z/\z.1.n.toNat<x1.1.n.toNat))))))) (aE x1.1.n 0/\False))))) (x1.2=q1/\x1.1.a=e.a/\x1.1.b=e.b/\x1.1.c=e.c/\x1.1.d=e.d/\x1.1.n=e.n/\True)))
def ϔ {n:Nat} (h:n<=4) (y:jz):(sJ n y).length=n:=by unfold sJ;rw[Zar];exact Zbj h
theorem QgJ {M e:Pm D} {k d:IntKind} {a b:Int} {c:Bool} {v:Value} (h:VR M (.tuple [.int k a,.int d b,.bool c]) v):VR e (.tuple [.int k a,.int d b,.bool c]) v:=by
 cases h with
 | tuple hl n=>
  rename_i l
  obtain⟨l⟩:=l;obtain⟨r,o,rfl,h1,f⟩:=LR.bJ (M:=M) ⟨hl,n⟩;obtain⟨s,p,rfl,g,i⟩:=f.bJ;obtain⟨v3,q,rfl,j,m⟩:=i.bJ;obtain rfl:=m.mj;cases h1 with
  | int i1=>cases g with
   | int i2=>cases j;exact VR.Em (.cons (.int i1) (.cons (.int i2) (.cons (.bool c) .nil)))
theorem Mu (n:Nat) (h1:1<=n) (P:n<=4):Ok (T9 n):=by
 refine⟨⟨f86,_,by kernel_rfl,dB (by kernel_rfl)⟩,λy hy M A w Q p _ R S=>?_⟩;obtain⟨v,rfl,U⟩:=yp Q;have t:∃k cap,M.pl 0=some k/\v=.slice (some ⟨k.cg,k.sh,none⟩) n cap/\n<=cap:=by
  cases U with
  | sub h N B G=>exact⟨_,_,h,rfl,B⟩
  | pK=>omega
 obtain⟨k,cap,G,rfl,L⟩:=t;obtain⟨N,hs,ht,C,fz,hC,hl,T⟩:=qb p (b:=0) rfl G;have H:∀j,M.sg k.cg j=none:=λj=>p.sep 0 _ k (show cM (HB y) 0=_ from rfl) rfl G N j trivial
 let l:By:=sJ n y
 let x:Pm D:=⟨λ_=>none,dC M.sg k.cg 0 (aX (D:=D) 0 l)⟩
 have s:HW M x:=lu λo _ _=>H o
 have r:aX (D:=D) 0 l=([AV.int .u8 y.a,.int .u8 y.b,.int .u8 y.c,.int .u8 y.d].take n:List (AV D.E)):=by
  obtain⟨v0,r0,Y,i0,hl⟩:=hl.bJ;obtain⟨v1,r1,Z,i1,hl⟩:=hl.bJ;obtain⟨v2,r2,e2,i2,hl⟩:=hl.bJ;obtain⟨v3,r3,e3,i3,hl⟩:=hl.bJ;cases i0 with
  | int i0=>cases i1 with
   | int i1=>cases i2 with
    | int i2=>cases i3 with
     | int i3=>
      have f:aX (D:=D) 0 [b8 y.a,b8 y.b,b8 y.c,b8 y.d]=[AV.int .u8 y.a,.int .u8 y.b,.int .u8 y.c,.int .u8 y.d]:=by
       show[AV.int .u8 ((b8 y.a).toNat:Int),.int .u8 ((b8 y.b).toNat:Int),.int .u8 ((b8 y.c).toNat:Int),.int .u8 ((b8 y.d).toNat:Int)]=_
       rw[pW i0,pW i1,pW i2,pW i3];rfl
      have g:=ou (D:=D) iX 0 [b8 y.a,b8 y.b,b8 y.c,b8 y.d] n;rw[f] at g;exact g.trans (by show List.take (n*1) _=_;rw[Zb8])
 have z:eP x (λ_=>none) w:=⟨λb o h=>(nomatch h),λb X o o' m m' h=>(nomatch h),λb o v h=>by
  replace h:dC M.sg k.cg 0 (aX (D:=D) 0 l) b o=some v:=h;unfold dC at h;split at h
  ·rename_i F
   obtain⟨rfl,_,_⟩:=F;have q:=(eA iX (ZaJ h)).2;rw[r,Za7] at h;split at h
   ·have O:[AV.int (E:=D.E) .u8 y.a,.int .u8 y.b,.int .u8 y.c,.int .u8 y.d,.int .i64 y.n][o]?=some v:=by
     grind
    obtain⟨u,K,a2⟩:=hl.get O;exact⟨q,u,by grind [World.cell?],a2.pure q s⟩
   ·cases h
  ·obtain⟨q,u,K,a2⟩:=p.ia b o v h;exact⟨q,u,K,a2.pure q s⟩,λb o m h=>(nomatch h),λb c xs e m h=>(nomatch h),⟨p.mZ.1,λb o m h=>(nomatch h)⟩⟩
 have hlen:l.length=n:=ϔ P y;have J:VR x (.list 0 l) (.slice (some ⟨k.cg,k.sh,none⟩) n cap):=by
  rw[hs,<-hlen];exact VR.list (c:=0) (cN.add iX) (by show l.length<=_;omega) (by show l.length<=_;omega)
 refine C0.2 l trivial x _ w (.cons J .nil) z (λ_ _=>rfl) R λW u V I i=>S M u V (QgJ I) ?_
 exact dq.world p i.size (λc B=>i.aS c B λ⟨b,o,m,h,_⟩=>nomatch h) i.os i.tape i.output 1
theorem C_ {y:jz} (h:0<y.n) (a:y.n<=4):1<=(kN y).2/\(kN y).2<=y.n:=by
 grind [di,kN,jR]
theorem qZ:∀(k:Nat) (y:jz) (l:List Gt),y.n<=4->y.n.toNat<=k->oG k y l=oG y.n.toNat y l
 | 0,y,l,_,h=>by grind
 | k+1,y,l,b,h=>by
  by_cases a:0<y.n/\gy (di y)=false
  ·obtain⟨m,c⟩:∃m,y.n.toNat=m+1:=⟨y.n.toNat-1,ω⟩;have ht:=C_ a.1 b;have d:(D6 y (kN y).2.toNat).n=y.n-(kN y).2:=by show y.n-((kN y).2.toNat:Int)=_;omega
   rw[c,oG,oG,Zac a,Zac a,qZ k _ _ ω ω,qZ m _ _ ω ω]
  ·rw[oG,Zaa a];cases y.n.toNat with
   | zero=>rfl
   | succ m=>rw[oG,Zaa a]
theorem QgK (y:jz×Int) (x:jz) (l:List Gt) (h0:0<x.n) (f:rG y (x,l)):
  (gy (di x)->l=(t_ y.1 y.2).2/\x.a=(t_ y.1 y.2).1.a/\x.b=(t_ y.1 y.2).1.b/\x.c=(t_ y.1 y.2).1.c/\x.d=(t_ y.1 y.2).1.d/\x.n=(t_ y.1 y.2).1.n)/\
  (gy (di x)=false->1<=(kN x).2/\(kN x).2<=x.n/\(l++[kN x]).length<=4/\rG y (D6 x (kN x).2.toNat,l++[kN x])/\(D6 x (kN x).2.toNat).n.toNat<x.n.toNat):=by
 obtain⟨e,a2,a3,a4⟩:=f;simp only at e a2 a3 a4;obtain⟨m,g⟩:∃m,x.n.toNat=m+1:=⟨x.n.toNat-1,ω⟩;refine⟨λh=>?_,λh=>?_⟩
 ·grind [oG]
 ·have ht:=C_ h0 a2;have i:(D6 x (kN x).2.toNat).n=x.n-(kN x).2:=by show x.n-((kN x).2.toNat:Int)=_;omega
  have hl:(l++[kN x]).length=l.length+1:=by simp
  refine⟨ht.1,ht.2,ω,⟨by grind,by grind,by grind,?_⟩,ω⟩;grind [oG,qZ]
theorem wQ (y:jz×Int) (a b c d:Int) (m:Nat) (l:List Gt) (h0:0<m) (h:m<=4) (f:rG y (⟨a,b,c,d,m⟩,l)):
  (gy (sJ m ⟨a,b,c,d,m⟩)->l=(t_ y.1 y.2).2/\a=(t_ y.1 y.2).1.a/\b=(t_ y.1 y.2).1.b/\c=(t_ y.1 y.2).1.c/\d=(t_ y.1 y.2).1.d/\(m:Int)=(t_ y.1 y.2).1.n)/\
  (gy (sJ m ⟨a,b,c,d,m⟩)=false->
   ((bK (sJ m ⟨a,b,c,d,m⟩)).2=0->((l++[(65533,1)]).length:Int)*(16:Nat)<=140737488355328/\(uC ⟨a,b,c,d,m⟩/\(1:Int)<=1/\(1:Int)<=m)/\
    ∃z:jz×List Gt,l++[(65533,1)]=z.2/\(D6 ⟨a,b,c,d,m⟩ 1).a=z.1.a/\(D6 ⟨a,b,c,d,m⟩ 1).b=z.1.b/\(D6 ⟨a,b,c,d,m⟩ 1).c=z.1.c/\(D6 ⟨a,b,c,d,m⟩ 1).d=z.1.d/\(D6 ⟨a,b,c,d,m⟩ 1).n=z.1.n/\rG y z/\z.1.n.toNat<m)/\
   ((bK (sJ m ⟨a,b,c,d,m⟩)).2≠0->((l++[((bK (sJ m ⟨a,b,c,d,m⟩)).1,(bK (sJ m ⟨a,b,c,d,m⟩)).2)]).length:Int)*(16:Nat)<=140737488355328/\(uC ⟨a,b,c,d,m⟩/\1<=(bK (sJ m ⟨a,b,c,d,m⟩)).2/\(bK (sJ m ⟨a,b,c,d,m⟩)).2<=m)/\
    ∃z:jz×List Gt,l++[((bK (sJ m ⟨a,b,c,d,m⟩)).1,(bK (sJ m ⟨a,b,c,d,m⟩)).2)]=z.2/\(D6 ⟨a,b,c,d,m⟩ (bK (sJ m ⟨a,b,c,d,m⟩)).2.toNat).a=z.1.a/\(D6 ⟨a,b,c,d,m⟩ (bK (sJ m ⟨a,b,c,d,m⟩)).2.toNat).b=z.1.b/\
     (D6 ⟨a,b,c,d,m⟩ (bK (sJ m ⟨a,b,c,d,m⟩)).2.toNat).c=z.1.c/\(D6 ⟨a,b,c,d,m⟩ (bK (sJ m ⟨a,b,c,d,m⟩)).2.toNat).d=z.1.d/\(D6 ⟨a,b,c,d,m⟩ (bK (sJ m ⟨a,b,c,d,m⟩)).2.toNat).n=z.1.n/\rG y z/\z.1.n.toNat<m)):=by
 have e:sJ m ⟨a,b,c,d,m⟩=di ⟨a,b,c,d,m⟩:=rfl;rw[e];obtain⟨b1,g⟩:=QgK y ⟨a,b,c,d,m⟩ l (by grind) f;grind [uC,kN]
theorem Qsg (y:jz×Int) (i:0<=y.1.n/\y.1.n<=3):Ua y:=by
 unfold Ua;simp only[bN,bj,aw,bq,a_,ZaX,ZaY,ZaZ];obtain⟨h1,j⟩:=i;refine⟨⟨λk=>?_,λ_=>⟨λk=>?_,λ_=>⟨λk=>?_,λk=>?_⟩⟩⟩,⟨(Bo y.1 y.2,[]),rfl,rfl,rfl,rfl,rfl,bA ω ω,?_⟩,λx f=>?_⟩
 ·simp[k]
 ·simp[k]
 ·simp[k]
 ·omega
 ·have e:(Bo y.1 y.2).n=y.1.n+1:=rfl;exact⟨by grind,by grind,by grind,(qZ 4 (Bo y.1 y.2) [] ω ω).symm⟩
 ·obtain⟨⟨a,b,c,d,n⟩,l⟩:=x;have g:=f;obtain⟨h,a2,a3,a4⟩:=g;simp only at h a2 a3 a4;refine⟨λk0=>⟨λk=>?_,λk4=>⟨λk=>?_,λk3=>⟨λk=>?_,λk2=>⟨λk=>?_,λk1=>?_⟩⟩⟩⟩,λk0=>?_⟩
  ·obtain rfl:n=4:=k;exact wQ y a b c d 4 l (by decide) (by decide) f
  ·obtain rfl:n=3:=k;exact wQ y a b c d 3 l (by decide) (by decide) f
  ·obtain rfl:n=2:=k;exact wQ y a b c d 2 l (by decide) (by decide) f
  ·obtain rfl:n=1:=k;exact wQ y a b c d 1 l (by decide) (by decide) f
  ·grind
  ·have:n.toNat=0:=by grind
   grind [oG]
def QkO:Ok T_:=okZ [T9 1,T9 2,T9 3,T9 4,udC] f75 Qse ⟨Mu 1 (by decide) (by decide),Mu 2 (by decide) (by decide),Mu 3 (by decide) (by decide),Mu 4 (by decide) (by decide),Qsd⟩ Qsg
def qd (v:iB) (l:List Gt):iB:=l.foldl (λv g=>rnF ⟨v,g.1,g.2⟩) v
structure Zk where
 v:iB
 l:List Gt
def rsP (y:Zk):Prop:=enP y.v/\y.v.p.ai.length=y.v.L.length/\0<=y.v.aq/\y.v.aq+4*y.l.length<=1000000000000
def ssC:bp D:=⟨74,Zk,λa s=>match a with
 | [p,l]=>aB (IK p s) λv=>aB (aW D s 13 l) λl=>.ret ⟨v,(l:List Gt)⟩
 | _=>.fail,rsP,λy=>[.ptr 0 0,.list 13 y.l],λy=>Fl 0 y.v,λ_=>.tuple [],λy=>CY 0 5 4 (qd y.v y.l),5,6⟩
def ssO (y:ssC.Y):dj D:=⟨[],[],[(6,⟨Nat,[0,6,7],λk=>[(8,Qyy k)],[],λk=>CY 0 5 4 (qd (Zk.v y) ((Zk.l y).take k)),6,λk=>k<=(Zk.l y).length,λk=>(Zk.l y).length-k⟩)],[],1,[]⟩
def QgL (y:Zk):Prop:=let b:=qd y.v y.l;let q1:=y.l.length;let g:=ab y.l;(∃z:Nat,let c:=qd y.v (List.take z y.l);RAP y.l g (0=(z:Int)/\y.v.p.ag=c.p.ag/\y.v.p.ai=c.p.ai/\y.v.aq=c.aq/\ab y.v.L=ab c.L/\ab y.v.s.pl=ab c.s.pl/\ab y.v.s.us=ab c.s.us/\y.v.s.us=c.s.us/\y.v.s.pl=c.s.pl/\y.v.L=c.L/\(Iv (z<=q1))))/\(∀x:Nat,let a:=qd y.v (List.take x y.l);let h:=ab a.s.us;let i:=ab a.s.pl;let f:=gt (0,0) y.l (x:Int).toNat;let e:=jy a f.1 a.L.length;(Iv (x<=q1))->aj (aD (x:Int) g) (aM 0 (x:Int)/\aD (x:Int) g/\Iv (rnP (Zj.mk a f.1 f.2))/\RAP f.1 f.2 (RA2 a.p (aa [a.aq,ab a.L,i,h] (RA9 a.s (RAO a.L (∃z:Nat,let d:=qd y.v (List.take z y.l);aa [y.l] (aa [g] (ay .i64 (x:Int) 1=(z:Int)/\e.p.ag=d.p.ag/\e.p.ai=d.p.ai/\(a.aq+ϊ f.2)=d.aq/\ab e.L=ab d.L/\ab e.s.pl=ab d.s.pl/\ab e.s.us=ab d.s.us/\e.s.us=d.s.us/\e.s.pl=d.s.pl/\e.L=d.L/\(Iv (z<=q1/\(q1-z)<(q1-x))))))))))) (a.p.ag=b.p.ag/\a.p.ai=b.p.ai/\a.aq=b.aq/\ab a.L=ab b.L/\i=ab b.s.pl/\h=ab b.s.us/\a.s.us=b.s.us/\a.s.pl=b.s.pl/\a.L=b.L/\True))
def Ub (v:iB) (N:Int):Prop:=enP v/\v.p.ai.length=v.L.length/\0<=v.aq/\v.aq<=N
theorem QgN {v:iB} {N:Int} (r n:Int) (h:Ub v N):Ub (rnF ⟨v,r,n⟩) (N+4):=by
 obtain⟨h1,a,d,e⟩:=h;obtain⟨i1,b,g,c⟩:=qY r h1 v.L.length;have f:0<=ϊ n/\ϊ n<=4:=by grind [ϊ,gu,imax]
 exact⟨i1,by show(jy v r v.L.length).p.ai.length=(jy v r v.L.length).L.length;rw[b,c];exact a,by show 0<=v.aq+ϊ n;omega,by show v.aq+ϊ n<=N+4;omega⟩
theorem uD {v:iB} {l:List Gt} {x:Nat} (h:x<l.length):qd v (l.take (x+1))=rnF ⟨qd v (l.take x),l[x].1,l[x].2⟩:=by
 grind [qd,List.take_append_getElem]
theorem oH {v:iB} {N:Int} {l:List Gt} (h:Ub v N):∀x,x<=l.length->Ub (qd v (l.take x)) (N+4*x)
 | 0,_=>by grind [qd]
 | x+1,a=>by
  rw[uD (show x<l.length by omega)];have:=QgN (l[x]'ω).1 (l[x]'ω).2 (oH (l:=l) h x ω);grind
theorem ssH (y:Zk) (g:rsP y):QgL y:=by
 unfold QgL;simp only[bN,bj,aw,dL,Zad];obtain⟨h1,b,c,h⟩:=g;have d:Ub y.v y.v.aq:=⟨h1,b,c,ZaQ _⟩;refine⟨⟨0,rfl,rfl,rfl,rfl,rfl,rfl,rfl,rfl,rfl,rfl,Zaj _⟩,λx f=>⟨λk=>?_,λk=>?_⟩⟩
 ·have a:x<y.l.length:=ω;have ht:y.l.getD x (0,0)=y.l[x]:=by grind
  obtain⟨g1,g2,g3,g4⟩:=oH d x f;rw[ht];have e:=uD (v:=y.v) a;refine⟨ω,k,⟨g1,g2,g3,by grind⟩,x+1,bA ω ω,?_⟩;grind [rnF]
 ·grind
def QkP:Ok ssC:=okZ [T4] f74 ssO QkD ssH
def O4:bp D:=cq 200 Int (λa _=>in1 a) (λ_=>True) (λy=>[.int .i32 y]) λy=>.bool (iR y)
def FJ:bp D:=cq 177 Int (λa _=>in1 a) (λ_=>True) (λy=>[.int .i32 y]) λy=>.list 6 (eL y)
def Uc:bp D:=cq 176 Unit (λ_ _=>.ret ()) (λ_=>True) (λ_=>[]) λ_=>.list 6 ZY
def Qsk (args:List (AV D.E)):C (By×By):=match args with
 | [a,b]=>aB (iO a) λx=>aB (iO b) λz=>.ret (x,z)
 | _=>.fail
def O5:bp D:=cq 179 (By×By) (λa _=>Qsk a) (λ_=>True) (λy=>[.str y.1,.str y.2]) λy=>.bool (iS y.1 y.2)
def ϕ (args:List (AV D.E)):C By:=match args with
 | [a]=>aB (iO a) λx=>.ret x
 | _=>.fail
def lJ (y:By):Prop:=∀c∈y,48<=c.toNat/\c.toNat<=57
def Je:bp D:=cq 180 By (λa _=>ϕ a) lJ (λy=>[.str y]) λy=>.tuple [Qyy (syn.e_ y).1,.bool (syn.e_ y).2]
def Qsm (y:Je.Y):dj D:=⟨[],[],[(122,⟨Nat,[0,10],λx=>[(4,Qyy (iy (y.take x))),(11,Qyy x)],[],λ_=>[],0,λx=>x<=y.length,λx=>y.length-x⟩)],[],1,[]⟩
structure cm where
 i:Int
 an:Int
 ae:Int
 au:Int
 wh:Int
def nn (s:cm):Ps:=⟨s.i.toNat,s.an.toNat,s.ae.toNat,s.au,s.wh⟩
def zz (s:Ps):cm:=⟨s.i,s.an,s.ae,s.au,s.wh⟩
def bU (G:List Gt):List Int:=(List.range G.length).map (aq G)
def psO (G:List Gt) (s:cm):List (Nat×AO D.E):=[(0,.cells [.list 13 G,.list 5 (bU G),.int .i64 s.i,.int .i64 s.an,.int .i64 s.ae,.int .i64 s.au,.int .i64 s.wh] 133 false)]
abbrev PS:=List Gt×cm
def QgO (v:AV D.E) (s:St D.E):C PS:=match v with
 | .ptr b _=>aB (dg (s.h.get b)) λo=>match o with
  | .cells cs _ _=>match cs with
   | [l,_,i,o,g,e,w]=>aB (aW D s 13 l) λl=>aP (cQ i) λ_ i=>aP (cQ o) λ_ o=>aP (cQ g) λ_ g=>aP (cQ e) λ_ e=>aP (cQ w) λ_ w=>.ret ((l:List Gt),⟨i,o,g,e,w⟩)
   | _=>.fail
  | _=>.fail
 | _=>.fail
def O6 (args:List (AV D.E)) (s:St D.E):C PS:=match args with
 | [p]=>QgO p s
 | _=>.fail
def Ud (args:List (AV D.E)) (s:St D.E):C (PS×Int):=match args with
 | [p,a]=>aB (QgO p s) λy=>aP (cQ a) λ_ n=>.ret (y,n)
 | _=>.fail
def QgP (args:List (AV D.E)) (s:St D.E):C (PS×Int×Int):=match args with
 | [p,a,b]=>aB (QgO p s) λy=>aP (cQ a) λ_ m=>aP (cQ b) λ_ n=>.ret (y,m,n)
 | _=>.fail
def bF (y:PS):Prop:=y.1.length<=4096/\(0<=y.2.i/\y.2.i<=y.1.length)/\(0<=y.2.an/\y.2.an<=20)/\(0<=y.2.ae/\y.2.ae<=4)/\Fx y.1
abbrev yq (f:FuncId) (Y:Type) (a:Y->PS) (zL:List (AV D.E)->St D.E->C Y) (pre:Y->Prop) (args:Y->List (AV D.E)) (out:Y->cm) (res:Y->AV D.E):bp D:=⟨f,Y,zL,λy=>bF (a y)/\pre y,λy=>.ptr 0 0::args y,λy=>psO (a y).1 (a y).2,res,λy=>psO (a y).1 (out y),1,1⟩
variable {G:List Gt} {s:Ps} {i:Nat} {l:List (List Nd)}
def Zl:bp D:=yq 124 (PS×Int) (·.1) Ud (λ_=>True) (λy=>[.int .i32 y.2]) (λy=>y.1.2) λy=>.bool (bd y.1.1 (nn y.1.2) y.2)
def uE:bp D:=yq 90 (PS×Int) (·.1) Ud (λ_=>True) (λy=>[.int .i32 y.2]) (λy=>zz (bt y.1.1 (nn y.1.2) y.2)) λy=>.bool (bd y.1.1 (nn y.1.2) y.2)
def Ac:bp D:=yq 172 (PS×Int) (·.1) Ud (λy=>0<=y.2/\y.2<y.1.1.length) (λy=>[Qyy y.2]) (λy=>y.1.2) λy=>.bool (fI y.1.1 y.2.toNat)
def rH:bp D:=yq 52 (PS×Int×Int) (·.1) QgP (λy=>0<=y.2.1/\y.2.1<y.1.1.length) (λy=>[Qyy y.2.1,Qyy y.2.2]) (λy=>zz ((nn y.1.2).aA y.1.1 y.2.1.toNat y.2.2)) λ_=>.dc
def Qsr (args:List (AV D.E)) (s:St D.E):C (Int×List (List Nd)):=match args with
 | [a,b]=>aP (cQ a) λ_ n=>aB (aW D s 9 b) λl=>.ret (n,(l:List (List Nd)))
 | _=>.fail
def Ad:bp D:=cq 91 (Int×List (List Nd)) Qsr (λy=>total y.2<=100000/\y.2.length<=100000) (λy=>[Qyy y.1,.list 9 y.2]) λy=>.list 7 (b9 y.1 y.2)
def Qss (y:Ad.Y):dj D:=⟨[],[],[(122,⟨Nat,[24,25],λx=>[(5,.grow 7 ({ nd y.1 with af:=y.2.length }::(y.2.take x).flatten) 0),(26,Qyy x)],[],λ_=>[(0,.tok 7 149)],1,λx=>x<=y.2.length,λx=>y.2.length-x⟩)],[],1,[]⟩
def Ue (y:Int):Prop:=let a:Prop:=(aj (aM 123 y) (aM y 126=iR y/\True) (false=iR y/\True));let q1:Prop:=(aj (aM 91 y) (aj (aM y 96) (true=iR y/\True) (a)) (a));let b:Prop:=(aj (aM 58 y) (aj (aM y 64) (true=iR y/\True) (q1)) (q1));aj (aM 33 y) (aj (aM y 47) (true=iR y/\True) (b)) (b)
def Uf (y:Int):Prop:=let a:=([(y,y)]:List (Int×Int));Iv (a.length<=100000000)/\aa [a] (aY a=eL y/\True)
def Ug (y:Unit):Prop:=Iv (1<=1000000)/\aa ([[(10,10)]]:List (List (Int×Int))) (l9 [(10,10)]=ZY/\True)
def Uh (y:(List UInt8)×(List UInt8)):Prop:=let a:=iS y.1 y.2;let q1:=aD (fo y.1) (fo y.2);let b:=aE (fo y.1) (fo y.2);aj q1 (true=a/\True) (aj b (slt y.1 y.2=a/\True) (false=a/\True))
def Mw (y:List UInt8):Prop:=aj (aD 2 (fo y)) (0=(e_ y).1/\false=(e_ y).2/\True) ((∃z:Nat,RAP y (fo y) (0=iy (List.take z y)/\0=(z:Int)/\(Iv (z<=y.length))))/\(∀x:Nat,let a:=y.length;let q1:=iy (List.take x y);let b:=aD (x:Int) (fo y);(Iv (x<=a))->aj b (aM 0 (x:Int)/\b/\∃z:Nat,RAP y (fo y) (ay .i64 (jx .i64 10 q1) (xf .i64 (dE .u8 (sat y (x:Int)) 48))=iy (List.take z y)/\ay .i64 (x:Int) 1=(z:Int)/\(Iv (z<=a/\(a-z)<(a-x))))) (q1=(e_ y).1/\aM q1 30=(e_ y).2/\True)))
def QgQ (y:((List (Int×Int))×cm)×Int):Prop:=let a:=aD y.1.2.i (ab y.1.1);let q1:=bd y.1.1 (nn y.1.2) y.2;let b:=(gt (0,0) y.1.1 y.1.2.i.toNat).1;let c:Prop:=(aa [y.1.1] (aa [bU y.1.1] (aa [y.1.2.i,y.1.2.an,y.1.2.ae,y.1.2.au,y.1.2.wh] (True))));aj a (aM 0 y.1.2.i/\a/\aa [y.1.2.i] (aa [y.1.1,y.1.1] (aa [y.1.2.i,b] (aE b y.2=q1/\c)))) (aa [y.1.2.i] (aa [y.1.1] (false=q1/\c)))
def Ui (y:((List (Int×Int))×cm)×Int):Prop:=let a:=bd y.1.1 (nn y.1.2) y.2;let q1:=bt y.1.1 (nn y.1.2) y.2;let b:=((q1.i:Nat):Int);let c:Prop:=(y.1.2.an=((q1.an:Nat):Int)/\y.1.2.ae=((q1.ae:Nat):Int)/\y.1.2.au=q1.au/\y.1.2.wh=q1.wh/\True);Iv (bF (y.1.1,y.1.2)/\True)/\aa [y.2] (aa [y.1.1] (aa [bU y.1.1] (aa [y.1.2.i,y.1.2.an,y.1.2.ae,y.1.2.au,y.1.2.wh] (aj a (true=a/\aa [y.1.1] (aa [bU y.1.1] (ay .i64 y.1.2.i 1=b/\c))) (false=a/\aa [y.1.1] (aa [bU y.1.1] (y.1.2.i=b/\c)))))))
def Uj (y:((List (Int×Int))×cm)×Int):Prop:=let a:=fI y.1.1 y.2.toNat;let q1:=gt (0,0) y.1.1 y.2.toNat;let b:Prop:=(aa [y.1.1] (aa [bU y.1.1] (aa [y.1.2.i,y.1.2.an,y.1.2.ae,y.1.2.au,y.1.2.wh] (True))));aM 0 y.2/\aD y.2 (ab y.1.1)/\aj (aE q1.1 65533) (aM 0 y.2/\aD y.2 (ab y.1.1)/\aE q1.2 1=a/\b) (false=a/\b)
def Uk (y:((List (Int×Int))×cm)×Int×Int):Prop:=let a:=bU y.1.1;let q1:=Ps.aA y.1.1 (nn y.1.2) y.2.1.toNat y.2.2;aj (aE y.1.2.au 0) (aM 0 y.2.1/\aD y.2.1 (ab a)/\aa [y.1.1] (aa [a] (y.1.2.i=((q1.i:Nat):Int)/\y.1.2.an=((q1.an:Nat):Int)/\y.1.2.ae=((q1.ae:Nat):Int)/\y.2.2=q1.au/\gt 0 a y.2.1.toNat=q1.wh/\True))) (aa [y.1.1] (aa [a] (y.1.2.i=((q1.i:Nat):Int)/\y.1.2.an=((q1.an:Nat):Int)/\y.1.2.ae=((q1.ae:Nat):Int)/\y.1.2.au=q1.au/\y.1.2.wh=q1.wh/\True)))
def Mx (y:Int×(List (List Nd))):Prop:=let a:=ab y.2;let q1:=y.2.length;let b:=b9 y.1 y.2;let c:=Nd.mk y.1 [] 0 0 false 0 (q1:Int);aj (aE a 0) (([Nd.mk 1 [] 0 0 false 0 0]:List Nd)=b/\True) (aj (aE a 1) (Tt 1 (aD 0 a/\gt [] y.2 0=b/\True)) ((∃z:Nat,aa [y.2] (aa [a] (([Nd.mk y.1 [] 0 0 false 0 a]:List Nd)=(c::(List.flatten (List.take z y.2)))/\0=(z:Int)/\(Iv (z<=q1)))))/\(∀x:Nat,let d:=(c::(List.flatten (List.take x y.2)));let e:=bn d (gt [] y.2 (x:Int).toNat);(Iv (x<=q1))->aj (aD (x:Int) a) (aM 0 (x:Int)/\aD (x:Int) a/\ba (ab e) 72/\∃z:Nat,aa [y.2] (aa [a] (e=(c::(List.flatten (List.take z y.2)))/\ay .i64 (x:Int) 1=(z:Int)/\(Iv (z<=q1/\(q1-z)<(q1-x)))))) (d=b/\True))))
theorem QkQ (y:Int) (a:O4.pre y):Ue y:=by
 grind [Ue,iR]
def QkR:Ok O4:=okZ [] f200 (λ_=>dk ()) trivial QkQ
def Qsu (y:Int) (a:FJ.pre y):Uf y:=by
 unfold Uf;simp only[cE,Zai];exact⟨⟨by simp⟩,rfl⟩
def Qeg (a:Ok cW):Ok FJ:=okZ [cW] f177 (λ_=>dk ()) a Qsu
def Qsv (y:Unit) (a:Uc.pre y):Ug y:=by
 unfold Ug;simp only[cE,Zai];exact⟨⟨ω⟩,rfl⟩
theorem Qsw (y:By×By) (a:O5.pre y):Uh y:=by
 unfold Uh;simp only[bN,ej,my];unfold iS;refine⟨λh=>?_,λh=>⟨λb=>?_,λb=>?_⟩⟩
 ·grind
 ·rw[ZaN (show ¬y.1.length<y.2.length by omega),show(y.1.length==y.2.length)=true by grind,bytesLess_eq];rfl
 ·grind
def QkS:Ok O5:=okZ [] f179 (λ_=>dk ()) trivial Qsw
theorem Ul (r:Int) (h:s.i<G.length):bd G s r=decide ((G.getD s.i (0,0)).1=r):=by
 grind [bd]
theorem Da (r:Int) (h:G.length<=s.i):bd G s r=false:=by
 grind [bd]
theorem z_n {s:cm} (h:0<=s.i) (a:0<=s.an) (b:0<=s.ae):zz (nn s)=s:=by
 obtain⟨i,o,g,e,w⟩:=s;simp only at h a b;unfold zz nn;grind
def isH (y:PS×Int) (b:Zl.pre y):QgQ y:=by
 obtain⟨⟨h1,a,_⟩,_⟩:=b;have a:0<=y.1.2.i/\y.1.2.i<=y.1.1.length:=a;unfold QgQ;simp only[ej,gF,iz,gg,aw,gt];refine⟨λh=>⟨a.1,h,?_⟩,λh=>?_⟩
 ·rw[Ul (s:=nn y.1.2) y.2 (show y.1.2.i.toNat<y.1.1.length by omega)];rfl
 ·rw[Da (s:=nn y.1.2) y.2 (show y.1.1.length<=y.1.2.i.toNat by omega)]
def isOk:Ok Zl:=okZ [] f124 (λ_=>dk ()) trivial isH
theorem Qsx (y:PS×Int) (d:uE.pre y):Ui y:=by
 obtain⟨h0,_⟩:=d;obtain⟨h1,a,b,c⟩:=id h0;have h1:y.1.1.length<=4096:=h1;have a:0<=y.1.2.i/\y.1.2.i<=y.1.1.length:=a;have hz:=z_n (s:=y.1.2) a.1 b.1 c.1.1;unfold Ui;simp only[ej];refine⟨⟨h0⟩,λh=>?_,λh=>?_⟩
 ·unfold bt;rw[Zac h,h];refine⟨rfl,?_,ZaR cm.an hz.symm,ZaR cm.ae hz.symm,rfl,rfl⟩;rw[bA ω ω];show _=((y.1.2.i.toNat+1:Nat):Int)
  omega
 ·unfold bt;rw[Zaa (by grind),h];exact⟨rfl,ZaR cm.i hz.symm,ZaR cm.an hz.symm,ZaR cm.ae hz.symm,rfl,rfl⟩
def Bp:Ok uE:=okZ [Zl] f90 (λ_=>dk ()) isOk Qsx
theorem My (h:i<G.length):fI G i=(decide ((G.getD i (0,0)).1=65533)&&decide ((G.getD i (0,0)).2=1)):=by
 grind [fI]
theorem Qsy (y:PS×Int) (b:Ac.pre y):Uj y:=by
 obtain⟨_,h1,a⟩:=b;have h1:0<=y.2:=h1;have a:y.2<y.1.1.length:=a;unfold Uj;simp only[bN,ej,aw,gt];grind [My]
def Um:Ok Ac:=okZ [] f172 (λ_=>dk ()) trivial Qsy
theorem yr (G:List Gt):(bU G).length=G.length:=by grind [bU]
theorem Mz (h:i<G.length) (d:Int):(bU G).getD i d=aq G i:=by
 grind [bU]
def Qsz (y:PS×Int×Int) (d:rH.pre y):Uk y:=by
 obtain⟨⟨_,g2,g3,g4⟩,h1,a⟩:=d;have h1:0<=y.2.1:=h1;have a:y.2.1<y.1.1.length:=a;have hz:=z_n (s:=y.1.2) g2.1 g3.1 g4.1.1;have b:=ZaR cm.i hz.symm;have e2:=ZaR cm.an hz.symm;have c:=ZaR cm.ae hz.symm;unfold Uk;simp only[bN,ej,aw,gt,yr];rw[Mz (show y.2.1.toNat<y.1.1.length by omega)];unfold Ps.aA;refine⟨λh=>?_,λh=>?_⟩
 ·rw[Zac (show(nn y.1.2).au=0 from h)];exact⟨h1,a,b,e2,c,rfl,rfl⟩
 ·rw[Zaa (show ¬(nn y.1.2).au=0 from h)];exact⟨b,e2,c,rfl,rfl⟩
def vG:Ok rH:=okZ [] f52 (λ_=>dk ()) trivial Qsz
theorem ϟ (i:Nat):(l.take i).flatten.length<=total l:=by
 grind [total,List.take_append_drop]
theorem Bq (h:i<l.length):(l.take i).flatten++l.getD i []=(l.take (i+1)).flatten:=by
 grind [List.take_succ]
theorem QkT (y:Int×List (List Nd)) (f:Ad.pre y):Mx y:=by
 obtain⟨op,l⟩:=y;obtain⟨h1,g⟩:total l<=100000/\l.length<=100000:=f;unfold Mx;simp only[bN,ej,aw,gt,a_,bq,Zad];refine⟨λh=>?_,λh=>⟨λc=>⟨ω,?_⟩,λc=>⟨⟨0,rfl,rfl,⟨ω⟩⟩,λx e=>⟨λd=>⟨ω,d,?_,x+1,?_,bA ω ω,⟨⟨ω,ω⟩⟩⟩,λd=>?_⟩⟩⟩⟩
 ·obtain rfl:l=[]:=Zap ω;rfl
 ·obtain⟨a,rfl⟩:=List.length_eq_one_iff.1 (show l.length=1 by omega);rfl
 ·grind [ϟ,Bq]
 ·grind [Bq]
 ·have e:=e.out;rw[ZaA ω]
  match l,h,c with
  | [],h,_=>exact absurd rfl h
  | [a],_,c=>exact absurd rfl c
  | a::b::t,_,_=>rfl
def Qeh:Ok Ad:=okZ [] f91 Qss trivial QkT
theorem Un {y:By} (h:i<y.length):iy (y.take (i+1))=10*iy (y.take i)+(((y.getD i 0).toNat:Int) -48):=by
 grind [iy,List.take_succ]
theorem QgS {y:By} (h:lJ y) (hl:y.length<=2):0<=iy y/\iy y<=99:=by
 match y,h,hl with
 | [],_,_=>simp[iy]
 | [a],h,_=>
  have:=h a (by simp);simp[iy];omega
 | [a,b],h,_=>
  have:=h a (by simp);have:=h b (by simp);simp[iy];omega
theorem QkU (y:By) (a:Je.pre y):Mw y:=by
 have a:lJ y:=a;unfold Mw;simp only[ej,gF,iz,gg,my];unfold syn.e_;refine⟨λh=>?_,λh=>⟨⟨0,by rfl,rfl,⟨ω⟩⟩,λx g=>⟨λd=>⟨ω,d,x+1,?_,bA ω ω,⟨⟨ω,ω⟩⟩⟩,λd=>?_⟩⟩⟩
 ·grind
 ·have b:x<y.length:=ω;rw[Un b];have e:=a (y.getD x 0) (by grind);have f:=QgS (y:=y.take x) (λc e=>a c (Zcg e)) (by grind);have es:sat y (x:Int)=((y.getD x 0).toNat:Int):=by rfl
  grind [dE,dW,cY,D1,ue,xf]
 ·grind
def QkV:Ok Je:=okZ [] f180 Qsm trivial QkU
def Qei (k:PS->Bool) (args:List (AV D.E)) (s:St D.E):C (PS×Bool):=aB (O6 args s) λp=>.split (k p) (.ret (p,true)) (.ret (p,false))
def FK (y:PS):Bool:=decide ((eC y.1 (nn y.2)).2.1=[])
def QkW (z:Bool) (l:List Rg) (b:Bool):AV D.E:=match z with
 | true=>.tuple [.dc,.bool false]
 | false=>.tuple [.list 6 l,.bool b]
def Jf (y:PS×Bool):Prop:=y.1.2.i<y.1.1.length/\y.2=FK y.1
def Ae:bp D:=yq 175 (PS×Bool) (·.1) (Qei FK) Jf (λ_=>[]) (λy=>zz (eC y.1.1 (nn y.1.2)).1) λy=>QkW y.2 (eC y.1.1 (nn y.1.2)).2.1 (eC y.1.1 (nn y.1.2)).2.2
def yu (y:PS):Bool:=decide ((cj y.1 (nn y.2)).2.1=[])
def O7 (y:PS×Bool):Prop:=y.1.2.i<y.1.1.length/\y.2=yu y.1
def Jg:bp D:=yq 210 (PS×Bool) (·.1) (Qei yu) O7 (λ_=>[]) (λy=>zz (cj y.1.1 (nn y.1.2)).1) λy=>QkW y.2 (cj y.1.1 (nn y.1.2)).2.1 (cj y.1.1 (nn y.1.2)).2.2
def Jh (y:(List (Int×Int))×cm):Prop:=let j:=(y.1.length:Int);let q1:=ay .i64 y.2.i 1;let e:=(eC y.1 (nn y.2)).1;let n:=ay .i64 q1 1;let o:=fI y.1 q1.toNat;let k:=((e.ae:Nat):Int);let l:=((e.an:Nat):Int);let m:=((e.i:Nat):Int);let q:=aM (ab y.1) q1;let h:=cm.mk q1 y.2.an y.2.ae y.2.au y.2.wh;let a:=(gt (0,0) y.1 q1.toNat).1;let g:=cm.mk n y.2.an y.2.ae y.2.au y.2.wh;let b:=Ps.aA y.1 (nn h) y.2.i.toNat 4;let c:=Ps.aA y.1 (nn h) q1.toNat 4;let d:=Ps.aA y.1 (nn g) y.2.i.toNat 4;let f:=λp:Prop=>aa [y.1] (aa [bU y.1] p);aa [q1] (aa [y.1] (aj q (Iv (bF (y.1,h)/\0<=y.2.i/\y.2.i<j)/\aa ([y.2.i,4]:List Int) (aa [y.1] (aa [bU y.1] (aa [q1,y.2.an,y.2.ae,y.2.au,y.2.wh] (false=false/\f (((b.i:Nat):Int)=m/\((b.an:Nat):Int)=l/\((b.ae:Nat):Int)=k/\b.au=e.au/\b.wh=e.wh/\True)))))) (Iv (bF (y.1,h)/\0<=q1/\q1<j)/\aa [q1] (aa [y.1] (aa [bU y.1] (aa [q1,y.2.an,y.2.ae,y.2.au,y.2.wh] (aj o (Iv (bF (y.1,h)/\0<=q1/\q1<j)/\aa ([q1,4]:List Int) (aa [y.1] (aa [bU y.1] (aa [q1,y.2.an,y.2.ae,y.2.au,y.2.wh] (false=false/\f (((c.i:Nat):Int)=m/\((c.an:Nat):Int)=l/\((c.ae:Nat):Int)=k/\c.au=e.au/\c.wh=e.wh/\True)))))) (aM 0 q1/\aD q1 (ab y.1)/\aa [y.1] (aa [q1,a] (aj (aE a 110) (Iv True/\aa ([10]:List Int) (False)) (aj (aE a 116) (Iv True/\aa ([9]:List Int) (False)) (aj (aE a 114) (Iv True/\aa ([13]:List Int) (False)) (aj (aE a 100) (Iv (1<=100000000)/\aa ([[(48,57)]]:List (List (Int×Int))) (False)) (aj (aE a 115) (Iv (3<=100000000)/\aa ([[(9,10),(13,13),(32,32)]]:List (List (Int×Int))) (False)) (aj (aE a 119) (Iv (4<=100000000)/\aa ([[(48,57),(65,90),(95,95),(97,122)]]:List (List (Int×Int))) (False)) (Iv True/\aa [a] (aj (!(iR a)) (Iv (bF (y.1,g)/\0<=y.2.i/\y.2.i<j)/\aa ([y.2.i,4]:List Int) (aa [y.1] (aa [bU y.1] (aa [n,y.2.an,y.2.ae,y.2.au,y.2.wh] (false=false/\f (((d.i:Nat):Int)=m/\((d.an:Nat):Int)=l/\((d.ae:Nat):Int)=k/\d.au=e.au/\d.wh=e.wh/\True)))))) (Iv True/\aa [a] (False)))))))))))))))))))
def Ji (y:(List (Int×Int))×cm):Prop:=let l:=(y.1.length:Int);let q1:=eC y.1 (nn y.2);let b:=ay .i64 y.2.i 1;let q:=ay .i64 b 1;let r:=fI y.1 b.toNat;let m:=((q1.1.ae:Nat):Int);let h:=q1.2.1;let n:=((q1.1.i:Nat):Int);let o:=((q1.1.an:Nat):Int);let s:=aM (ab y.1) b;let d:=cm.mk b y.2.an y.2.ae y.2.au y.2.wh;let a:=(gt (0,0) y.1 b.toNat).1;let k:=cm.mk q y.2.an y.2.ae y.2.au y.2.wh;let e:=Ps.aA y.1 (nn d) y.2.i.toNat 4;let f:=Ps.aA y.1 (nn k) y.2.i.toNat 4;let g:=Ps.aA y.1 (nn d) b.toNat 4;let j:=λp:Prop=>aa [y.1] (aa [bU y.1] p);let c:Prop:=(j (q=n/\y.2.an=o/\y.2.ae=m/\y.2.au=q1.1.au/\y.2.wh=q1.1.wh/\True));aa [b] (aa [y.1] (aj s (Iv (bF (y.1,d)/\0<=y.2.i/\y.2.i<l)/\aa ([y.2.i,4]:List Int) (aa [y.1] (aa [bU y.1] (aa [b,y.2.an,y.2.ae,y.2.au,y.2.wh] ([]=h/\false=q1.2.2/\j (((e.i:Nat):Int)=n/\((e.an:Nat):Int)=o/\((e.ae:Nat):Int)=m/\e.au=q1.1.au/\e.wh=q1.1.wh/\True)))))) (Iv (bF (y.1,d)/\0<=b/\b<l)/\aa [b] (aa [y.1] (aa [bU y.1] (aa [b,y.2.an,y.2.ae,y.2.au,y.2.wh] (aj r (Iv (bF (y.1,d)/\0<=b/\b<l)/\aa ([b,4]:List Int) (aa [y.1] (aa [bU y.1] (aa [b,y.2.an,y.2.ae,y.2.au,y.2.wh] ([]=h/\false=q1.2.2/\j (((g.i:Nat):Int)=n/\((g.an:Nat):Int)=o/\((g.ae:Nat):Int)=m/\g.au=q1.1.au/\g.wh=q1.1.wh/\True)))))) (aM 0 b/\aD b (ab y.1)/\aa [y.1] (aa [b,a] (aj (aE a 110) (Iv True/\aa ([10]:List Int) (eL 10=h/\true=q1.2.2/\c)) (aj (aE a 116) (Iv True/\aa ([9]:List Int) (eL 9=h/\true=q1.2.2/\c)) (aj (aE a 114) (Iv True/\aa ([13]:List Int) (eL 13=h/\true=q1.2.2/\c)) (aj (aE a 100) (Iv (1<=100000000)/\aa ([[(48,57)]]:List (List (Int×Int))) (aY [(48,57)]=h/\false=q1.2.2/\c)) (aj (aE a 115) (Iv (3<=100000000)/\aa ([[(9,10),(13,13),(32,32)]]:List (List (Int×Int))) (aY [(9,10),(13,13),(32,32)]=h/\false=q1.2.2/\c)) (aj (aE a 119) (Iv (4<=100000000)/\aa ([[(48,57),(65,90),(95,95),(97,122)]]:List (List (Int×Int))) (aY [(48,57),(65,90),(95,95),(97,122)]=h/\false=q1.2.2/\c)) (Iv True/\aa [a] (aj (!(iR a)) (Iv (bF (y.1,k)/\0<=y.2.i/\y.2.i<l)/\aa ([y.2.i,4]:List Int) (aa [y.1] (aa [bU y.1] (aa [q,y.2.an,y.2.ae,y.2.au,y.2.wh] ([]=h/\false=q1.2.2/\j (((f.i:Nat):Int)=n/\((f.an:Nat):Int)=o/\((f.ae:Nat):Int)=m/\f.au=q1.1.au/\f.wh=q1.1.wh/\True)))))) (Iv True/\aa [a] (eL a=h/\true=q1.2.2/\c)))))))))))))))))))
def Jj (y:(List (Int×Int))×cm):Prop:=let g:=y.2.i.toNat;let q1:=(y.1,y.2);let e:=(eC y.1 (nn y.2)).1;let a:=(cj y.1 (nn y.2)).1;let h:=((a.an:Nat):Int);let j:=((a.ae:Nat):Int);let k:=((a.i:Nat):Int);let f:=Ps.aA y.1 (nn y.2) g 4;let c:=(gt (0,0) y.1 g).1;let l:=λp:Prop=>aa [y.1] (aa [bU y.1] (aa [y.2.i,y.2.an,y.2.ae,y.2.au,y.2.wh] p));let d:=λp:Prop=>aa [y.1] (aa [bU y.1] p);let b:Prop:=(false=false/\d (y.2.i=k/\y.2.an=h/\y.2.ae=j/\y.2.au=a.au/\y.2.wh=a.wh/\True));Iv (bF q1/\0<=y.2.i/\y.2.i<(y.1.length:Int))/\aa [y.2.i] (aa [y.1] (aa [bU y.1] (aa [y.2.i,y.2.an,y.2.ae,y.2.au,y.2.wh] (aj (fI y.1 g) (Iv (bF q1/\0<=y.2.i/\y.2.i<(y.1.length:Int))/\aa ([y.2.i,4]:List Int) (aa [y.1] (aa [bU y.1] (aa [y.2.i,y.2.an,y.2.ae,y.2.au,y.2.wh] (false=false/\d (((f.i:Nat):Int)=k/\((f.an:Nat):Int)=h/\((f.ae:Nat):Int)=j/\f.au=a.au/\f.wh=a.wh/\True)))))) (aM 0 y.2.i/\aD y.2.i (ab y.1)/\aa [y.1] (aa [y.2.i,c] (aj (aE c 92) (aj (FK q1) (Iv (bF q1/\Jf (q1,true))/\l (false=false/\d (((e.i:Nat):Int)=k/\((e.an:Nat):Int)=h/\((e.ae:Nat):Int)=j/\e.au=a.au/\e.wh=a.wh/\True))) (Iv (bF q1/\Jf (q1,false))/\l (False))) (aj (aE c 91) (aj (aE c 91) (b) (False)) (aj (aE c 93) (aj (aE c 93) (b) (False)) (aj (aE c 45) (b) (False)))))))))))
def Jk (y:(List (Int×Int))×cm):Prop:=let l:=y.2.i.toNat;let q1:=eC y.1 (nn y.2);let a:=cj y.1 (nn y.2);let f:=(y.1,y.2);let m:=((a.1.ae:Nat):Int);let n:=((a.1.an:Nat):Int);let k:=((a.1.i:Nat):Int);let j:=Ps.aA y.1 (nn y.2) l 4;let b:=(gt (0,0) y.1 l).1;let o:=λp:Prop=>aa [y.1] (aa [bU y.1] (aa [y.2.i,y.2.an,y.2.ae,y.2.au,y.2.wh] p));let c:=λp:Prop=>aa [y.1] (aa [bU y.1] p);let g:Prop:=(y.2.an=n/\y.2.ae=m/\y.2.au=a.1.au/\y.2.wh=a.1.wh/\True);let d:Prop:=([]=a.2.1/\false=a.2.2/\c (y.2.i=k/\g));let h:Prop:=(c (((q1.1.i:Nat):Int)=k/\((q1.1.an:Nat):Int)=n/\((q1.1.ae:Nat):Int)=m/\q1.1.au=a.1.au/\q1.1.wh=a.1.wh/\True));let e:Prop:=(([(b,b)]:List (Int×Int))=a.2.1/\true=a.2.2/\c (ay .i64 y.2.i 1=k/\g));Iv (bF f/\0<=y.2.i/\y.2.i<(y.1.length:Int))/\aa [y.2.i] (aa [y.1] (aa [bU y.1] (aa [y.2.i,y.2.an,y.2.ae,y.2.au,y.2.wh] (aj (fI y.1 l) (Iv (bF f/\0<=y.2.i/\y.2.i<(y.1.length:Int))/\aa ([y.2.i,4]:List Int) (aa [y.1] (aa [bU y.1] (aa [y.2.i,y.2.an,y.2.ae,y.2.au,y.2.wh] ([]=a.2.1/\false=a.2.2/\c (((j.i:Nat):Int)=k/\((j.an:Nat):Int)=n/\((j.ae:Nat):Int)=m/\j.au=a.1.au/\j.wh=a.1.wh/\True)))))) (aM 0 y.2.i/\aD y.2.i (ab y.1)/\aa [y.1] (aa [y.2.i,b] (aj (aE b 92) (aj (FK f) (Iv (bF f/\Jf (f,true))/\o ([]=a.2.1/\false=a.2.2/\h)) (Iv (bF f/\Jf (f,false))/\o (q1.2.1=a.2.1/\q1.2.2=a.2.2/\h))) (aj (aE b 91) (aj (aE b 91) (d) (e)) (aj (aE b 93) (aj (aE b 93) (d) (e)) (aj (aE b 45) (d) (e)))))))))))
theorem tu {s:cm} (h:0<=s.i):nn ⟨s.i+1,s.an,s.ae,s.au,s.wh⟩=(nn s).next:=by
 unfold nn Ps.next;grind
theorem MA (a:Fx G) (b:Nat) (hi:i<G.length) (c:iR (aN G i)\/aN G i=110\/aN G i=116\/aN G i=114\/aN G i=100\/aN G i=115\/aN G i=119) (hw:aY [(48,57),(65,90),(95,95),(97,122)]≠[]):(nv G s b (aN G i)).2.1≠[]:=by
 unfold nv
 repeat' split
 ·rw[a.n];simp
 ·rw[a.t];simp
 ·rw[a.r];simp
 ·rw[a.d];simp
 ·exact a.s0
 ·exact hw
 ·rw[a.one i hi];simp
 ·grind
theorem uF (h:G.length<=s.i+1):eC G s=(s.next.aA G s.i 4,[],false):=Zac h
theorem uG (h:s.i+1<G.length) (a:fI G (s.i+1)):eC G s=(s.next.aA G (s.i+1) 4,[],false):=(Zaa (show ¬G.length<=s.next.i from Nat.not_le.2 h)).trans (Zac a)
theorem yv (h:s.i+1<G.length) (a:fI G (s.i+1)=false):eC G s=nv G s.next.next s.i (aN G (s.i+1)):=(Zaa (show ¬G.length<=s.next.i from Nat.not_le.2 h)).trans (Zaa (show ¬fI G s.next.i=true by simp_all))
theorem Qk1 (y:PS) (n:Ae.pre (y,false)):Ji y:=by
 obtain⟨h0,hi,hk⟩:=n;have h0:bF y:=h0;have hi:y.2.i<y.1.length:=hi;obtain⟨c,a2,a3,a4,d⟩:=id h0;have g:ay IntKind.i64 y.2.i 1=y.2.i+1:=bA ω ω;have l:ay IntKind.i64 (y.2.i+1) 1=y.2.i+1+1:=bA ω ω;have j:(y.2.i+1).toNat=(nn y.2).i+1:=by show _=y.2.i.toNat+1;omega
 have f:y.2.i.toNat=(nn y.2).i:=rfl;have m:=tu (s:=y.2) a2.1;have a:=tu (s:=⟨y.2.i+1,y.2.an,y.2.ae,y.2.au,y.2.wh⟩) (show 0<=y.2.i+1 by omega);unfold Ji;simp only[bN,ej,g,l,j,f,m,a,aw,gt,Zan,Zao];have o:(y.2.i+1<=y.1.length)->bF (y.1,⟨y.2.i+1,y.2.an,y.2.ae,y.2.au,y.2.wh⟩):=λh=>⟨c,⟨show 0<=y.2.i+1 by omega,h⟩,a3,a4,d⟩
 have zi:y.2.i+1+1=((nn y.2).next.next.i:Int):=by show _=((y.2.i.toNat+1+1:Nat):Int);omega
 have zo:y.2.an=((nn y.2).next.next.an:Int):=by show _=((y.2.an.toNat:Nat):Int);omega
 have zg:y.2.ae=((nn y.2).next.next.ae:Int):=by show _=((y.2.ae.toNat:Nat):Int);omega
 have p:(nn y.2).i=y.2.i.toNat:=rfl;refine⟨λh=>?_,λh=>⟨⟨o ω,ω,h⟩,λe=>?_,λe=>⟨ω,h,?_⟩⟩⟩
 ·grind [uF]
 ·grind [uG]
 ·rw[yv ω e];have b:(y.1.getD ((nn y.2).i+1) (0,0)).1=aN y.1 ((nn y.2).i+1):=rfl;rw[b];generalize aN y.1 ((nn y.2).i+1)=r;unfold nv;refine⟨λk=>by rw[Zac k];exact⟨⟨trivial⟩,rfl,rfl,zi,zo,zg,rfl,rfl⟩,λk=>?_⟩;rw[Zaa k];refine⟨λk=>by rw[Zac k];exact⟨⟨trivial⟩,rfl,rfl,zi,zo,zg,rfl,rfl⟩,λk=>?_⟩;rw[Zaa k];refine⟨λk=>by rw[Zac k];exact⟨⟨trivial⟩,rfl,rfl,zi,zo,zg,rfl,rfl⟩,λk=>?_⟩;rw[Zaa k];refine⟨λk=>by rw[Zac k];exact⟨⟨ω⟩,rfl,rfl,zi,zo,zg,rfl,rfl⟩,λk=>?_⟩;rw[Zaa k];refine⟨λk=>by rw[Zac k];exact⟨⟨ω⟩,rfl,rfl,zi,zo,zg,rfl,rfl⟩,λk=>?_⟩;rw[Zaa k];refine⟨λk=>by rw[Zac k];exact⟨⟨ω⟩,rfl,rfl,zi,zo,zg,rfl,rfl⟩,λk=>?_⟩;rw[Zaa k];refine⟨⟨trivial⟩,λk=>?_,λk=>?_⟩
  ·rw[Zaa (by grind)];exact⟨⟨⟨c,⟨show 0<=y.2.i+1+1 by omega,show y.2.i+1+1<=(y.1.length:Int) by omega⟩,a3,a4,d⟩,a2.1,hi⟩,rfl,rfl,rfl,rfl,rfl,rfl,rfl⟩
  ·rw[Zac k];exact⟨⟨trivial⟩,rfl,rfl,zi,zo,zg,rfl,rfl⟩
theorem Qk2 (y:PS) (n:Ae.pre (y,true)):Jh y:=by
 obtain⟨h0,hi,hk⟩:=n;have h0:bF y:=h0;have hi:y.2.i<y.1.length:=hi;obtain⟨d,a2,a3,a4,a⟩:=id h0;have g:ay IntKind.i64 y.2.i 1=y.2.i+1:=bA ω ω;have l:ay IntKind.i64 (y.2.i+1) 1=y.2.i+1+1:=bA ω ω;have j:(y.2.i+1).toNat=(nn y.2).i+1:=by show _=y.2.i.toNat+1;omega
 have f:y.2.i.toNat=(nn y.2).i:=rfl;have m:=tu (s:=y.2) a2.1;have b:=tu (s:=⟨y.2.i+1,y.2.an,y.2.ae,y.2.au,y.2.wh⟩) (show 0<=y.2.i+1 by omega);unfold Jh;simp only[bN,ej,g,l,j,f,m,b,aw,gt,Zan,Zao];have o:(y.2.i+1<=y.1.length)->bF (y.1,⟨y.2.i+1,y.2.an,y.2.ae,y.2.au,y.2.wh⟩):=λh=>⟨d,⟨show 0<=y.2.i+1 by omega,h⟩,a3,a4,a⟩
 have zi:y.2.i+1+1=((nn y.2).next.next.i:Int):=by show _=((y.2.i.toNat+1+1:Nat):Int);omega
 have zo:y.2.an=((nn y.2).next.next.an:Int):=by show _=((y.2.an.toNat:Nat):Int);omega
 have zg:y.2.ae=((nn y.2).next.next.ae:Int):=by show _=((y.2.ae.toNat:Nat):Int);omega
 have p:(nn y.2).i=y.2.i.toNat:=rfl;refine⟨λh=>?_,λh=>⟨⟨o ω,ω,h⟩,λe=>?_,λe=>⟨ω,h,?_⟩⟩⟩
 ·grind [uF]
 ·grind [uG]
 ·have hk:(eC y.1 (nn y.2)).2.1=[]:=ZaH hk.symm;rw[yv ω e] at hk ⊢;have no:=λh=>MA a (s:=(nn y.2).next.next) (nn y.2).i (i:=(nn y.2).i+1) ω h a.w0 hk
  have c:(y.1.getD ((nn y.2).i+1) (0,0)).1=aN y.1 ((nn y.2).i+1):=rfl;rw[c];refine⟨λk=>(no (.inr (.inl k))).elim,λk1=>⟨λk=>(no (.inr (.inr (.inl k)))).elim,λk2=>⟨λk=>(no (.inr (.inr (.inr (.inl k))))).elim,λk3=>⟨λk=>(no (.inr (.inr (.inr (.inr (.inl k)))))).elim,λk4=>⟨λk=>(no (.inr (.inr (.inr (.inr (.inr (.inl k))))))).elim,λk5=>⟨λk=>(no (.inr (.inr (.inr (.inr (.inr (.inr k))))))).elim,λk6=>⟨⟨trivial⟩,λk=>?_,λk=>(no (.inl k)).elim⟩⟩⟩⟩⟩⟩⟩;unfold nv;rw[Zaa k1,Zaa k2,Zaa k3,Zaa k4,Zaa k5,Zaa k6,Zaa (by grind)];exact⟨⟨⟨d,⟨show 0<=y.2.i+1+1 by omega,show y.2.i+1+1<=(y.1.length:Int) by omega⟩,a3,a4,a⟩,a2.1,hi⟩,trivial,rfl,rfl,rfl,rfl,rfl⟩
def qe {k:bp D} {X:Type} {fn:Func} {tab:vU} {a:k.Y->dj D} (e:k.Y->X×Bool) (e2:X×Bool->k.Y) (l:∀y,e2 (e y)=y) {T F:X->Prop} (i:∀x,T x=vc tab fn k a (e2 (x,true))) (h:∀x,F x=vc tab fn k a (e2 (x,false))) (ht:Zi tab)
  (h1:∀x,k.pre (e2 (x,true))->T x) (g:∀x,k.pre (e2 (x,false))->F x) (d:Tryz.prog.funcs[k.f]?=some fn:=by kernel_rfl) (j:fn.body.isSome:=by kernel_rfl):Ok k:=
 ch (V:=λy=>vc tab fn k a y) (λ_=>rfl) ht (λy c=>by
  show vc tab fn k a y
  rw[<-l y] at c ⊢;generalize e y=p at c ⊢;obtain⟨x,b⟩:=p;cases b with
  | true=>rw[<-i];exact h1 x c
  | false=>rw[<-h];exact g x c) d j
def QyR {k:bp D} {X:Type} {T F:X->Prop} (tab:vU) (fn:Func) (a:k.Y->dj D) (e:k.Y->X×Bool) (e2:X×Bool->k.Y) (i:∀y,e2 (e y)=y) (ht:Zi tab) (h1:∀x,k.pre (e2 (x,true))->T x) (c:∀x,k.pre (e2 (x,false))->F x)
  (g:∀x,T x=vc tab fn k a (e2 (x,true)):=by intro x;kernel_rfl) (d:∀x,F x=vc tab fn k a (e2 (x,false)):=by intro x;kernel_rfl) (b:Tryz.prog.funcs[k.f]?=some fn:=by kernel_rfl) (h:fn.body.isSome:=by kernel_rfl):Ok k:=qe e e2 i g d ht h1 c b h
def Qej (a:Ok cW):Ok Ae:=QyR (k:=Ae) (T:=Jh) (F:=Ji) [rH,Ac,FJ,cW,O4] f175 (λ_=>dk ()) id id (λ_=>rfl) ⟨vG,Um,Qeg a,a,QkR⟩ Qk2 Qk1
theorem yw (h:fI G s.i):cj G s=(s.aA G s.i 4,[],false):=Zac h
theorem nL (h:fI G s.i=false) (a:aN G s.i=92):cj G s=eC G s:=(Zaa (by grind)).trans (Zac a)
theorem hI (h:fI G s.i=false) (h0:aN G s.i≠92) (a:aN G s.i=91\/aN G s.i=93\/aN G s.i=45):cj G s=(s,[],false):=(Zaa (by grind)).trans ((Zaa h0).trans (Zac a))
theorem yx (h:fI G s.i=false) (h0:aN G s.i≠92) (a:¬(aN G s.i=91\/aN G s.i=93\/aN G s.i=45)):cj G s=(s.next,[(aN G s.i,aN G s.i)],true):=(Zaa (by grind)).trans ((Zaa h0).trans (Zaa a))
theorem Qk3 (y:PS) (g:Jg.pre (y,false)):Jk y:=by
 obtain⟨h0,hi,hk⟩:=g;have h0:bF y:=h0;have hi:y.2.i<y.1.length:=hi;have hk:false=yu y:=hk;obtain⟨j,a2,a3,a4,l⟩:=id h0;have f:ay IntKind.i64 y.2.i 1=y.2.i+1:=bA ω ω;have d:y.2.i.toNat=(nn y.2).i:=rfl;have zi:y.2.i=((nn y.2).i:Int):=ω;have h:y.2.i+1=((nn y.2).next.i:Int):=by simp_all
 have zo:y.2.an=((nn y.2).an:Int):=by show _=((y.2.an.toNat:Nat):Int);omega
 have zg:y.2.ae=((nn y.2).ae:Int):=by show _=((y.2.ae.toNat:Nat):Int);omega
 have c:(y.1.getD (nn y.2).i (0,0)).1=aN y.1 (nn y.2).i:=rfl;unfold Jk;simp only[bN,ej,f,d,c,aw,gt];refine⟨⟨h0,a2.1,hi⟩,λa=>?_,λa=>⟨a2.1,hi,λb=>⟨λq=>?_,λq=>?_⟩,λb=>?_⟩⟩
 ·grind [yw]
 ·grind [yu,FK,nL]
 ·rw[nL a b];exact⟨⟨h0,hi,q.symm⟩,rfl,rfl,rfl,rfl,rfl,rfl,rfl⟩
 ·refine⟨λk=>⟨λ_=>?_,λk2=>absurd k k2⟩,λk=>⟨λk2=>⟨λ_=>?_,λk3=>absurd k2 k3⟩,λk2=>⟨λk3=>?_,λk3=>?_⟩⟩⟩
  ·rw[hI a b (.inl k)];exact⟨rfl,rfl,zi,zo,zg,rfl,rfl⟩
  ·rw[hI a b (.inr (.inl k2))];exact⟨rfl,rfl,zi,zo,zg,rfl,rfl⟩
  ·rw[hI a b (.inr (.inr k3))];exact⟨rfl,rfl,zi,zo,zg,rfl,rfl⟩
  ·rw[yx a b (λe=>e.elim k λe=>e.elim k2 k3)];exact⟨rfl,rfl,h,zo,zg,rfl,rfl⟩
theorem Qk4 (y:PS) (e:Jg.pre (y,true)):Jj y:=by
 obtain⟨h0,hi,hk⟩:=e;have h0:bF y:=h0;have hi:y.2.i<y.1.length:=hi;have hk:true=yu y:=hk;obtain⟨f,a2,a3,a4,g⟩:=id h0;have d:y.2.i.toNat=(nn y.2).i:=rfl;have zi:y.2.i=((nn y.2).i:Int):=ω;have zo:y.2.an=((nn y.2).an:Int):=by show _=((y.2.an.toNat:Nat):Int);omega
 have zg:y.2.ae=((nn y.2).ae:Int):=by show _=((y.2.ae.toNat:Nat):Int);omega
 have c:(y.1.getD (nn y.2).i (0,0)).1=aN y.1 (nn y.2).i:=rfl;unfold Jj;simp only[bN,ej,Zal,d,c,aw,gt];refine⟨⟨h0,a2.1,hi⟩,λa=>?_,λa=>⟨a2.1,hi,λb=>⟨λq=>?_,λq=>?_⟩,λb=>?_⟩⟩
 ·grind [yw]
 ·rw[nL a b];exact⟨⟨h0,hi,q.symm⟩,rfl,rfl,rfl,rfl,rfl⟩
 ·grind [yu,FK,nL]
 ·refine⟨λk=>⟨λ_=>?_,λk2=>absurd k k2⟩,λk=>⟨λk2=>⟨λ_=>?_,λk3=>absurd k2 k3⟩,λk2=>⟨λk3=>?_,λk3=>?_⟩⟩⟩
  ·rw[hI a b (.inl k)];exact⟨zi,zo,zg,rfl,rfl⟩
  ·rw[hI a b (.inr (.inl k2))];exact⟨zi,zo,zg,rfl,rfl⟩
  ·rw[hI a b (.inr (.inr k3))];exact⟨zi,zo,zg,rfl,rfl⟩
  ·grind [yu,yx]
def Qk5 (a:Ok cW):Ok Jg:=QyR (k:=Jg) (T:=Jj) (F:=Jk) [rH,Ac,Ae] f210 (λ_=>dk ()) id id (λ_=>rfl) ⟨vG,Um,Qej a⟩ Qk4 Qk3
def HD (y:PS):Prop:=y.2.i<y.1.length
def Us:bp D:=yq 198 PS (λy=>y) O6 HD (λ_=>[]) (λy=>zz (eD y.1 (nn y.2)).1) λy=>.list 6 (eD y.1 (nn y.2)).2
def Ut (y:(List (Int×Int))×cm):Prop:=let T:=y.2.i.toNat;let q1:=eD y.1 (nn y.2);let c:=cj y.1 (nn y.2);let I:=(y.1,y.2);let A:=((q1.1.ae:Nat):Int);let E:=((q1.1.i:Nat):Int);let F:=((q1.1.an:Nat):Int);let N:=((c.1.an:Nat):Int);let O:=((c.1.i:Nat):Int);let P:=((c.1.ae:Nat):Int);let G:=!(aE c.1.au 0);let f:=(gt (0,0) c.2.1 0).1;let l:=cm.mk O N P c.1.au c.1.wh;let b:=bt y.1 (nn l) 45;let U:=!(bd y.1 (nn l) 45);let q:=((b.ae:Nat):Int);let r:=((b.an:Nat):Int);let g:=((b.i:Nat):Int);let m:=Ps.aA y.1 (nn l) T 4;let H:=aE b.au 0;let V:=aD g (ab y.1);let u:=cm.mk g r q b.au b.wh;let a:=cj y.1 (nn u);let h:=(y.1,u);let v:=((a.1.i:Nat):Int);let w:=((a.1.an:Nat):Int);let x:=((a.1.ae:Nat):Int);let j:=Ps.aA y.1 (nn u) T 4;let s:=aE a.1.au 0;let k:=(gt (0,0) a.2.1 0).1;let z:=cm.mk v w x a.1.au a.1.wh;let d:=Ps.aA y.1 (nn z) T 4;let Q:=λp:Prop=>aa ([y.2.i,4]:List Int) (aa [y.1] (aa [bU y.1] (aa [v,w,x,a.1.au,a.1.wh] p)));let e:=λp:Prop=>aa [y.1] (aa [bU y.1] p);let R:=λp:Prop=>aa [y.1] (aa [bU y.1] (aa [y.2.i,y.2.an,y.2.ae,y.2.au,y.2.wh] p));let o:=λp:Prop=>aa [a.1.au] p;let S:=λp:Prop=>aa [y.1] (aa [bU y.1] (aa [g,r,q,b.au,b.wh] p));let t:Prop:=(0<=y.2.i/\(y.2.i<(y.1.length:Int)));let n:Prop:=(Tt 1 (aD 0 (ab c.2.1)/\False));let J:Prop:=(e (g=E/\r=F/\q=A/\b.au=q1.1.au/\b.wh=q1.1.wh/\True));let B:Prop:=(e (v=E/\w=F/\x=A/\a.1.au=q1.1.au/\a.1.wh=q1.1.wh/\True));let K:Prop:=(aa [b.au] (Iv (bF h/\t)/\aa ([y.2.i,4]:List Int) (aa [y.1] (aa [bU y.1] (aa [g,r,q,b.au,b.wh] (aj (!(aE j.au 0)) ([]=q1.2/\e (((j.i:Nat):Int)=E/\((j.an:Nat):Int)=F/\((j.ae:Nat):Int)=A/\j.au=q1.1.au/\j.wh=q1.1.wh/\True)) (n)))))));let L:Prop:=(aj (!s) ([]=q1.2/\B) (Tt 1 (aD 0 (ab c.2.1)/\Tt 1 (aD 0 (ab a.2.1)/\aa [f,k] (([(f,k)]:List (Int×Int))=q1.2/\B)))));let C:Prop:=(e (((d.i:Nat):Int)=E/\((d.an:Nat):Int)=F/\((d.ae:Nat):Int)=A/\d.au=q1.1.au/\d.wh=q1.1.wh/\True));let M:Prop:=(o (Iv (bF (y.1,z)/\t)/\Q (aj (!(aE d.au 0)) ([]=q1.2/\C) (n))));let D:Prop:=(Iv (bF (y.1,z)/\t)/\Q (aj (!(aE d.au 0)) ([]=q1.2/\C) (Tt 1 (aD 0 (ab c.2.1)/\Tt 1 (aD 0 (ab a.2.1)/\aa [f,k] (([(f,k)]:List (Int×Int))=q1.2/\C))))));aj (yu I) (Iv (bF I/\O7 (I,true))/\R (aj G ([]=q1.2/\e (O=E/\N=F/\P=A/\c.1.au=q1.1.au/\c.1.wh=q1.1.wh/\True)) (Iv (bF (y.1,l)/\t)/\aa ([y.2.i,4]:List Int) (aa [y.1] (aa [bU y.1] (aa [O,N,P,c.1.au,c.1.wh] ([]=q1.2/\e (((m.i:Nat):Int)=E/\((m.an:Nat):Int)=F/\((m.ae:Nat):Int)=A/\m.au=q1.1.au/\m.wh=q1.1.wh/\True)))))))) (Iv (bF I/\O7 (I,false))/\R (aj G ([]=q1.2/\e (O=E/\N=F/\P=A/\c.1.au=q1.1.au/\c.1.wh=q1.1.wh/\True)) (aD 0 (ab c.2.1)/\Iv (bF (y.1,l)/\True)/\aa ([45]:List Int) (aa [y.1] (aa [bU y.1] (aa [O,N,P,c.1.au,c.1.wh] (aj U (c.2.1=q1.2/\J) (aa [g] (aa [y.1] (aj V (aj (yu h) (Iv (bF h/\O7 (h,true))/\S (aj s (aj (!c.2.2) (M) (aj (!false) (M) (n))) (o (aj (!s) ([]=q1.2/\B) (n))))) (Iv (bF h/\O7 (h,false))/\S (aj s (aj (!c.2.2) (o (D)) (aj (!a.2.2) (o (D)) (Tt 1 (aD 0 (ab c.2.1)/\Tt 1 (aD 0 (ab a.2.1)/\aa [a.1.au,f,k] (aj (aD k f) (D) (L))))))) (o (L))))) (aj H (aj (!c.2.2) (K) (K)) (aa [b.au] (aj (!H) ([]=q1.2/\J) (n))))))))))))))
@[grind=] theorem ez (t:Ps):nn ⟨t.i,t.an,t.ae,t.au,t.wh⟩=t:=rfl
def bF.adv {y:PS} (h:bF y):gJ y.1 (nn y.2) (nn y.2):=by
 obtain⟨_,a,b,c,_⟩:=h;exact gJ.refl (by show y.2.i.toNat<=_;omega) (by show y.2.ae.toNat<=_;omega)
theorem bF.of {y:PS} (h:bF y) (a:gJ y.1 (nn y.2) s):bF (y.1,⟨s.i,s.an,s.ae,s.au,s.wh⟩):=by
 obtain⟨h1,d,f,g,b⟩:=h;have e:s.an=y.2.an.toNat:=a.op;have:=a.len;have:=a.gm;have c:((y.1,(⟨s.i,s.an,s.ae,s.au,s.wh⟩:cm)):PS).1.length=y.1.length:=rfl;exact⟨h1,⟨ZaF _,by grind⟩,⟨ZaF _,by grind⟩,⟨ZaF _,by grind⟩,b⟩
theorem Uu (b:Fx G) (hl:s.i<G.length):(cj G s).2.1=[]->(cj G s).2.2=false:=by
 cases c:fI G s.i with
 | true=>rw[yw c];exact λ_=>rfl
 | false=>
  by_cases d:aN G s.i=92
  ·rw[nL c d];by_cases h1:G.length<=s.i+1
   ·grind [uF]
   ·cases a:fI G (s.i+1) with
    | true=>rw[uG ω a];exact λ_=>rfl
    | false=>
     rw[yv ω a];intro h;have no:=λk=>MA b (s:=s.next.next) s.i (i:=s.i+1) ω k b.w0 h
     grind [nv]
  ·grind [sx.hI,yx]
theorem O8 (h0:G.length<=s.i) (a:List Rg) (one:Bool) (b:Nat):kG G a one b s=if s.au=0 then(s.aA G b 4,[]) else(s,[]):=by
 grind [fJ,kG]
theorem Uv (h:s.i<G.length) (a:List Rg) (one:Bool) (b:Nat):kG G a one b s=if (cj G s).1.au=0 then(if one=false\/(cj G s).2.2=false\/pR (cj G s).2.1<pR a then((cj G s).1.aA G b 4,[]) else((cj G s).1,[(pR a,pR (cj G s).2.1)])) else((cj G s).1,[]):=by
 grind [fJ,kG]
theorem QsB (y:PS) (m:Us.pre y):Ut y:=by
 obtain⟨h0,hi⟩:bF y/\y.2.i<y.1.length:=m;have a0:=h0.adv;have hl:(nn y.2).i<y.1.length:=by show y.2.i.toNat<_;obtain⟨_,n,_⟩:=h0;omega
 have j:(nn y.2).i=y.2.i.toNat:=rfl;have a:=(ny a0 hl).1;have o1:=h0.of a;have t:=h0.of (a.aA y.2.i.toNat 4);have g:=a.skip 45;have q:=h0.of g;have i0:0<=y.2.i:=h0.2.1.1;unfold Ut;simp only[bN,bj,ez,HD,aw,dL,Zd0,Int.ofNat_le];have o:=λh=>Uu h0.2.2.2.2 (s:=bt y.1 (cj y.1 (nn y.2)).1 45) h
 have r:=λh=>h0.of (ny g h).1
 have hk:∀s,yu (y.1,s)=decide ((cj y.1 (nn s)).2.1=[]):=λ_=>rfl
 have f:∀s b,O7 ((y.1,s),b)=(s.i<y.1.length/\b=yu (y.1,s)):=λ_ _=>rfl
 have u:=λ(s:Ps)=>fJ (G:=y.1) s y.2.i.toNat (e:=4) (by decide)
 have c:eD y.1 (nn y.2)=if (cj y.1 (nn y.2)).1.au≠0 then((cj y.1 (nn y.2)).1,[]) else if (cj y.1 (nn y.2)).2.1=[] then((cj y.1 (nn y.2)).1.aA y.1 (nn y.2).i 4,[]) else if bd y.1 (cj y.1 (nn y.2)).1 45 then kG y.1 (cj y.1 (nn y.2)).2.1 (cj y.1 (nn y.2)).2.2 (nn y.2).i (cj y.1 (nn y.2)).1.next else((cj y.1 (nn y.2)).1,(cj y.1 (nn y.2)).2.1):=rfl
 rw[c];simp only[hk,f,ez,j];generalize cj y.1 (nn y.2)=p at*
 have hs:bd y.1 p.1 45->bt y.1 p.1 45=p.1.next:=λh=>Zac h
 clear c hk f;have k:=λh=>Uv (G:=y.1) (s:=p.1.next) (show p.1.i+1<y.1.length from h) p.2.1 p.2.2 y.2.i.toNat
 have d:=λh=>O8 (G:=y.1) (s:=p.1.next) (show y.1.length<=p.1.i+1 from h) p.2.1 p.2.2 y.2.i.toNat
 have l:bd y.1 p.1 45=false->bt y.1 p.1 45=p.1:=λh=>Zaa (by grind)
 with_reducible repeat' first | apply And.intro | intro _
 all_goals first
  | assumption
  | (simp_all [pR,vD,Zbe];done)
  | (simp_all [pR,vD,Zbe];omega)
  | (simp_all [pR,vD,Zbe];simp(disch:=omega) only[Zac,Zaa, *];done)
  | (simp_all [pR,vD,Zbe])
def Qk6 (a:Ok cW):Ok Us:=okZ [Jg,rH,uE] f198 (λ_=>dk ()) ⟨Qk5 a,vG,Bp⟩ QsB
def ϡ (b n:Nat) (l:By):List (Nat×AO D.E):=[(b,.cells [.ptr b 0,.own n 1 (ab l)] 292 false),(n,.arr 0 l 5 false)]
def Uw (b:Nat) (p:AV D.E):List (Nat×AO D.E):=[(b,.cells [p,.dc] 292 false)]
def Ϣ (v:AV D.E) (s:St D.E):C Unit:=match v with
 | .ptr b _=>aB (dg (s.h.get b)) λo=>match o with
  | .cells cs _ _=>match cs with
   | [.fY,.dc]=>.ret ()
   | _=>.fail
  | _=>.fail
 | _=>.fail
def ϣ (v:AV D.E) (s:St D.E):C By:=match v with
 | .ptr b _=>aB (dg (s.h.get b)) λo=>match o with
  | .cells cs _ _=>match cs with
   | [.ptr _ _,l]=>aB (aW D s 0 l) λl=>.ret (l:By)
   | _=>.fail
  | _=>.fail
 | _=>.fail
def Ϥ:bp D:=⟨211,Unit,λa s=>match a with
 | [p]=>Ϣ p s
 | _=>.fail,λ_=>True,λ_=>[.ptr 0 0],λ_=>Uw 0 .fY,λ_=>.tuple [],λ_=>Uw 0 (.ptr 0 0),1,1⟩
def Qk7:bp D:=⟨211,By,λa s=>match a with
 | [p]=>ϣ p s
 | _=>.fail,λ_=>True,λ_=>[.ptr 0 0],λy=>ϡ 0 1 y,λ_=>.tuple [],λy=>ϡ 0 1 y,2,2⟩
def ϥ:bp D:=⟨202,Int,λa s=>match a with
 | [p,c]=>aB (Ϣ p s) λ_=>aP (cQ c) λ_ c=>.ret c
 | _=>.fail,IG,λy=>[.ptr 0 0,.int .u8 y],λ_=>Uw 0 .fY,λ_=>.nilIface,λy=>ϡ 0 1 [UInt8.ofNat y.toNat],1,2⟩
def Ϧ:bp D:=⟨202,By×Int,λa s=>match a with
 | [p,c]=>aB (ϣ p s) λl=>aP (cQ c) λ_ c=>.ret (l,c)
 | _=>.fail,λy=>y.1.length<=1000000/\IG y.2,λy=>[.ptr 0 0,.int .u8 y.2],λy=>ϡ 0 1 y.1,λ_=>.nilIface,λy=>ϡ 0 2 (y.1++[UInt8.ofNat y.2.toNat]),2,3⟩
def ϧ:bp D:=⟨201,Unit,λa s=>match a with
 | [p]=>Ϣ p s
 | _=>.fail,λ_=>True,λ_=>[.ptr 0 0],λ_=>Uw 0 .fY,λ_=>Qyy 0,λ_=>Uw 0 .fY,1,1⟩
def Ϩ:bp D:=⟨201,By,λa s=>match a with
 | [p]=>ϣ p s
 | _=>.fail,λ_=>True,λ_=>[.ptr 0 0],λy=>ϡ 0 1 y,λy=>Qyy (ab y),λy=>ϡ 0 1 y,2,2⟩
def Qk8:bp D:=⟨203,Unit,λa s=>match a with
 | [p]=>Ϣ p s
 | _=>.fail,λ_=>True,λ_=>[.ptr 0 0],λ_=>Uw 0 .fY,λ_=>.str [],λ_=>[],1,1⟩
def Qk9:bp D:=⟨203,By,λa s=>match a with
 | [p]=>ϣ p s
 | _=>.fail,λy=>y≠[],λ_=>[.ptr 0 0],λy=>ϡ 0 1 y,λy=>.str y,λ_=>[],2,2⟩
def yy:bp D:=yq 178 PS (λy=>y) O6 (λ_=>True) (λ_=>[]) (λy=>zz (dK y.1 (nn y.2))) λy=>.tuple [.str (ie y.1 (nn y.2)),.bool (gZ y.1 (nn y.2))]
def Qla (s:cm) (i:Nat):cm:={ s with i:=i }
def uH (y:PS) (i:Nat) (l:By):Prop:=(nn y.2).i<=i/\i<=y.1.length/\l.length<=i/\cB y.1 (y.1.length-i) i l=cB y.1 (y.1.length-(nn y.2).i) (nn y.2).i []
def QsG (y:yy.Y):dj D:=⟨[],[],[],[],1,
 [(60,⟨Unit,λ_=>⟨Nat,[0,4,5],λ_=>[],[],λi=>psO y.1 (Qla y.2 i)++Uw 1 .fY,2,λi=>uH y i [],λi=>y.1.length-i⟩,
  some ⟨Nat×By,[0,4,5],λ_=>[],[],λx=>psO y.1 (Qla y.2 x.1)++ϡ 1 2 x.2,3,λx=>uH y x.1 x.2/\x.2≠[],λx=>y.1.length-x.1⟩⟩)]⟩
end
end sx
end Go.Proofs.YtfkmlhnhkdbjeaaGreat
