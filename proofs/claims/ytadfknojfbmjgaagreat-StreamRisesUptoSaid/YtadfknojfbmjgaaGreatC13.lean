/- StreamRises: a part of the proof. -/
import Derived.Test.YtadfknojfbmjgaaGreatC12
import Derived.Test.YtadfknojfbmjgaaGreatC11
set_option linter.all false
namespace Go.Proofs.YtadfknojfbmjgaaGreat
set_option maxRecDepth 100000
set_option maxHeartbeats 4000000
namespace sx
noncomputable section
open Go Go.RowKit cls syn
variable {i:Nat} {y:List Rg}
def Ri (y:List (Int×Int)):Prop:=let a:=aL y;Iv (y.length<=100000000)/\aa [y] ((∃z:Nat×(List (Int×Int))×Int,aa [a] (aa [ab a] ([]=z.2.1/\0=z.2.2/\0=(z.1:Int)/\(Iv ((z.2.1++ib z.2.2 (List.drop z.1 a))=ib 0 a/\z.1<=a.length/\z.2.1.length=z.1)))))/\(∀x:Nat×(List (Int×Int))×Int,let c:=a.length;let b:=(x.1:Int);let e:=gt (0,0) a b.toNat;let d:=aZ x.2.1 [(x.2.2,1114111)];let f:=aZ x.2.1 [(x.2.2,da .i32 e.1 1)];(Iv ((x.2.1++ib x.2.2 (List.drop x.1 a))=ib 0 a/\x.1<=c/\x.2.1.length=x.1))->ag (ax b (ab a)) (aC 0 b/\ax b (ab a)/\fits (ab f) 8/\∃z:Nat×(List (Int×Int))×Int,aa [a] (aa [ab a] (f=z.2.1/\an .i32 e.2 1=z.2.2/\an .i64 b 1=(z.1:Int)/\(Iv (((z.2.1++ib z.2.2 (List.drop z.1 a))=ib 0 a/\z.1<=c/\z.2.1.length=z.1)/\(c-z.1)<(c-x.1)))))) (fits (ab d) 8/\Iv (d.length<=100000000)/\aa [d] (aL d=lB y/\True))))
def Rj (y:(List (Int×Int))×(List (Int×Int))):Prop:=let a:=ab y.1;let b:=y.1.length;let f:=!(az a (ab y.2));let e:=decide (y.1=y.2);(aC a 9223372036854775807)->ag f (false=e/\True) ((∃z:Nat,aa [y.1,y.2] (aa [a] (0=(z:Int)/\(Iv (z<=b/\List.take z y.1=List.take z y.2)))))/\(∀x:Nat,let c:=gt (0,0) y.1 (x:Int).toNat;let d:=gt (0,0) y.2 (x:Int).toNat;let g:=!((az c.1 d.1)&&(az c.2 d.2));(Iv (x<=b/\List.take x y.1=List.take x y.2))->ag (ax (x:Int) a) (aC 0 (x:Int)/\ax (x:Int) a/\aC 0 (x:Int)/\ax (x:Int) (ab y.2)/\aa [c.1,c.2,d.1,d.2] (ag g (false=e/\True) (∃z:Nat,aa [y.1,y.2] (aa [a] (an .i64 (x:Int) 1=(z:Int)/\(Iv ((z<=b/\List.take z y.1=List.take z y.2)/\(b-z)<(b-x)))))))) (true=e/\True)))
def Rk (y:List (Int×Int)):Prop:=let a:=decide (y=aL y);Iv (y.length<=100000000)/\aa [y] (Iv True/\aa [y] (aa [aL y] (aa [a] (True))))
def Kx (y:(List (Int×Int))×Int):Prop:=let a:=y.1.length;let c:=ab y.1;let b:=hasB y.1 y.2;let f:=λp:Prop=>aa [y.2] (aa [y.1] (aa [c] p));(aC c 9223372036854775807)->(∃z:Nat,f (0=(z:Int)/\(Iv (z<=a/\b=hasB (List.drop z y.1) y.2))))/\(∀x:Nat,let d:=gt (0,0) y.1 (x:Int).toNat;let e:Prop:=(∃z:Nat,f (an .i64 (x:Int) 1=(z:Int)/\(Iv ((z<=a/\b=hasB (List.drop z y.1) y.2)/\(a-z)<(a-x)))));(Iv (x<=a/\b=hasB (List.drop x y.1) y.2))->ag (ax (x:Int) c) (aC 0 (x:Int)/\ax (x:Int) c/\ag (aC d.1 y.2) (ag (aC y.2 d.2) (true=b/\True) (e)) (e)) (false=b/\True))
def Hk (y:(List (Int×Int))×Int):Prop:=let a:=y.1.length;let c:=ab y.1;let b:=hasB y.1 y.2;let f:=λp:Prop=>aa [y.1] (aa [y.2] p);(aC c 9223372036854775807)->(∃z:Nat,f (0=(z:Int)/\(Iv (z<=a/\b=hasB (List.drop z y.1) y.2))))/\(∀x:Nat,let d:=gt (0,0) y.1 (x:Int).toNat;let e:Prop:=(∃z:Nat,f (an .i64 (x:Int) 1=(z:Int)/\(Iv ((z<=a/\b=hasB (List.drop z y.1) y.2)/\(a-z)<(a-x)))));(Iv (x<=a/\b=hasB (List.drop x y.1) y.2))->ag (ax (x:Int) c) (aC 0 (x:Int)/\ax (x:Int) c/\ag (aC d.1 y.2) (aC 0 (x:Int)/\ax (x:Int) c/\ag (aC y.2 d.2) (true=b/\True) (e)) (e)) (false=b/\True))
def Hl (y:List (Int×Int)):Prop:=let v:=(cP y).length;let g:=y.length;let f:=ab y;let s:=λp:Prop=>aa [y] p;(∃z:Nat,s (ab [0,55296,57344,1114112]=ab (dr y z)/\0=(z:Int)/\[0,55296,57344,1114112]=dr y z/\(Iv (z<=g))))/\(∀x:Nat,let n:=dr y x;let a:=gt (0,0) y (x:Int).toNat;let r:=aZ n [a.1];let t:=([an .i32 a.2 1]:List Int);let w:=ab (aZ n t);let A:=ab (aZ r t);let o:=λp:Prop=>aa [a.1,a.2] p;let k:Prop:=(∃z:Nat,s (ab n=ab (dr y z)/\an .i64 (x:Int) 1=(z:Int)/\n=dr y z/\(Iv (z<=g/\(g-z)<(g-x)))));let l:Prop:=(∃z:Nat,s (ab r=ab (dr y z)/\an .i64 (x:Int) 1=(z:Int)/\r=dr y z/\(Iv (z<=g/\(g-z)<(g-x)))));let m:Prop:=(aC 0 (x:Int)/\ax (x:Int) f/\aC 0 (x:Int)/\ax (x:Int) f/\ag (aC a.1 a.2) (aC 0 (x:Int)/\ax (x:Int) f/\ag (aC 0 a.2) (aC 0 (x:Int)/\ax (x:Int) f/\aa [a.1,a.2,a.2,a.2] (ag (ax a.2 1114111) (aC 0 (x:Int)/\ax (x:Int) f/\fits w 4/\∃z:Nat,s (w=ab (dr y z)/\an .i64 (x:Int) 1=(z:Int)/\aZ n t=dr y z/\(Iv (z<=g/\(g-z)<(g-x))))) (k))) (aa [a.1,a.2,a.2] (k))) (o (k)));(Iv (x<=g))->ag (ax (x:Int) f) (aC 0 (x:Int)/\ax (x:Int) f/\aC 0 (x:Int)/\ax (x:Int) f/\ag (aC a.1 a.2) (aC 0 (x:Int)/\ax (x:Int) f/\ag (aC 0 a.1) (aC 0 (x:Int)/\ax (x:Int) f/\aa [a.1,a.2,a.1,a.1] (ag (aC a.1 1114111) (aC 0 (x:Int)/\ax (x:Int) f/\fits (ab r) 4/\aC 0 (x:Int)/\ax (x:Int) f/\aC 0 (x:Int)/\ax (x:Int) f/\ag (aC a.1 a.2) (aC 0 (x:Int)/\ax (x:Int) f/\ag (aC 0 a.2) (aC 0 (x:Int)/\ax (x:Int) f/\aa [a.1,a.2,a.2,a.2] (ag (ax a.2 1114111) (aC 0 (x:Int)/\ax (x:Int) f/\fits A 4/\∃z:Nat,s (A=ab (dr y z)/\an .i64 (x:Int) 1=(z:Int)/\aZ r t=dr y z/\(Iv (z<=g/\(g-z)<(g-x))))) (l))) (aa [a.1,a.2,a.2] (l))) (o (l))) (m))) (aa [a.1,a.2,a.1] (m))) (o (m))) ((∃z:Nat×(List Int),ab n=ab z.2/\1=(z.1:Int)/\n=z.2/\(Iv (1<=z.1/\z.1<=z.2.length/\List.Perm z.2 (cP y)/\DT z.2 z.1)))/\(∀x1:Nat×(List Int),let h:=(x1.1:Int);let u:=ax h (ab x1.2);(Iv (1<=x1.1/\x1.1<=x1.2.length/\List.Perm x1.2 (cP y)/\DT x1.2 x1.1))->ag u (∃z:Nat×(List Int),(∃b:Nat×(List Int),aa [h] (ab x1.2=ab b.2/\h=(b.1:Int)/\x1.2=b.2/\(Iv (b.1<=z.1/\z.1<b.2.length/\List.Perm b.2 (cP y)/\o4 b.2 b.1 z.1))))/\(∀e:Nat×(List Int),let c:=(e.1:Int);let d:=da .i64 c 1;let i:=gt 0 e.2 c.toNat;let j:=gt 0 e.2 d.toNat;let q:Prop:=(∃b:Nat×(List Int),ab e.2=ab b.2/\an .i64 h 1=(b.1:Int)/\e.2=b.2/\(Iv ((1<=b.1/\b.1<=b.2.length/\List.Perm b.2 (cP y)/\DT b.2 b.1)/\(v-b.1)<(v-x1.1))));(Iv (e.1<=z.1/\z.1<e.2.length/\List.Perm e.2 (cP y)/\o4 e.2 e.1 z.1))->ag (ax 0 c) (aC 0 d/\ax d (ab e.2)/\aC 0 c/\ax c (ab e.2)/\aa [j,i] (ag (ax i j) (aC 0 c/\ax c (ab e.2)/\aC 0 d/\ax d (ab e.2)/\aC 0 d/\ax d (ab e.2)/\aC 0 c/\ax c (ab e.2)/\aa [i,j] (∃b:Nat×(List Int),aa [h] (ab e.2=ab b.2/\d=(b.1:Int)/\cA (cA e.2 d.toNat i) c.toNat j=b.2/\(Iv ((b.1<=z.1/\z.1<b.2.length/\List.Perm b.2 (cP y)/\o4 b.2 b.1 z.1)/\b.1<e.1))))) (q))) (q))) (x1.2=a8 y/\True))))
def Rq (y:(List (Int×Int))×Int×Int):Prop:=let b:=ab y.1;let a:=da .i64 b 1;let c:=b5 y.1 y.2.1 y.2.2;let d:=aZ y.1 [(y.2.1,y.2.2)];let e:=gt (0,0) y.1 a.toNat;let g:=az (an .i32 e.2 1) y.2.1;let f:Prop:=(fits (ab d) 8/\ab d=ab c/\d=c/\True);ag (ax 0 b) (aC 0 a/\ax a b/\ag g (aC 0 a/\ax a b/\b=ab c/\cA y.1 a.toNat (e.1,y.2.2)=c/\True) (f)) (f)
def Hm (y:List (Int×Int)):Prop:=let f:=a8 y;let c:=f.length;let e:=ab f;let n:=λp:Prop=>aa [y] (aa [f] p);Iv (y.length<=2000000)/\aa [y] ((∃z:Nat,let o:=dw (hasB y) f z;n (0=ab o/\0=(z:Int)/\[]=o/\(Iv ((z+1)<=c))))/\(∀x:Nat,let b:=dw (hasB y) f x;let d:=an .i64 (x:Int) 1;let a:=gt 0 f (x:Int).toNat;let h:=gt 0 f d.toNat;let i:=da .i32 h 1;let g:Prop:=(∃z:Nat,let j:=dw (hasB y) f z;n (ab b=ab j/\d=(z:Int)/\b=j/\(Iv ((z+1)<=c/\(c-z)<(c-x)))));let q:Prop:=(aa [a,a] (ag (hasB y a) (aC 0 (x:Int)/\ax (x:Int) e/\aC 0 d/\ax d e/\Iv (Ya b)/\aa [ab b,a,i] (aa [b] (aa [a,h] (∃z:Nat,let k:=dw (hasB y) f z;n (ab (b5 b a i)=ab k/\d=(z:Int)/\b5 b a i=k/\(Iv ((z+1)<=c/\(c-z)<(c-x)))))))) (g)));(Iv ((x+1)<=c))->ag (ax d e) (aC 0 (x:Int)/\ax (x:Int) e/\aC 0 d/\ax d e/\ag (ax a h) (aC 0 (x:Int)/\ax (x:Int) e/\ag (ax a 55296) (aC 0 (x:Int)/\ax (x:Int) e/\Iv True/\aa [y] (aa [a,a,h,a,a] (ag (hasB y a) (aC 0 (x:Int)/\ax (x:Int) e/\aC 0 d/\ax d e/\Iv (Ya b)/\aa [ab b,a,i] (aa [b] (aa [a,h] (∃z:Nat,let l:=dw (hasB y) f z;n (ab (b5 b a i)=ab l/\d=(z:Int)/\b5 b a i=l/\(Iv ((z+1)<=c/\(c-z)<(c-x)))))))) (g)))) (aC 0 (x:Int)/\ax (x:Int) e/\ag (ax 57343 a) (aC 0 (x:Int)/\ax (x:Int) e/\Iv True/\aa [y] (aa [a,a,h,a,a,a] (ag (hasB y a) (aC 0 (x:Int)/\ax (x:Int) e/\aC 0 d/\ax d e/\Iv (Ya b)/\aa [ab b,a,i] (aa [b] (aa [a,h] (∃z:Nat,let m:=dw (hasB y) f z;n (ab (b5 b a i)=ab m/\d=(z:Int)/\b5 b a i=m/\(Iv ((z+1)<=c/\(c-z)<(c-x)))))))) (g)))) (aa [a,h,a,a] (g)))) (aa [a,h] (g))) (b=aL y/\True)))
def Hn (y:List (Int×Int)):Prop:=let f:=a8 y;let c:=f.length;let e:=ab f;let n:=λp:Prop=>aa [y] (aa [f] p);Iv (y.length<=2000000)/\aa [y] ((∃z:Nat,let o:=dw (λ(r:Int)=>!(hasB y r)) f z;n (0=ab o/\0=(z:Int)/\[]=o/\(Iv ((z+1)<=c))))/\(∀x:Nat,let b:=dw (λ(r:Int)=>!(hasB y r)) f x;let d:=an .i64 (x:Int) 1;let a:=gt 0 f (x:Int).toNat;let h:=gt 0 f d.toNat;let i:=da .i32 h 1;let g:Prop:=(∃z:Nat,let j:=dw (λ(r:Int)=>!(hasB y r)) f z;n (ab b=ab j/\d=(z:Int)/\b=j/\(Iv ((z+1)<=c/\(c-z)<(c-x)))));let q:Prop:=(aa [a,a] (ag (!(hasB y a)) (aC 0 (x:Int)/\ax (x:Int) e/\aC 0 d/\ax d e/\Iv (Ya b)/\aa [ab b,a,i] (aa [b] (aa [a,h] (∃z:Nat,let k:=dw (λ(r:Int)=>!(hasB y r)) f z;n (ab (b5 b a i)=ab k/\d=(z:Int)/\b5 b a i=k/\(Iv ((z+1)<=c/\(c-z)<(c-x)))))))) (g)));(Iv ((x+1)<=c))->ag (ax d e) (aC 0 (x:Int)/\ax (x:Int) e/\aC 0 d/\ax d e/\ag (ax a h) (aC 0 (x:Int)/\ax (x:Int) e/\ag (ax a 55296) (aC 0 (x:Int)/\ax (x:Int) e/\Iv True/\aa [y] (aa [a,a,h,a,a] (ag (!(hasB y a)) (aC 0 (x:Int)/\ax (x:Int) e/\aC 0 d/\ax d e/\Iv (Ya b)/\aa [ab b,a,i] (aa [b] (aa [a,h] (∃z:Nat,let l:=dw (λ(r:Int)=>!(hasB y r)) f z;n (ab (b5 b a i)=ab l/\d=(z:Int)/\b5 b a i=l/\(Iv ((z+1)<=c/\(c-z)<(c-x)))))))) (g)))) (aC 0 (x:Int)/\ax (x:Int) e/\ag (ax 57343 a) (aC 0 (x:Int)/\ax (x:Int) e/\Iv True/\aa [y] (aa [a,a,h,a,a,a] (ag (!(hasB y a)) (aC 0 (x:Int)/\ax (x:Int) e/\aC 0 d/\ax d e/\Iv (Ya b)/\aa [ab b,a,i] (aa [b] (aa [a,h] (∃z:Nat,let m:=dw (λ(r:Int)=>!(hasB y r)) f z;n (ab (b5 b a i)=ab m/\d=(z:Int)/\b5 b a i=m/\(Iv ((z+1)<=c/\(c-z)<(c-x)))))))) (g)))) (aa [a,h,a,a] (g)))) (aa [a,h] (g))) (b=lB y/\True)))
def Ho (y:List (Int×Int)):Prop:=let a:=aL y;let b:=y.length;let g:=!(az (ab a) (ab y));let e:Prop:=(false=decide (y=a)/\True);Iv (b<=2000000)/\aa [y] (ag g (e) ((∃z:Nat,aa [y] (aa [a] (0=(z:Int)/\(Iv (z<=b/\List.take z a=List.take z y)))))/\(∀x:Nat,let f:=ax (x:Int) (ab y);let c:=gt (0,0) y (x:Int).toNat;let d:=gt (0,0) a (x:Int).toNat;let h:=!((az d.1 c.1)&&(az d.2 c.2));(Iv (x<=b/\List.take x a=List.take x y))->ag f (aC 0 (x:Int)/\ax (x:Int) (ab a)/\aC 0 (x:Int)/\f/\aa [d.1,d.2,c.1,c.2] (ag h (e) (∃z:Nat,aa [y] (aa [a] (an .i64 (x:Int) 1=(z:Int)/\(Iv ((z<=b/\List.take z a=List.take z y)/\(b-z)<(b-x)))))))) (true=decide (y=a)/\True))))
def Qeg (h:i<y.length) (r:Int):hasB (y.drop i) r=((decide ((y.getD i (0,0)).1<=r)&&decide (r<=(y.getD i (0,0)).2))||hasB (y.drop (i+1)) r):=P' (getD_eq h (0,0)) r
theorem Qh3 (y:List Rg×Int) (a:Hi.pre y):Kx y:=by
 obtain⟨l,r⟩:=y;unfold Kx;simp only[QaU,Qbt,aj,gt,Zad];intro hl;refine⟨⟨0,rfl,⟨Zaj _,rfl⟩⟩,λi hi=>?_⟩;obtain⟨h1,b⟩:=hi.out;rw[b];refine⟨λh=>⟨ω,h,?_⟩,λh=>?_⟩
 ·rw[Qeg (show i<l.length by omega)];grind
 ·rw[Zbu ω];rfl
def Qh4:Ok Hi:=okZ [] Tryz.f157 Qol trivial Qh3
theorem Qh5 (y:List Rg×Int) (a:xt.pre y):Hk y:=by
 have hs:=Qh3 y a;unfold Hk;unfold Kx at hs;simp only[QaU,Qbt,aj,gt,Zad] at hs ⊢;intro hl;replace hs:=(hs hl).2;grind
def Ru:Ok xt:=okZ [] Tryz.f184 QhS trivial Qh5
theorem Au {α:Type} {a b:List α} (d:α) (c:i<a.length) (f:i<b.length) (h:a.take i=b.take i) (e:a.getD i d=b.getD i d):a.take (i+1)=b.take (i+1):=by
 grind [List.take_succ]
theorem Qor (y:List Rg×List Rg) (c:Eg.pre y):Rj y:=by
 obtain⟨a,b⟩:=y;unfold Rj;simp only[QaU,Qbt,aj,gt,Zad,Zan,Zao,ZaW,Zbz];grind [Au]
def Qb1:Ok Eg:=okZ [] Tryz.f170 Qoh trivial Qor
def Qos (y:List Rg) (a:Eh.pre y):Rk y:=by
 unfold Rk;simp only[Qbt];exact⟨⟨a⟩,⟨trivial⟩⟩
def Qb2 (h:Ok dc):Ok Eh:=okZ [dc,Eg] Tryz.f140 Qoj ⟨h,Qb1⟩ Qos
def Yg {l:List Rg} (h:i<(aL l).length):tg ((aL l).getD i (0,0)):=(dN l).1.1 _ (ZaJ (getD_eq h (0,0)))
def Rv (l:List Rg):(aL l).length<=2*l.length:=(dN l).2.2
theorem Qot (y:List Rg) (a:Hh.pre y):Ri y:=by
 have a:y.length<=1000000:=a;have f:=Rv y;unfold Ri;simp only[QaU,Qbt,aj,aO,aU,gt,Zad];refine⟨⟨ω⟩,⟨(0,[],0),rfl,rfl,rfl,⟨rfl,Zaj _,rfl⟩⟩,λx c=>?_⟩;obtain⟨i,out,nx⟩:=x;obtain⟨h1,d,e⟩:=c.out;simp only at*
 refine⟨λh=>?_,λh=>?_⟩
 ·obtain⟨g1,g2,g3,_⟩:=Yg (l:=y) (i:=i) ω;have b:da .i32 ((aL y).getD i (0,0)).1 1=((aL y).getD i (0,0)).1-1:=dF (cB.2 ⟨by show(-2147483648:Int)<=_;omega,by show _<=(2147483647:Int);omega⟩);have e2:an .i32 ((aL y).getD i (0,0)).2 1=((aL y).getD i (0,0)).2+1:=dF (cB.2 ⟨by show(-2147483648:Int)<=_;omega,by show _<=(2147483647:Int);omega⟩);refine⟨ω,h,by simp;omega,(i+1,out++[(nx,((aL y).getD i (0,0)).1-1)],((aL y).getD i (0,0)).2+1),by rw[b],e2,aV ω ω,⟨⟨?_,ω,by grind⟩,ω⟩⟩;grind [List.drop_eq_getElem_cons,ib]
 ·rw[Zbu ω] at h1;have h1:out++[(nx,1114111)]=ib 0 (aL y):=h1;rw[h1];have:=z6 0 (aL y);exact⟨ω,⟨ω⟩,rfl⟩
def Qb3 (h:Ok dc):Ok Hh:=okZ [dc] Tryz.f188 Qof h Qot
theorem Qou (y:List Rg×Int×Int) (d:Hj.pre y):Rq y:=by
 obtain⟨l,lo,hi⟩:=y;obtain⟨h1,c⟩:Ya l:=d;unfold Rq;simp only[QaU,tm,Zai,aj,aO,aU,gt];have a:(((l++[(lo,hi)]).length:Nat):Int)*((8:Nat):Int)<=140737488355328:=by grind
 rcases Zcu l with rfl | ⟨m,p,rfl⟩
 ·exact⟨λh=>absurd h (by simp),λ_=>⟨a,rfl,rfl⟩⟩
 ·simp only[Zcv] at*
  have f:=c p (by simp);have b:da .i64 ((m++[p]).length:Int) 1=m.length:=by grind
  rw[b,Zad];have e:(m++[p]).getD m.length (0,0)=p:=by simp
  have e2:an .i32 p.2 1=p.2+1:=dF (cB.2 ⟨by show(-2147483648:Int)<=_;omega,by show _<=(2147483647:Int);omega⟩);grind [b5,cA]
def Qb4:Ok Hj:=okZ [] Tryz.f185 Qop trivial Qou
def Ei {a b:List Int} (h:a.Perm b) (c:a.Pairwise (· <= ·)) (d:b.Pairwise (· <= ·)):a=b:=List.Perm.eq_of_pairwise (le:=λx y=>x<=y) (λ_ _ _ _ h1 e=>ω) c d h
def Hq (m:List Int):(Kw m).Perm m:=List.mergeSort_perm m _
theorem B0 (m:List Int):(Kw m).Pairwise (· <= ·):=by
 grind [List.pairwise_mergeSort,Kw]
theorem gh (y:List Rg):(a8 y).Perm (cP y):=Hq _
theorem jx (y:List Rg):(a8 y).Pairwise (· <= ·):=B0 _
theorem qU (y:List Rg):4<=(a8 y).length/\(a8 y).length<=4+2*y.length:=by
 rw[(gh y).length_eq];unfold cP;have:=fA kO 2 tj y;grind
def sj (h:i<(a8 y).length):0<=(a8 y).getD i 0/\(a8 y).getD i 0<=1114112:=mH _ ((gh y).mem_iff.1 (ZaJ (getD_eq h 0)))
theorem MW (y:List Rg):dw (hasB y) (a8 y) ((a8 y).length-1)=aL y:=by
 grind [DW,gh,jx,z_,DX]
theorem Rw (y:List Rg):dw (λr=>!hasB y r) (a8 y) ((a8 y).length-1)=lB y:=by
 have hs:Kk (λr=>!hasB y r) (a8 y):=λk hk r h1 a=>by
  have:=z_ (gh y) (jx y) k hk r h1 a;grind
 grind [DW,gh,jx,Xz]
def Ky (b:y.length<=2000000) (c:Int->Bool) (h:i+1<=(a8 y).length):Ya (dw c (a8 y) i):=by
 have:=Qh c (a8 y) i;have hl:=qU y;refine⟨ω,Xy (λx a=>?_) i h⟩;exact mH _ ((gh y).mem_iff.1 a)
theorem Kz (c:Int->Bool) (m:List Int) (i:Nat):dw c m (i+1)=if m.getD i 0<m.getD (i+1) 0/\(m.getD i 0<55296\/57343<m.getD i 0)/\c (m.getD i 0)=true then b5 (dw c m i) (m.getD i 0) (m.getD (i+1) 0-1) else dw c m i:=by
 show(if Qg c m i=true then _ else _)=_
 grind [Qg]
theorem Qh6 (y:List Rg) (c:lP.pre y):Hm y:=by
 have c:y.length<=2000000:=c;have hl:=qU y;unfold Hm;simp only[QaU,Qbt,aj,gt,Zad];refine⟨⟨c⟩,⟨0,rfl,rfl,rfl,⟨ω⟩⟩,λi hi=>?_⟩;have hi:=hi.out;have j:an .i64 (i:Int) 1=((i+1:Nat):Int):=aV ω ω;rw[j,Zad];refine⟨λh=>?_,λh=>?_⟩
 ·obtain⟨l,a2⟩:=sj (y:=y) (i:=i) ω;obtain⟨b1,m⟩:=sj (y:=y) (i:=i+1) ω;have k:=Kz (hasB y) (a8 y) i;have e2:da .i32 ((a8 y).getD (i+1) 0) 1=(a8 y).getD (i+1) 0-1:=dF (cB.2 ⟨by show(-2147483648:Int)<=_;omega,by show _<=(2147483647:Int);omega⟩);have g:=Ky c (hasB y) hi;rw[e2];generalize (a8 y).getD i 0=A at*
  generalize (a8 y).getD (i+1) 0=B at*
  have go:A<B/\(A<55296\/57343<A)/\hasB y A->∃z:Nat,((b5 (dw (hasB y) (a8 y) i) A (B-1)).length:Int)=((dw (hasB y) (a8 y) z).length:Int)/\((i+1:Nat):Int)=(z:Int)/\b5 (dw (hasB y) (a8 y) i) A (B-1)=dw (hasB y) (a8 y) z/\Iv (z+1<=(a8 y).length/\(a8 y).length-z<(a8 y).length-i):=λa=>by
   grind
  have no:¬(A<B/\(A<55296\/57343<A)/\hasB y A)->∃z:Nat,((dw (hasB y) (a8 y) i).length:Int)=((dw (hasB y) (a8 y) z).length:Int)/\((i+1:Nat):Int)=(z:Int)/\dw (hasB y) (a8 y) i=dw (hasB y) (a8 y) z/\Iv (z+1<=(a8 y).length/\(a8 y).length-z<(a8 y).length-i):=λa=>by
   rw[Zaa a] at k;grind
  refine⟨ω,ω,ω,h,λd=>⟨ω,ω,λe=>⟨ω,ω,⟨trivial⟩,λb=>⟨ω,ω,ω,h,⟨g⟩,go ⟨d,.inl e,b⟩⟩,λb=>no λa=>by grind⟩,λe=>⟨ω,ω,λf=>⟨ω,ω,⟨trivial⟩,λb=>⟨ω,ω,ω,h,⟨g⟩,go ⟨d,.inr f,b⟩⟩,λb=>no λa=>by grind⟩,λf=>no λa=>ω⟩⟩,λd=>no λa=>ω⟩
 ·grind [MW]
def Hr (h:Ok kS):Ok lP:=okZ [kS,xt,Hj] Tryz.f151 QhX ⟨h,Ru,Qb4⟩ Qh6
theorem Qh7 (y:List Rg) (b:o_.pre y):Hn y:=by
 have b:y.length<=2000000:=b;have hl:=qU y;unfold Hn;simp only[QaU,Qbt,Zan,Zao,aj,gt,Zad];refine⟨⟨b⟩,⟨0,rfl,rfl,rfl,⟨ω⟩⟩,λi hi=>?_⟩;have hi:=hi.out;have j:an .i64 (i:Int) 1=((i+1:Nat):Int):=aV ω ω;rw[j,Zad];refine⟨λh=>?_,λh=>?_⟩
 ·obtain⟨l,a2⟩:=sj (y:=y) (i:=i) ω;obtain⟨b1,m⟩:=sj (y:=y) (i:=i+1) ω;have k:=Kz (λr=>!hasB y r) (a8 y) i;have e2:da .i32 ((a8 y).getD (i+1) 0) 1=(a8 y).getD (i+1) 0-1:=dF (cB.2 ⟨by show(-2147483648:Int)<=_;omega,by show _<=(2147483647:Int);omega⟩);have g:=Ky b (λr=>!hasB y r) hi;rw[e2];generalize (a8 y).getD i 0=A at*
  generalize (a8 y).getD (i+1) 0=B at*
  have go:A<B/\(A<55296\/57343<A)/\(!hasB y A)->∃z:Nat,((b5 (dw (λr=>!hasB y r) (a8 y) i) A (B-1)).length:Int)=((dw (λr=>!hasB y r) (a8 y) z).length:Int)/\((i+1:Nat):Int)=(z:Int)/\b5 (dw (λr=>!hasB y r) (a8 y) i) A (B-1)=dw (λr=>!hasB y r) (a8 y) z/\Iv (z+1<=(a8 y).length/\(a8 y).length-z<(a8 y).length-i):=λa=>by
   grind
  have no:¬(A<B/\(A<55296\/57343<A)/\(!hasB y A))->∃z:Nat,((dw (λr=>!hasB y r) (a8 y) i).length:Int)=((dw (λr=>!hasB y r) (a8 y) z).length:Int)/\((i+1:Nat):Int)=(z:Int)/\dw (λr=>!hasB y r) (a8 y) i=dw (λr=>!hasB y r) (a8 y) z/\Iv (z+1<=(a8 y).length/\(a8 y).length-z<(a8 y).length-i):=λa=>by
   rw[Zaa a] at k;grind
  refine⟨ω,ω,ω,h,λc=>⟨ω,ω,λe=>⟨ω,ω,⟨trivial⟩,λd=>⟨ω,ω,ω,h,⟨g⟩,go ⟨c,.inl e,by grind⟩⟩,λd=>no λa=>by grind⟩,λe=>⟨ω,ω,λf=>⟨ω,ω,⟨trivial⟩,λd=>⟨ω,ω,ω,h,⟨g⟩,go ⟨c,.inr f,by grind⟩⟩,λd=>no λa=>by grind⟩,λf=>no λa=>ω⟩⟩,λc=>no λa=>ω⟩
 ·grind [Rw]
def Qeh (h:Ok kS):Ok o_:=okZ [kS,xt,Hj] Tryz.f178 QhZ ⟨h,Ru,Qb4⟩ Qh7
theorem Qh8 (y:List Rg) (a:As.pre y):Ho y:=by
 have a:y.length<=2000000:=a;unfold Ho;simp only[QaU,Qbt,aj,gt,Zad,Zan,Zao,ZaW,Zbz];grind [Au]
def Qei (h:Ok kS):Ok As:=okZ [lP] Tryz.f150 Qh1 (Hr h) Qh8
theorem Hs (h:i<=y.length):(dr y i).length<=4+2*y.length:=by
 unfold dr;have:=fA kO 2 tj (y.take i);grind
theorem Ej (h:i<y.length):dr y (i+1)=dr y i++kO (y.getD i (0,0)):=by
 grind [dr,List.take_succ]
theorem Qh9 (y:List Rg) (p:kS.pre y):Hl y:=by
  have p:y.length<=2000000:=p;unfold Hl;simp only[QaU,Qbt,aj,aO,aU,gt,Zad];refine⟨⟨0,by rfl,rfl,by rfl,⟨Zaj _⟩⟩,λi hi=>⟨λh=>?_,λh=>⟨⟨(1,dr y i),rfl,rfl,rfl,⟨Zah _,?_,?_,?_⟩⟩,λx o=>⟨λj=>⟨(x.1,x.2),⟨(x.1,x.2),rfl,rfl,rfl,?_⟩,λz hz=>?_⟩,λj=>?_⟩⟩⟩⟩
  · have hi:=hi.out;have hs:=Ej (y:=y) (i:=i) ω;have hl:=Hs (y:=y) (i:=i) ω;have fin:∀L:List Int,L=dr y i++kO (y.getD i (0,0))->∃z:Nat,(L.length:Int)=((dr y z).length:Int)/\an .i64 (i:Int) 1=(z:Int)/\L=dr y z/\Iv (z<=y.length/\y.length-z<y.length-i):=λL v=>by
      grind
    generalize y.getD i (0,0)=A at*
    obtain⟨lo,c⟩:=A;have f:0<=c->c<1114111->an .i32 c 1=c+1:=λa b=>dF (cB.2 ⟨by show(-2147483648:Int)<=_;omega,by show _<=(2147483647:Int);omega⟩)
    have F:∀(a b:Bool),m1 (lo,c)=a->m2 (lo,c)=b->kO (lo,c)=(if a=true then[lo] else[])++(if b=true then[c+1] else[]):=λa b g e2=>by grind [kO]
    repeat' first | (intro _) | (apply And.intro)
    all_goals first
      | omega
      | (simp only[Zab,Zae,Zak];omega)
      | (refine fin _ ?_
         first
           | (rw[F true true (by simp[m1];omega) (by simp[m2];omega),f ω ω];simp;done)
           | (rw[F true false (by simp[m1];omega) (by simp[m2];omega)];simp;done)
           | (rw[F false true (by simp[m1];omega) (by simp[m2];omega),f ω ω];simp;done)
           | (rw[F false false (by simp[m1];omega) (by simp[m2];omega)];simp;done))
  · grind [dr]
  · grind [dr,cP]
  · intro a b h1 j;omega
  · grind [BS]
  · obtain⟨i2,m⟩:=x;obtain⟨q,r,l,e⟩:=o.out;obtain⟨k,d⟩:=z;obtain⟨g1,g2,g3,g4⟩:=hz.out;have u:d.length=(cP y).length:=g3.length_eq;have t:(cP y).length<=4000004:=by
      have:=fA kO 2 tj y;unfold cP;grind
    simp only at*
    have out:(k=0\/d.getD (k-1) 0<=d.getD k 0)->∃z:Nat×List Int,(d.length:Int)=(z.2.length:Int)/\an .i64 (i2:Int) 1=(z.1:Int)/\d=z.2/\Iv ((1<=z.1/\z.1<=z.2.length/\z.2.Perm (cP y)/\DT z.2 z.1)/\(cP y).length-z.1<(cP y).length-i2):=λhk=>
      ⟨(i2+1,d),rfl,aV ω ω,rfl,⟨⟨ω,by assumption,g3,GN g4 hk⟩,ω⟩⟩
    refine⟨λs=>?_,λs=>out (.inl ω)⟩;have g:da .i64 (k:Int) 1=((k-1:Nat):Int):=by grind
    rw[g,Zad];refine⟨ω,ω,ω,ω,λn=>⟨ω,ω,ω,ω,ω,ω,ω,ω,(k-1,swap d (k-1)),?_,rfl,?_,⟨⟨ω,?_,(swap_perm d (k-1) ω).trans g3,?_⟩,ω⟩⟩,λn=>out (.inr n)⟩
    · rw[DR]
    · grind [swap,cA]
    · grind [DR]
    · grind [DU]
  · obtain⟨q,r,l,e⟩:=o.out;have:x.1=x.2.length:=ω;rw[this] at e;exact Ei (l.trans (gh y).symm) (Qf e) (jx y)
def xu:Ok kS:=okZ [] Tryz.f183 QhU trivial Qh9
def dB:Ins:=⟨0,0,0,[]⟩
def iq (n m:Int):Bool:=decide (0<=n)&&decide (n<m)
def Rx:bf D:=bZ 154 (Int×Int) (λa _=>match a with
 | [n,m]=>aI (cT n) λ_ n=>aI (cT m) λ_ m=>.ret (n,m)
 | _=>.fail) (λ_=>True) (λy=>[Qu9 y.1,Qu9 y.2]) λy=>.bool (iq y.1 y.2)
def Ry (p:jW) (i:Int):Bool:=
 let x:=p.code.getD i.toNat dB
 let behind:=decide (i+1<p.code.length)
 if x.op≠1/\0<x.a_.length\/x.op≠2/\x.y≠0 then false
 else if x.op=1 then behind&&decide (x.x=0)&&decide (x.a_=aL x.a_)
 else if x.op=2 then iq x.x p.code.length&&iq x.y p.code.length
 else if x.op=3 then iq x.x p.code.length
 else if x.op=4 then behind&&iq x.x 10
 else if x.op=5\/x.op=6 then behind&&decide (x.x=0)
 else if x.op=7 then iq x.x p.ah.length
 else false
def Qej (y:jW×Int):Prop:=0<=y.2/\y.2<y.1.code.length/\y.1.code.length<=1000/\∀x∈y.1.code,x.a_.length<=1000000
def Yh:bf D:=bZ 153 (jW×Int) (λa s=>match a with
 | [p,i]=>av (X4 p s) λp=>aI (cT i) λ_ i=>.ret (p,i)
 | _=>.fail) Qej (λy=>[X3 y.1,Qu9 y.2]) λy=>.bool (Ry y.1 y.2)
def Rz (y:Int×Int):Prop:=ag (aC 0 y.1) (ax y.1 y.2=iq y.1 y.2/\True) (false=iq y.1 y.2/\True)
def RA (y:jW×Int):Prop:=let i:=ab y.1.ah;let c:=ab y.1.code;let b:=Ry y.1 y.2;let h:=ax (an .i64 y.2 1) c;let a:=gt (Ins.mk 0 0 0 []) y.1.code y.2.toNat;let j:=az a.x 0;let k:=az a.op 1;let l:=az a.op 2;let m:=iq a.x c;let n:=ax 0 (ab a.a_);let d:Prop:=(ag h (j=b/\True) (false=b/\True));let e:Prop:=(ag (az a.op 7) (Iv True/\aa [a.x,i] (iq a.x i=b/\True)) (false=b/\True));let f:Prop:=(ag k (ag h (ag j (Iv (a.a_.length<=100000000)/\aa [a.a_] (decide (a.a_=aL a.a_)=b/\True)) (false=b/\True)) (false=b/\True)) (ag l (Iv True/\aa [a.x,c] (ag m (Iv True/\aa [a.y,c] (iq a.y c=b/\True)) (false=b/\True))) (ag (az a.op 3) (Iv True/\aa [a.x,c] (m=b/\True)) (ag (az a.op 4) (ag h (Iv True/\aa ([a.x,10]:List Int) (iq a.x 10=b/\True)) (false=b/\True)) (ag (az a.op 5) (ag (az a.op 5) (d) (e)) (ag (az a.op 6) (d) (e)))))));let g:Prop:=(ag (!l) (ag (!(az a.y 0)) (false=b/\True) (f)) (f));aC 0 y.2/\ax y.2 c/\ag (!k) (ag n (false=b/\True) (g)) (g)
theorem Qox (y:Int×Int):Rz y:=by
 grind [Rz,iq]
def Qb5:Ok Rx:=okZ (V:=Rz) [] Tryz.f154 (λ_=>cX ()) trivial λy _=>Qox y
def MX (x:Ins) (b:Bool) (n m:Int):Bool:=
 if x.op≠1/\0<x.a_.length\/x.op≠2/\x.y≠0 then false
 else if x.op=1 then b&&decide (x.x=0)&&decide (x.a_=aL x.a_)
 else if x.op=2 then iq x.x n&&iq x.y n
 else if x.op=3 then iq x.x n
 else if x.op=4 then b&&iq x.x 10
 else if x.op=5\/x.op=6 then b&&decide (x.x=0)
 else if x.op=7 then iq x.x m
 else false
theorem Qoy (y:jW×Int) (i:Qej y):RA y:=by
 obtain⟨h1,d,l,f⟩:=i;have hi:an .i64 y.2 1=y.2+1:=aV ω ω;have g:(gt (Ins.mk 0 0 0 []) y.1.code y.2.toNat).a_.length<=1000000:=by
  grind
 have c:Ry y.1 y.2=MX (gt (Ins.mk 0 0 0 []) y.1.code y.2.toNat) (ax (y.2+1) (ab y.1.code)) (ab y.1.code) (ab y.1.ah):=rfl;have a:ax y.2 (ab y.1.code):=gf.2 d;unfold RA;rw[c,hi];generalize gt (Ins.mk 0 0 0 []) y.1.code y.2.toNat=x at g ⊢;simp only[dq,dP];refine⟨h1,a,?_⟩;clear f c a;have h:x.a_.length<=100000000:=ω;have j:ax 0 (ab x.a_)=!(x.a_==[]):=by cases x.a_<;>simp[ax,ab]
 have k:(0<x.a_.length)=((!(x.a_==[]))):=by cases x.a_<;>simp
 unfold MX;simp only[j,k];generalize (x.a_==[])=e;generalize ax (y.2+1) (ab y.1.code)=b;generalize ab y.1.code=n;generalize ab y.1.ah=m;generalize iq x.x n=p;generalize iq x.y n=q;generalize iq x.x 10=r;generalize iq x.x m=w4;generalize decide (x.a_=aL x.a_)=w5;by_cases y0:x.y=0<;>by_cases x0:x.x=0<;>cases e<;>cases b
 all_goals
  by_cases o1:x.op=1
  ·grind
  by_cases o:x.op=2
  ·grind
  grind
def Qia (a:Ok dc):Ok Yh:=okZ [Rx,Eh] Tryz.f153 (λ_=>cX ()) ⟨Qb5,Qb2 a⟩ Qoy
def mT (code:List Ins):Nat->List Bool->List Int->List Bool
 | 0,s,_=>s
 | f+1,s,l=>if l.length=0 then s else
  let i:=l.getD (l.length-1) 0
  let k:=l.take (l.length-1)
  let x:=code.getD i.toNat dB
  if s.getD i.toNat false=true then mT code f s k
  else if x.op=2 then mT code f (s.set i.toNat true) (k++[x.x,x.y])
  else if x.op=3 then mT code f (s.set i.toNat true) (k++[x.x])
  else if x.op=7 then mT code f (s.set i.toNat true) k
  else mT code f (s.set i.toNat true) (k++[i+1])
def noB (n:Nat):List Bool:=List.replicate n false
def Ek (code:List Ins) (start:Int):List Bool:=mT code (3*code.length+1) (noB code.length) [start]
def tgP (code:List Ins):Prop:=code.length<=1000/\∀i:Nat,i<code.length->((code.getD i dB).op=2->0<=(code.getD i dB).x/\(code.getD i dB).x<code.length/\0<=(code.getD i dB).y/\(code.getD i dB).y<code.length)/\((code.getD i dB).op=3->0<=(code.getD i dB).x/\(code.getD i dB).x<code.length)/\((code.getD i dB).op≠2->(code.getD i dB).op≠3->(code.getD i dB).op≠7->i+1<code.length)
def Qek (y:List Ins×Int):Prop:=tgP y.1/\0<=y.2/\y.2<y.1.length
def RC:bf D:=bZ 155 (List Ins×Int) (λa s=>match a with
 | [p,i]=>av (rowsOf D s 8 p) λp=>aI (cT i) λ_ i=>.ret ((p:List Ins),i)
 | _=>.fail) Qek (λy=>[.list 8 y.1,Qu9 y.2]) λy=>.list 17 (Ek y.1 y.2)
structure B3 where
 f:Nat
 s:List Bool
 l:List Int
def Em (y:List Ins×Int) (x:B3):Prop:=x.s.length=y.1.length/\(∀i∈x.l,0<=i/\i<y.1.length)/\3*x.s.count false+x.l.length<=x.f/\x.f<=3*y.1.length+1/\mT y.1 x.f x.s x.l=Ek y.1 y.2
def Qoz (y:RC.Y):cH D:=⟨[],[1,2],[(60,⟨B3,[0],λx=>[(5,.own 0 1 (ab x.s)),(6,.own 1 1 (ab x.l))],[],λx=>[(0,.arr 17 x.s 4 false),(1,.arr 5 x.l 3 false)],2,Em y,λx=>x.f⟩)],[],1,[]⟩
def qV (p:jW):Prop:=p.code.length<=400/\p.ah.length<=8/\(∀i:Nat,i<p.code.length->Ry p i)/\(∀x∈p.code,x.a_.length<=1000000)/\tgP p.code/\∀r:Nat,r<p.ah.length->0<=p.ah.getD r 0/\p.ah.getD r 0<p.code.length/\∀i:Nat,i<p.code.length->(Ek p.code (p.ah.getD r 0)).getD i false->(p.code.getD i dB).op=7->(p.code.getD i dB).x=r
def RE:bf D:=bZ 129 jW (λa s=>match a with
 | [p]=>X4 p s
 | _=>.fail) qV (λy=>[X3 y]) λ_=>.lit true
def pgO (y:jW):Nat×AO D.E:=(0,.cells [.list 8 y.code,.list 5 y.ah] 74 false)
def QoC (y:RE.Y):cH D:=⟨[],[],[(58,⟨Nat,[20],λk=>[(1,.ptr 0 0),(21,Qu9 k)],[],λ_=>[pgO y],1,λk=>k<=(jW.code y).length,λk=>(jW.code y).length-k⟩),
 (122,⟨Nat,[30,31],λk=>[(1,.ptr 0 0),(32,Qu9 k)],[],λ_=>[pgO y],1,λk=>k<=(jW.ah y).length,λk=>(jW.ah y).length-k⟩)],[],1,
 [(62670,⟨Nat,λr=>⟨Nat,[4,30,31,32,46,47],λk=>[(1,.ptr 0 0),(48,Qu9 k)],[],λ_=>[pgO y],1,λk=>k<=(jW.code y).length/\r<(jW.ah y).length,λk=>(jW.code y).length-k⟩,none⟩)]⟩
def RF (y:(List Ins)×Int):Prop:=let c:=ab y.1;let m:=([y.2]:List Int);let h:=λp:Prop=>aa [y.1] p;aC 0 c/\aC c c/\fits c 1/\(∃z:B3,h (ab (np c false)=ab z.s/\ab m=ab z.l/\m=z.l/\np c false=z.s/\(Iv (Em y z))))/\(∀x:B3,let j:=ab x.l;let b:=da .i64 j 1;let g:=bW x.l b;let a:=gt 0 x.l b.toNat;let n:=gt false x.s a.toNat;let k:=aZ g [an .i64 a 1];let e:=gt (Ins.mk 0 0 0 []) y.1 a.toNat;let i:=ab (aZ g [e.x]);let d:=aZ g [e.x,e.y];(Iv (Em y x))->ag (ax 0 j) (aC 0 b/\ax b j/\aC 0 b/\aC b j/\aC 0 a/\ax a (ab x.s)/\ag n (∃z:B3,h (ab x.s=ab z.s/\b=ab z.l/\g=z.l/\x.s=z.s/\(Iv (Em y z/\z.f<x.f)))) (aC 0 a/\ax a (ab x.s)/\aC 0 a/\ax a c/\ag (az e.op 2) (fits (ab d) 8/\∃z:B3,h (ab x.s=ab z.s/\ab d=ab z.l/\d=z.l/\cA x.s a.toNat true=z.s/\(Iv (Em y z/\z.f<x.f)))) (ag (az e.op 3) (fits i 8/\∃z:B3,h (ab x.s=ab z.s/\i=ab z.l/\aZ g [e.x]=z.l/\cA x.s a.toNat true=z.s/\(Iv (Em y z/\z.f<x.f)))) (ag (az e.op 7) (∃z:B3,h (ab x.s=ab z.s/\b=ab z.l/\g=z.l/\cA x.s a.toNat true=z.s/\(Iv (Em y z/\z.f<x.f)))) (fits (ab k) 8/\∃z:B3,h (ab x.s=ab z.s/\ab k=ab z.l/\k=z.l/\cA x.s a.toNat true=z.s/\(Iv (Em y z/\z.f<x.f)))))))) (x.s=Ek y.1 y.2/\True))
def RG (y:jW):Prop:=let b:=y.code.length;let h:=ab y.ah;let d:=y.ah.length;let e:=ab y.code;let g:=λp:Prop=>aa [y.code] (aa [y.ah] p);ag (ax 400 e) (False) (ag (ax 8 h) (False) ((∃z:Nat,aa [e] (0=(z:Int)/\g ((Iv (z<=b)))))/\(∀x:Nat,let r:=!(Ry y (x:Int));(Iv (x<=b))->ag (ax (x:Int) e) (Iv (Qej (y,(x:Int)))/\aa [y.code] (aa [y.ah] (aa [(x:Int)] (ag r (False) (∃z:Nat,aa [e] (an .i64 (x:Int) 1=(z:Int)/\g ((Iv (z<=b/\(b-z)<(b-x)))))))))) ((∃z:Nat,aa [y.ah] (aa [h] (0=(z:Int)/\g ((Iv (z<=d))))))/\(∀x1:Nat,let o:=ax (x1:Int) h;let k:=gt 0 y.ah (x1:Int).toNat;let l:=Ek y.code k;let q:=λp:Prop=>aa [(x1:Int)] (aa [y.ah] (aa [h,(x1:Int)] (aa [l] (aa [ab l] p))));(Iv (x1<=d))->ag o (aC 0 (x1:Int)/\o/\Iv True/\aa [k,e] (ag (!(iq k e)) (False) (Iv (Qek (y.code,k))/\aa [y.code] (aa [k] (∃z:Nat,(∃c:Nat,q (0=(c:Int)/\g ((Iv (c<=b/\z<d)))))/\(∀a:Nat,let i:=ax (a:Int) (ab l);let m:=gt false l (a:Int).toNat;let j:=gt (Ins.mk 0 0 0 []) y.code (a:Int).toNat;let n:=!(az j.x (x1:Int));let f:Prop:=(∃c:Nat,q (an .i64 (a:Int) 1=(c:Int)/\g ((Iv ((c<=b/\z<d)/\(b-c)<(b-a))))));(Iv (a<=b/\z<d))->ag i (aC 0 (a:Int)/\i/\ag m (aC 0 (a:Int)/\ax (a:Int) e/\ag (az j.op 7) (aC 0 (a:Int)/\ax (a:Int) e/\ag n (False) (f)) (f)) (f)) (∃c:Nat,aa [y.ah] (aa [h] (an .i64 (x1:Int) 1=(c:Int)/\g ((Iv (c<=d/\(d-c)<(d-x1))))))))))))) (True))))))
theorem En:∀(s:List Bool) (i:Nat),i<s.length->s.getD i false=false->(s.set i true).count false+1=s.count false
 | [],_,h,_=>absurd h (Zbo _)
 | b::s,0,_,h=>by
  grind
 | b::s,i+1,h,h2=>by
  grind
theorem QoE (y:List Ins×Int) (N:Qek y):RF y:=by
 obtain⟨⟨c1,c2⟩,O,P⟩:=N;unfold RF;simp only[QaU,dq,aj,cA,aU,aO];refine⟨ω,ω,ω,⟨⟨3*y.1.length+1,noB y.1.length,[y.2]⟩,by rfl,rfl,rfl,rfl,by unfold noB;simp,λi hi=>?_,?_,Zah _,rfl⟩,λx z=>⟨λh=>?_,λh=>?_⟩⟩
 ·grind
 ·unfold noB;simp
 ·obtain⟨f,s,l⟩:=x;obtain⟨e,e2,t,u,c⟩:=z;simp only at e e2 t u c h ⊢;obtain⟨m,J⟩:∃m,l.length=m+1:=⟨l.length-1,ω⟩;obtain⟨f,rfl⟩:∃g,f=g+1:=⟨f-1,ω⟩;have L:da .i64 (l.length:Int) 1=(m:Int):=by
   grind
  have w:gt 0 l m=l[m]'ω:=by
   grind
  have hi:=e2 _ (Zas (l:=l) (n:=m) ω);have hk:∀i∈l.take m,0<=i/\i<(y.1.length:Int):=λi hi=>e2 i (Zcg hi)
  have d:(l.take m).length=m:=by grind
  rw[mT,Zaa ω,J,Zde] at c;rw[L,Zad,w];have p:bW l (m:Int)=l.take m:=rfl;rw[p];have E:l.getD m 0=l[m]'ω:=w;simp only[E] at c;generalize l[m]'ω=i at hi c ⊢;generalize l.take m=k at hk d c ⊢;obtain⟨n,rfl⟩:=Zau hi.1;have K:n<s.length:=ω;simp only[Zad] at c ⊢;have F:gt (Ins.mk 0 0 0 []) y.1 n=y.1.getD n dB:=rfl;have gs:gt false s n=s.getD n false:=rfl;rw[F,gs];obtain⟨B,C,D⟩:=c2 n ω;have H:List.count false s<=s.length:=List.count_le_length;have G:an .i64 (n:Int) 1=(n:Int)+1:=aV ω ω;rw[G];generalize y.1.getD n dB=x at B C D c ⊢;have snoc:∀(v:List Int),(∀i∈v,0<=i/\i<(y.1.length:Int))->∀i∈k++v,0<=i/\i<(y.1.length:Int):=λv M i hi=>(Zax.1 hi).elim (hk i) (M i)
  refine⟨ω,ω,ω,ω,ω,ω,λhs=>?_,λhs=>⟨ω,ω,ω,ω,?_⟩⟩
  ·rw[Zac hs] at c;exact⟨⟨f,s,k⟩,rfl,by rw[d],rfl,rfl,⟨e,hk,by grind,by show f<=_;omega,c⟩,Zbr _⟩
  ·have I:=En s n K hs;rw[Zaa (by rw[hs];decide)] at c;have rB:(s.set n true).length=s.length:=Zbb;have two:∀a b:Int,(k++[a,b]).length=m+2:=λa b=>by rw[Zab,d];rfl
   have one:∀a:Int,(k++[a]).length=m+1:=λa=>by rw[Zab,d];rfl
   refine⟨λo=>?_,λj=>⟨λo=>?_,λq=>⟨λo=>?_,λA=>?_⟩⟩⟩
   ·rw[Zac o] at c;obtain⟨r,a2,a3,a4⟩:=B o;refine⟨by rw[two];omega,⟨f,s.set n true,k++[x.x,x.y]⟩,by rw[rB],rfl,rfl,rfl,⟨rB.trans e,snoc _ λi hi=>?_,by grind,by show f<=_;omega,c⟩,Zbr _⟩;simp only[Zbf,Zds,Zdt] at hi;omega
   ·rw[Zaa j,Zac o] at c;obtain⟨r,a2⟩:=C o;refine⟨by rw[one];omega,⟨f,s.set n true,k++[x.x]⟩,by rw[rB],rfl,rfl,rfl,⟨rB.trans e,snoc _ λi hi=>?_,by grind,by show f<=_;omega,c⟩,Zbr _⟩;rw[ZaI.1 hi];exact⟨r,a2⟩
   ·rw[Zaa j,Zaa q,Zac o] at c;exact⟨⟨f,s.set n true,k⟩,by rw[rB],by rw[d],rfl,rfl,⟨rB.trans e,hk,by grind,by show f<=_;omega,c⟩,Zbr _⟩
   ·rw[Zaa j,Zaa q,Zaa A] at c;have:=D j q A;refine⟨by rw[one];omega,⟨f,s.set n true,k++[(n:Int)+1]⟩,by rw[rB],rfl,rfl,rfl,⟨rB.trans e,snoc _ λi hi=>?_,by grind,by show f<=_;omega,c⟩,Zbr _⟩;rw[ZaI.1 hi];omega
 ·obtain⟨f,s,l⟩:=x;obtain⟨e,e2,t,u,c⟩:=z;simp only at c h ⊢;rw[<-c];cases f with
  | zero=>rfl
  | succ f=>rw[mT,Zac ω]
def Qib:Ok RC:=okZ [] Tryz.f155 Qoz trivial QoE
theorem mU (code:List Ins):∀f s l,(mT code f s l).length=s.length
 | 0,s,l=>rfl
 | f+1,s,l=>by
  rw[mT];simp only;split
  ·rfl
  ·split
   ·exact mU code f _ _
   ·split
    ·rw[mU];exact Zbb
    ·split
     ·rw[mU];exact Zbb
     ·split<;>(rw[mU];exact Zbb)
theorem RH (code:List Ins) (a:Int):(Ek code a).length=code.length:=by
 grind [Ek,mU,noB]
theorem QoF (y:jW) (g:qV y):RG y:=by
 obtain⟨p1,p2,p3,p4,p5,p6⟩:=g;unfold RG;simp only[QaU,dq,aj,Zad,dA,Zan,Zao];refine⟨λh=>ω,λh=>⟨λh=>ω,λh=>⟨⟨0,rfl,Zaj _⟩,λx e=>⟨λk=>?_,λk=>⟨⟨0,rfl,Zaj _⟩,λr j=>⟨λk=>?_,λk=>trivial⟩⟩⟩⟩⟩⟩
 ·have b:x<y.code.length:=ω;have hs:=p3 x b;exact⟨⟨ω,k,by grind,p4⟩,⟨λq=>Bool.noConfusion (hs.symm.trans q),λ_=>⟨x+1,aV ω ω,ω,ω⟩⟩⟩
 ·have a:r<y.ah.length:=ω;obtain⟨d,a2,a3⟩:=p6 r a;have hw:iq (y.ah.getD r 0) y.code.length:=by grind [iq]
  refine⟨ω,k,⟨λq=>Bool.noConfusion (hw.symm.trans q),λ_=>⟨⟨p5,d,a2⟩,r,⟨0,rfl,Zaj _,a⟩,λx e=>⟨λk2=>?_,λ_=>⟨r+1,aV ω ω,ω,ω⟩⟩⟩⟩⟩;have f:x<y.code.length:=by grind [RH]
  have i:∃c:Nat,an .i64 (x:Int) 1=(c:Int)/\(c<=y.code.length/\r<y.ah.length)/\y.code.length-c<y.code.length-x:=⟨x+1,aV ω ω,⟨ω,a⟩,ω⟩;simp_all
def Qic (a:Ok dc):Ok RE:=okZ [Yh,Rx,RC] Tryz.f129 QoC ⟨Qia a,Qb5,Qib⟩ QoF
structure qo where
 w:fP
 rd:List Thread
 e:Bool
def Qid (n:Nat) (y:qo):List (Nat×AO D.E):=[(5,.cells [.ptr 6 0,.own n 11 (ab y.rd),.bool y.e] 255 false),
 (6,.cells [.bool y.w.done,.int .i64 y.w.c0,.int .i64 y.w.c1,.int .i64 y.w.c2,.int .i64 y.w.c3,.int .i64 y.w.c4,.int .i64 y.w.c5,.int .i64 y.w.c6,.int .i64 y.w.c7,.int .i64 y.w.c8,.int .i64 y.w.c9,.cF] 158 false),
 (n,.arr 1 y.rd 230 false)]
def QoG (v:AV D.E) (s:St D.E):C fP:=match v with
 | .ptr b _=>av (cE (s.h.get b)) λo=>match o with
  | .cells cs _ _=>match cs with
   | [d,a0,a,a2,a3,a4,a5,c,e,f,a9,_]=>aI (yR d) λd _=>aI (cT a0) λ_ a0=>aI (cT a) λ_ a=>aI (cT a2) λ_ a2=>aI (cT a3) λ_ a3=>aI (cT a4) λ_ a4=>
    aI (cT a5) λ_ a5=>aI (cT c) λ_ c=>aI (cT e) λ_ e=>aI (cT f) λ_ f=>aI (cT a9) λ_ a9=>.ret ⟨d,a0,a,a2,a3,a4,a5,c,e,f,a9,[]⟩
   | _=>.fail
  | _=>.fail
 | _=>.fail
def QoH (v:AV D.E) (s:St D.E):C qo:=match v with
 | .ptr b _=>av (cE (s.h.get b)) λo=>match o with
  | .cells cs _ _=>match cs with
   | [l,r,e]=>av (QoG l s) λl=>av (rowsOf D s 1 r) λr=>aI (yR e) λe _=>.ret ⟨l,r,e⟩
   | _=>.fail
  | _=>.fail
 | _=>.fail
structure Ht where
 v:ig
 k:qo
 t:Thread
def QoI (a:List (AV D.E)) (s:St D.E):C Ht:=match a with
 | [v,w,t]=>av (Ha v s) λv=>av (QoH w s) λw=>av (asAgg t) λcs=>av (uK D 1 cs) λt=>.ret ⟨v,w,t⟩
 | _=>.fail
def Ym:Ins:=⟨0,0,0,[]⟩
def Qel (t:Thread) (i v:Int):Thread:=⟨t.pc,if i=0 then v else t.c0,if i=1 then v else t.c1,if i=2 then v else t.c2,if i=3 then v else t.c3,if i=4 then v else t.c4,if i=5 then v else t.c5,if i=6 then v else t.c6,if i=7 then v else t.c7,if i=8 then v else t.c8,if i=9 then v else t.c9⟩
def Qie (w:fP) (t:Thread):fP:=⟨true,t.c0,t.c1,t.c2,t.c3,t.c4,t.c5,t.c6,t.c7,t.c8,t.c9,w.threads⟩
def pV (code:List Ins) (place:Int):Nat->iy->qo->Thread->Bool×iy×qo
 | 0,s,k,_=>(false,s,k)
 | n+1,s,k,t=>
  if fu s t.pc=false then(false,s,k) else
  let a:=dk s t.pc true
  let x:=code.getD t.pc.toNat Ym
  if x.op=7 then(true,a,{ k with w:=Qie k.w t })
  else if x.op=2 then
   let r:=pV code place n a k { t with pc:=x.x }
   if r.1=true then r else pV code place n r.2.1 r.2.2 { t with pc:=x.y }
  else if x.op=1 then(false,a,{ k with rd:=k.rd++[t] })
  else if x.op=3 then pV code place n a k { t with pc:=x.x }
  else if x.op=4 then pV code place n a k (Qel { t with pc:=t.pc+1 } x.x place)
  else if x.op=5/\0<place then(false,a,k)
  else if x.op=6/\k.e=false then(false,a,k)
  else pV code place n a k { t with pc:=t.pc+1 }
def cz (s:iy):Nat:=(List.range s.pl.length).countP λi:Nat=>fu s i
def B4 (s:iy):Prop:=s.pl.length<=1000/\(∀v∈s.pl,(0:Int)<=v)/\s.us.length+cz s=s.pl.length/\∀j,j<s.us.length->0<=(s.us.getD j tA).i/\(s.us.getD j tA).i<s.pl.length/\s.pl.getD (s.us.getD j tA).i.toNat 0=j
def Yn (c:List Ins):Prop:=c.length<=1000/\∀x∈c,x.op=4->0<=x.x/\x.x<=9
def tB (y:Ht):Prop:=B4 y.v.s/\y.v.s.pl.length=y.v.p.code.length/\Yn y.v.p.code/\y.k.rd.length+cz y.v.s<=1000000/\y.k.w.threads=[]
def ja (y:Ht):Bool×iy×qo:=pV y.v.p.code y.v.place (cz y.v.s+1) y.v.s y.k y.t
def Hu:bf D:=⟨159,Ht,QoI,tB,λy=>[.ptr 0 0,.ptr 5 0,.agg (D.aX 1 y.t)],λy=>CX 0 3 4 y.v++Qid 7 y.k,λy=>.bool (ja y).1,λy=>CX 0 8 4 { y.v with s:=(ja y).2.1 }++Qid 9 (ja y).2.2,8,10⟩
def xw (y:Hu.Y):Nat:=cz (Ht.v y).s
def thO (n:Nat) (t:Thread):Nat×AO D.E:=(n,.cells [.int .i64 t.pc,.int .i64 t.c0,.int .i64 t.c1,.int .i64 t.c2,.int .i64 t.c3,.int .i64 t.c4,.int .i64 t.c5,.int .i64 t.c6,.int .i64 t.c7,.int .i64 t.c8,.int .i64 t.c9] 230 false)
def F_ (y:Ht) (t:Thread):Prop:=fu y.v.s y.t.pc/\pV y.v.p.code y.v.place (cz y.v.s) (dk y.v.s y.t.pc true) y.k t=ja y
def QoJ (y:Hu.Y):cH D:=⟨[(18,.tZ 10 1 9)],[13],[],[(63,⟨Thread,[0,1,8],λ_=>[],[0,1,2,4,5,6,7,9],λt=>[thO 11 t],12,F_ y,λ_=>0⟩)],1,[]⟩
def QoK (y:Hu.Y):Prop:=vc [Hu.under xw (xw y),QX] Tryz.f159 Hu QoJ y
end
end sx
end Go.Proofs.YtadfknojfbmjgaaGreat
