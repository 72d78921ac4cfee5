/- StreamRises: a part of the proof. -/
import Derived.Test.YtadfknojfbmjgaaGreatC23
import Derived.Test.YtadfknojfbmjgaaGreatC13
import Derived.Test.YtadfknojfbmjgaaGreatC18
set_option linter.all false
namespace Go.Proofs.YtadfknojfbmjgaaGreat
set_option maxRecDepth 100000
set_option maxHeartbeats 4000000
namespace sx
noncomputable section
open Go Go.RowKit cls syn
def Uf (y:List (List Nd)):Prop:=let k:=(bI y).2.2;let l:=(bI y).2.1;ag (ax 8 (ab y)) ([]=(bI y).1.1/\[]=(bI y).1.2/\13=l/\8=k/\True) ((∃z:CmX,aa [y] (aa [ab y] ([]=z.s/\0=((z.r:Nat):Int)/\0=ab z.c/\[]=z.n/\[]=z.z/\[]=z.e/\[]=z.c/\(Iv (μ y z)))))/\(∀x:CmX,let f:=((x.r:Nat):Int);let d:=gt [] y f.toNat;let g:=ab d;let q:=aZ x.s [(x.c.length:Int)];let i:=np g 0;let b:=mq.mk d i 0;let u:=ab (x.c++[Ins.mk 4 0 0 []]);let t:=gt 0 (Ge b) 0;let m:=ax 400 (an .i64 (an .i64 (ab x.c) t) 3);let h:=(ep.mk (x.c++[Ins.mk 4 0 0 []]) d (Ge b) (Ix b),(0:Int));let a:=kb h;let o:=ab (a++[Ins.mk 4 1 0 []]);let j:=λp:Prop=>aa [d] (aa ([ab i,0]:List Int) (aa [i] p));(Iv (μ y x))->ag (ax f (ab y)) (aC 0 f/\ax f (ab y)/\Iv (cn d)/\aa [d] (ag (!(cR d)) ([]=(bI y).1.1/\[]=(bI y).1.2/\1=l/\f=k/\True) (aC 0 g/\aC g g/\fits g 8/\aC 0 g/\aC g g/\fits g 8/\Iv (NM b)/\j (Iv (NM b)/\j (Tt 1 (ax 0 (ab i)/\aa [ab x.c,ab i,t] (ag m ([]=(bI y).1.1/\[]=(bI y).1.2/\12=l/\f=k/\True) (Iv (x.c.length<=1000)/\aa ([4,0,0]:List Int) (aa ([[]]:List (List (Int×Int))) (aa [ab x.c] (aa [d] (aa [Ge b,Ix b] (aa [x.c] (fits (ab q) 8/\Iv (k_ h)/\aa ([0,u]:List Int) (aa [d] (aa [Ge b,Ix b] (aa [x.c++[Ins.mk 4 0 0 []]] (Iv (a.length<=1000)/\aa ([4,1,0]:List Int) (aa ([[]]:List (List (Int×Int))) (aa [ab a] (aa [d] (aa [Ge b,Ix b] (aa [a] (Iv ((a++[Ins.mk 4 1 0 []]).length<=1000)/\aa ([7,f,0]:List Int) (aa ([[]]:List (List (Int×Int))) (aa [o] (aa [d] (aa [Ge b,Ix b] (aa [a++[Ins.mk 4 1 0 []]] (∃z:CmX,aa [y] (aa [ab y] (q=z.s/\an .i64 f 1=((z.r:Nat):Int)/\ab ((a++[Ins.mk 4 1 0 []])++[Ins.mk 7 f 0 []])=ab z.c/\d=z.n/\Ge b=z.z/\Ix b=z.e/\((a++[Ins.mk 4 1 0 []])++[Ins.mk 7 f 0 []])=z.c/\(Iv (μ y z/\(y.length-z.r)<(y.length-x.r))))))))))))))))))))))))))))))))))) (x.c=(bI y).1.1/\x.s=(bI y).1.2/\0=l/\0=k/\True)))
inductive Fk where
 | n | a | r
noncomputable section
def fkC:Fk->bf D
 | .n=>IC | .a=>NN | .r=>NO
def Qsd:∀i,(fkC i).Y->Nat
 | .n=>λy=>2*cZ (ep.t y)+1 | .a=>λy=>2*cZ (ep.t y) | .r=>λy=>2*cZ (ep.t y)
def fkF:Fk->Func
 | .n=>Tryz.f48 | .a=>Tryz.f79 | .r=>Tryz.f80
def Qkg:Fk->vE
 | .n=>[uX] | .a=>[uX,E7] | .r=>[uX,E7]
def fkO:∀i,(fkC i).Y->cH D
 | .n=>Qkb | .a=>Qkc | .r=>Qkd
def Qse:∀i,Ok (fkC i):=
 xl [.n,.a,.r] fkC Qsd (fn:=fkF) (tab:=Qkg) (iX:=fkO)
  (λi=>match i with
   | .n=>K_ | .a=>⟨K_,QcF⟩ | .r=>⟨K_,QcF⟩)
  (λi=>match i with
   | .n=>by kernel_rfl | .a=>by kernel_rfl | .r=>by kernel_rfl)
  (λi=>match i with
   | .n=>by kernel_rfl | .a=>by kernel_rfl | .r=>by kernel_rfl)
  λi=>match i with
   | .n=>λy b=>Eq.mp (η y) (Qr7 y b) | .a=>λy b=>Eq.mp (θ y) (Qr8 y b) | .r=>λy b=>Eq.mp (ι y) (Qsa y b)
end
theorem Qsf (y:List (List Nd)) (J:IE.pre y):Uf y:=by
 obtain⟨h1,v⟩:y.length<=1000000/\∀l∈y,∀x∈l,iK x:=J;have i:bI y=Co y:=by grind [bI,aq]
 unfold Uf;simp only[QaU,dq,aj,dA,aU,Zad,aO,Zan,Zao,Zah,ZaQ,ZaF];unfold Co at i;refine⟨λe=>?_,λe=>?_⟩
 ·grind
 ·rw[Zaa ω] at i;refine⟨⟨⟨[],[],[],[],[],0⟩,rfl,rfl,rfl,rfl,rfl,rfl,rfl,Zaj _,ω,Zaj _,rfl,i.symm⟩,λx I=>?_⟩;obtain⟨c,s,n,z,en,r⟩:=x;obtain⟨i1,i2,i3,i4,i5⟩:=I;simp only at i1 i3 i4 i5 ⊢;refine⟨λe2=>?_,λe2=>?_⟩
  ·have M:r<y.length:=ω;have D:y.drop r=y.getD r []::y.drop (r+1):=by simp_all
   have d:cn (y.getD r []):=v _ (by grind);rw[D,lf] at i5;generalize y.getD r []=l at*
   refine⟨e2,d,λq=>?_,λq=>?_⟩
   ·grind
   ·rw[Zaa (by grind)] at i5;obtain⟨t,h,L,u⟩:=jl q;have ht:nV l=t:=by
     have:=kj (a:=0) (r:=[]) h (show l.drop 0=ay t++[] by grind);assumption
    have f:(np (l.length:Int) (0:Int)).length=l.length:=by simp[np]
    have g:NM ⟨l,np (l.length:Int) 0,0⟩:=⟨ZaQ _,f,u,t,[],h,by grind⟩;have K:mq.t ⟨l,np (l.length:Int) 0,0⟩=t:=by assumption
    have H:∀s:List Int,s.length=l.length->kA (np (l.length:Int) 0) 0 s=s:=λs hs=>by
     grind [kA]
    have F:(ay t).length=l.length:=by rw[L]
    have cI:Ge ⟨l,np (l.length:Int) 0,0⟩=jO t:=by grind [Ge,aq,E5]
    have j:Ix ⟨l,np (l.length:Int) 0,0⟩=qw t 0:=by grind [Ix,aq,E6]
    have p:0<l.length:=by grind [sG]
    have k:(jO t).getD 0 0=dI (bd t):=by rw[ri];rfl
    rw[ht] at i5;rw[cI,j,k,f];have B:=IA (bd t);rw[aV (a:=(c.length:Int)) (b:=dI (bd t)) ω ω,aV ω ω];have o:dI (bd t)=min (bd t:Int) 401:=rfl;refine⟨ω,ω,g,g,ω,λA=>?_,λA=>?_⟩
    ·grind
    ·rw[Zaa ω] at i5;have m:AtK ⟨c++[Ins.mk 4 0 0 []],l,jO t,qw t 0⟩ 0 t:=⟨u,d,h,by grind,⟨[],by grind⟩,⟨[],by simp⟩,⟨[],by simp⟩⟩;have w:kb (⟨c++[Ins.mk 4 0 0 []],l,jO t,qw t 0⟩,(0:Int))=c++[Ins.mk 4 0 0 []]++bH t (c++[Ins.mk 4 0 0 []]).length:=m.cod;have G:k_ (⟨c++[Ins.mk 4 0 0 []],l,jO t,qw t 0⟩,(0:Int)):=m.nda;have C:=iN t (c++[Ins.mk 4 0 0 []]).length h;rw[w];have hs:c++[Ins.mk 4 0 0 []]++bH t (c++[Ins.mk 4 0 0 []]).length++[Ins.mk 4 1 0 []]++[Ins.mk 7 r 0 []]=c++qy t r c.length:=by
      unfold qy;simp
     have E:(c++qy t r c.length).length=c.length+bd t+3:=by
      grind
     refine⟨ω,by grind,G,?_,?_,⟨c++qy t r c.length,s++[(c.length:Int)],l,jO t,qw t 0,r+1⟩,rfl,bz ω,by rw[hs],rfl,rfl,rfl,hs,⟨show r+1<=y.length by omega,i2,show(c++qy t r c.length).length<=400 by omega,by simp[i4],i5⟩,show y.length-(r+1)<y.length-r by omega⟩
     ·grind
     ·grind
  ·grind [lf]
def Qkh (a:Ok dc):Ok IE:=okZ [HQ,szC,enC,uX,IC] Tryz.f20 Qsb ⟨Qcm a,QrT,QrU,K_,Qse .n⟩ Qsf
def nmB (c:UInt8):Bool:=(97<=c.toNat&&c.toNat<=122)||(65<=c.toNat&&c.toNat<=90)||(48<=c.toNat&&c.toNat<=57)||c.toNat==45||c.toNat==95||c.toNat==46
def iV (s:By):Bool:=decide (s≠[])&&decide (s.length<=32)&&s.all nmB
def IF:bf D:=bZ 39 By (λa _=>YG a) (λ_=>True) (λy=>[.str y]) λy=>.bool (iV y)
def u9 (y:By) (i:Nat):Prop:=i<=y.length/\∀j,j<i->nmB (y.getD j 0)
def Qsg (y:IF.Y):cH D:=⟨[],[],[(58,⟨Nat,[0,14],λi=>[(15,Qu9 i)],[],λ_=>[],0,u9 y,λi=>y.length-i⟩)],[],1,[]⟩
def NS:bf D:=bZ 22 By (λa _=>YG a) (λ_=>True) (λy=>[.str y]) λy=>.bool (iV y)
def Qsi (y:NS.Y):cH D:=⟨[],[],[(58,⟨Nat,[0],λi=>[(3,Qu9 i)],[],λ_=>[],0,u9 y,λi=>y.length-i⟩)],[],1,[]⟩
def Cp (l:List Row):Prop:=l.Pairwise λa b=>a.k<b.k
def IG:Row:=⟨[],0⟩
def lF (l:List Row) (k:By):Nat:=l.findIdx λr=>!decide (r.k<k)
def jP (l:List Row) (k:By):Bool:=l.any λr=>decide (r.k=k)
def rj (l:List Row) (k:By) (v:Int):List Row:=if jP l k=true then l.set (lF l k) ⟨(l.getD (lF l k) IG).k,v⟩ else l.take (lF l k)++⟨k,v⟩::l.drop (lF l k)
structure W3 where
 l:List Row
 k:By
 v:Int
def tbO (n:Nat) (l:List Row):List (Nat×AO D.E):=[(0,.cells [.own n 2 (ab l)] 177 false),(n,.arr 16 l 181 false)]
def Qfe (v:AV D.E) (s:St D.E):C (List Row):=match v with
 | .ptr b _=>av (cE (s.h.get b)) λo=>match o with
  | .cells cs _ _=>match cs with
   | [c]=>av (rowsOf D s 16 c) λc=>.ret (c:List Row)
   | _=>.fail
  | _=>.fail
 | _=>.fail
def TbP (y:W3):Prop:=Cp y.l/\y.l.length<=1000
def NT:bf D:=⟨72,W3,λa s=>match a with
 | [p,k]=>av (Qfe p s) λl=>av (hZ k) λk=>.ret ⟨l,k,0⟩
 | _=>.fail,TbP,λy=>[.ptr 0 0,.str y.k],λy=>tbO 1 y.l,λy=>.tuple [Qu9 (lF y.l y.k),.bool (jP y.l y.k)],λy=>tbO 1 y.l,2,2⟩
def Ug (y:W3) (x:Nat×Nat):Prop:=x.1<=x.2/\x.2<=y.l.length/\(∀j,j<x.1->(y.l.getD j IG).k<y.k)/\∀j,x.2<=j->j<y.l.length->¬(y.l.getD j IG).k<y.k
def Qsk (y:NT.Y):cH D:=⟨[],[],[(28,⟨Nat×Nat,[0,1],λx=>[(6,Qu9 x.1),(7,Qu9 x.2)],[],λ_=>tbO 1 y.l,2,Ug y,λx=>x.2-x.1⟩)],[],1,[]⟩
def IH:bf D:=⟨40,W3,λa s=>match a with
 | [p,k,v]=>av (Qfe p s) λl=>av (hZ k) λk=>aI (cT v) λ_ v=>.ret ⟨l,k,v⟩
 | _=>.fail,TbP,λy=>[.ptr 0 0,.str y.k,Qu9 y.v],λy=>tbO 1 y.l,λy=>.bool (!jP y.l y.k),λy=>tbO 2 (rj y.l y.k y.v),2,3⟩
def Uh:bf D:=⟨38,Unit,λ_ _=>.ret (),λ_=>True,λ_=>[],λ_=>[],λ_=>.ptr 0 0,λ_=>[(0,.cells [.own 1 2 0] 177 false),(1,.arr 16 [] 181 false)],0,2⟩
structure b7 where
 r:List lC
 c:By
variable {y:By} {x:Nat} {l:List Row}
def QcG (a:List (AV D.E)) (s:St D.E):C b7:=match a with
 | [x]=>av (asAgg x) λcs=>match cs with
  | [r,c]=>av (rowsOf D s 3 r) λr=>av (hZ c) λc=>.ret ⟨r,c⟩
  | _=>.fail
 | _=>.fail
def Ff (y:b7):AV D.E:=.agg [.list 3 y.r,.str y.c]
def Ui:bf D:=bZ 18 b7 QcG (λy=>y.r.length<=1000) (λy=>[Ff y]) Ff
def Uj (y:List UInt8):Prop:=let c:=y.length;let h:=λp:Prop=>aa [y] (aa [eO y] p);ag (seq y []) (false=iV y/\True) (ag (ax 32 (eO y)) (false=iV y/\True) ((∃z:Nat,h (0=(z:Int)/\(Iv (u9 y z))))/\(∀x:Nat,let a:=sat y (x:Int);let d:=ax (x:Int) (eO y);let b:Prop:=(∃z:Nat,h (an .i64 (x:Int) 1=(z:Int)/\(Iv (u9 y z/\(c-z)<(c-x)))));let e:Prop:=(ag (az a 45) (b) (ag (az a 95) (b) (ag (!(az a 46)) (false=iV y/\True) (b))));let f:Prop:=(ag (aC 48 a) (ag (aC a 57) (b) (e)) (e));let g:Prop:=(ag (aC 65 a) (ag (aC a 90) (b) (f)) (f));(Iv (u9 y x))->ag d (aC 0 (x:Int)/\d/\ag (aC 97 a) (ag (aC a 122) (b) (g)) (g)) (true=iV y/\True))))
def Uk (y:List UInt8):Prop:=let c:=y.length;let h:=λp:Prop=>aa [y] p;ag (seq y []) (false=iV y/\True) (ag (ax 32 (eO y)) (false=iV y/\True) ((∃z:Nat,h (0=(z:Int)/\(Iv (u9 y z))))/\(∀x:Nat,let a:=sat y (x:Int);let d:=ax (x:Int) (eO y);let b:Prop:=(∃z:Nat,h (an .i64 (x:Int) 1=(z:Int)/\(Iv (u9 y z/\(c-z)<(c-x)))));let e:Prop:=(ag (!(az a 45)) (ag (!(az a 95)) (ag (!(az a 46)) (false=iV y/\True) (b)) (b)) (b));let f:Prop:=(ag (ax a 48) (e) (ag (ax 57 a) (e) (b)));let g:Prop:=(ag (ax a 65) (f) (ag (ax 90 a) (f) (b)));(Iv (u9 y x))->ag d (aC 0 (x:Int)/\d/\ag (ax a 97) (g) (ag (ax 122 a) (g) (b))) (true=iV y/\True))))
def Ul (y:W3):Prop:=let b:=ab y.l;let d:=λp:Prop=>aa [b] (aa [y.l] p);aa [b] ((∃z:Nat×Nat,aa [y.k] (0=(z.1:Int)/\b=(z.2:Int)/\d ((Iv (Ug y z)))))/\(∀x:Nat×Nat,let a:=(x.1:Int);let e:=(x.2:Int);let c:=W7 .i64 (an .i64 a e) 2;let f:=slt (gt (Row.mk [] 0) y.l c.toNat).k y.k;(Iv (Ug y x))->ag (ax a e) (Tt 1 (aC 0 c/\ax c b/\ag f (∃z:Nat×Nat,aa [y.k] (an .i64 c 1=(z.1:Int)/\e=(z.2:Int)/\d ((Iv (Ug y z/\(z.2-z.1)<(x.2-x.1)))))) (∃z:Nat×Nat,aa [y.k] (a=(z.1:Int)/\c=(z.2:Int)/\d ((Iv (Ug y z/\(z.2-z.1)<(x.2-x.1)))))))) (ag (ax a b) (aC 0 a/\ax a b/\aa [b,b] (aa [(gt (Row.mk [] 0) y.l a.toNat).k] (a=((lF y.l y.k:Nat):Int)/\seq (gt (Row.mk [] 0) y.l a.toNat).k y.k=jP y.l y.k/\d (True)))) (aa [b] (a=((lF y.l y.k:Nat):Int)/\false=jP y.l y.k/\d (True))))))
def QcH (y:Unit):Prop:=(0:Int)=(0:Int)/\aa ([[]]:List (List Row)) (True)
def QcI (y:b7):Prop:=fits (ab y.r) 32/\aa [y.r] (aa [y.c] (True))
theorem Lc (c:UInt8):nmB c↔(97<=c.toNat/\c.toNat<=122)\/(65<=c.toNat/\c.toNat<=90)\/(48<=c.toNat/\c.toNat<=57)\/c.toNat=45\/c.toNat=95\/c.toNat=46:=by
 grind [nmB]
theorem Fh (h:u9 y x) (b:x<y.length) (h0:y≠[]) (h1:y.length<=32):(nmB (y.getD x 0)->∃z:Nat,an .i64 (x:Int) 1=(z:Int)/\u9 y z/\y.length-z<y.length-x)/\(¬nmB (y.getD x 0)->false=iV y):=by
 refine⟨λh=>⟨x+1,bz ω,⟨b,λj c=>?_⟩,ω⟩,λh=>?_⟩
 ·rename_i a
  rcases Zbm j x with e | e
  ·exact a.2 j e
  ·grind
 ·grind [iV]
theorem Ld (h:u9 y y.length) (h0:y≠[]) (h1:y.length<=32):true=iV y:=by
 unfold iV;symm;simp only[ZaW,ZaP,List.all_eq_true];refine⟨⟨h0,h1⟩,λc a=>?_⟩;obtain⟨i,hi,rfl⟩:=Za3 a;have:=h.2 i hi;grind
theorem Qkj (y:By) (_:IF.pre y):Uj y/\Uk y:=by
 unfold Uj Uk;have hs:∀x:Nat,sat y (x:Int)=((y.getD x 0).toNat:Int):=λ_=>rfl
 simp only[QaU,dq,lO,xn,hs,Zan,Zao];have f:∀{s:By},seq s []=false↔s≠[]:=λ{s}=>by grind
 have c:y=[]->false=iV y:=λh=>by subst h;rfl
 have d:32<(y.length:Int)->false=iV y:=λh=>by
  grind [iV]
 have i0:u9 y 0:=⟨Zaj _,λj g=>absurd g (Zbo _)⟩;refine⟨⟨c,λh0=>⟨d,λh1=>⟨⟨0,rfl,i0⟩,λx a=>⟨λe=>⟨ω,e,?_⟩,λe=>?_⟩⟩⟩⟩,⟨c,λh0=>⟨d,λh1=>⟨⟨0,rfl,i0⟩,λx a=>⟨λe=>⟨ω,e,?_⟩,λe=>?_⟩⟩⟩⟩⟩
 all_goals have b:=f.mp h0
 ·obtain⟨p,q⟩:=Fh a ω b ω;rw[Lc] at p q
  with_reducible repeat' first | apply And.intro | intro _
  all_goals first | exact p ω | exact q ω
 ·rw[show x=y.length by have:=a.1;omega] at a;grind [Ld]
 ·obtain⟨p,q⟩:=Fh a ω b ω;rw[Lc] at p q
  with_reducible repeat' first | apply And.intro | intro _
  all_goals first | exact p ω | exact q ω
 ·rw[show x=y.length by have:=a.1;omega] at a;grind [Ld]
def Qkk:Ok IF:=okZ (V:=Uj) [] Tryz.f39 Qsg trivial λy a=>(Qkj y a).1
def Qkl:Ok NS:=okZ (V:=Uk) [] Tryz.f22 Qsi trivial λy a=>(Qkj y a).2
theorem Cq (h:Cp l) {j:Nat} (a:x<j) (b:j<l.length):(l.getD x IG).k<(l.getD j IG).k:=by
 rw[bk b,bk ω];exact List.pairwise_iff_getElem.mp h x j ω b a
theorem Qff (h1:x<=l.length) (a:∀j,j<x->(l.getD j IG).k<y) (b:x<l.length->¬(l.getD x IG).k<y):lF l y=x:=by
 grind [lF,List.findIdx_eq]
theorem Qfg (f:Cp l) (h1:x<l.length) (c:∀j,j<x->(l.getD j IG).k<y) (d:¬(l.getD x IG).k<y):jP l y=seq (l.getD x IG).k y:=by
 rw[ZaG];unfold jP;simp only[ZcT,ZaP,xn];constructor
 ·rintro⟨r,a,rfl⟩;obtain⟨i,hi,e⟩:=Za3 a;have b:l.getD i IG=r:=by grind
  grind [Cq]
 ·grind
theorem Qso (y:W3) (q:NT.pre y):Ul y:=by
 obtain⟨l,k,v⟩:=y;obtain⟨g,hl⟩:Cp l/\l.length<=1000:=q;unfold Ul;have m:∀n,gt (Row.mk [] 0) l n=l.getD n IG:=λ_=>rfl
 have st:∀{a b:By},slt a b↔a<b:=λ{a b}=>by simp[slt]
 have r:∀{a b:By},slt a b=false↔¬a<b:=λ{a b}=>by grind
 simp only[QaU,dq,aj,m,st,r,Zad];refine⟨⟨(0,l.length),rfl,rfl,Zaj _,Zah _,λj d=>absurd d (Zbo _),λj h1 f=>absurd (show l.length<=j from h1) (Nat.not_le_of_lt f)⟩,λx p=>?_⟩;obtain⟨lo,hi⟩:=x;obtain⟨i1,i2,i3,i4⟩:=p;simp only at i1 i2 i3 i4 ⊢;refine⟨λe=>?_,λe=>?_⟩
 ·have o:W7 .i64 (an .i64 (lo:Int) (hi:Int)) 2=(((lo+hi) / 2:Nat):Int):=by
   grind [W7,dF,D6]
  rw[o];simp only[Zad];refine⟨ω,ω,λc=>⟨((lo+hi) / 2+1,hi),bz ω,rfl,⟨show(lo+hi) / 2+1<=hi by omega,i2,λj d=>?_,i4⟩,show hi-((lo+hi) / 2+1)<hi-lo by omega⟩,λc=>⟨(lo,(lo+hi) / 2),rfl,rfl,⟨show lo<=(lo+hi) / 2 by omega,show(lo+hi) / 2<=l.length by omega,i3,λj h1 f=>?_⟩,show(lo+hi) / 2-lo<hi-lo by omega⟩⟩
  ·have d:j<(lo+hi) / 2+1:=d;rcases Zbm j ((lo+hi) / 2) with e2 | e2
   ·exact Zdk (Cq g e2 ω) c
   ·grind
  ·have h1:(lo+hi) / 2<=j:=h1;rcases Zbm ((lo+hi) / 2) j with e2 | e2
   ·exact λc2=>c (Zdk (Cq g e2 f) c2)
   ·grind
 ·have i:lo=hi:=ω;subst i;have s:lF l k=lo:=Qff i2 i3 λh=>i4 lo (Zah _) h
  grind [Qfg,jP,List.getElem_of_mem]
def Qkm:Ok NT:=okZ [] Tryz.f72 Qsk trivial Qso
theorem Qkn:Ok Uh:=okZ (V:=QcH) [] Tryz.f38 (λ_=>cX ()) trivial λy _=>by grind [QcH]
theorem Qko:Ok Ui:=okZ (V:=QcI) [] Tryz.f18 (λ_=>cX ()) trivial λy a=>by
 have:y.r.length<=1000:=a;grind [QcI]
structure Qkp where
 tab:List Row
 out:List (List Nd)
 err:Int
 at_:Int
def lg:List lC->Nat->List Row->List (List Nd)->Qkp
 | [],_,t,o=>⟨t,o,0,0⟩
 | x::l,i,t,o=>if iV x.name=false then⟨[],[],14,i⟩ else if jP t x.name=true then⟨[],[],8,i⟩ else if (bT x.text).2.1≠0 then⟨[],[],(bT x.text).2.1,i⟩ else lg l (i+1) (rj t x.name i) (o++[aN (bT x.text).1])
def aW (y:b7):Qkp:=lk (lg y.r 0 [] [])
def x_ (y:b7):Bool:=decide ((aW y).err=0)
def Cr (k:b7->Bool) (args:List (AV D.E)) (s:St D.E):C (b7×Bool):=av (QcG args s) λp=>.split (k p) (.ret (p,true)) (.ret (p,false))
def Um (y:b7×Bool):Prop:=y.1.r.length<=8/\y.2=x_ y.1
def Fi:bf D:=⟨17,b7×Bool,Cr x_,Um,λy=>[Ff y.1],λ_=>[],
 λy=>match y.2 with
  | true=>.tuple [.list 9 (aW y.1).out,.ptr 0 0,Qu9 0,Qu9 0]
  | false=>.tuple [.cF,.fD,Qu9 (aW y.1).err,Qu9 (aW y.1).at_],
 λy=>match y.2 with
  | true=>tbO 1 (aW y.1).tab
  | false=>[],0,2⟩
structure Cs where
 t:List Row
 o:List (List Nd)
 i:Nat
def ya (y:b7) (x:Cs):Prop:=x.i<=y.r.length/\Cp x.t/\x.t.length<=x.i/\x.o.length=x.i/\lg (y.r.drop x.i) x.i x.t x.o=aW y
def Qkq (y:Fi.Y):cH D:=⟨[],[],[(122,⟨Cs,[15,16],λx=>[(6,.ptr 0 0),(7,.grow 9 x.o 2),(17,Qu9 x.i)],[],λx=>tbO 1 x.t++[(2,.tok 9 77)],3,ya y.1,λx=>y.1.r.length-x.i⟩)],[],1,[]⟩
def Qkr (y:b7):Prop:=vc [Uh,IF,IH,zc,E1] Tryz.f17 Fi Qkq (y,true)
def Qks (y:b7):Prop:=vc [Uh,IF,IH,zc,E1] Tryz.f17 Fi Qkq (y,false)
structure LdR where
 code:List Ins
 st:List Int
 cc:List Ins
 cs:List Int
 err:Int
 at_:Int
def Lg (e a:Int):LdR:=⟨[],[],[],[],e,a⟩
def iP (y:b7):LdR:=
 if 8<y.r.length then Lg 13 8
 else if (aW y).err≠0 then Lg (aW y).err (aW y).at_
 else if y.c≠[]/\(bT y.c).2.1≠0 then Lg (bT y.c).2.1 y.r.length
 else if (bI (aW y).out).2.1≠0 then Lg (bI (aW y).out).2.1 (bI (aW y).out).2.2
 else if y.c≠[] then(if (bI [aN (bT y.c).1]).2.1≠0 then Lg (bI [aN (bT y.c).1]).2.1 y.r.length
  else⟨(bI (aW y).out).1.1,(bI (aW y).out).1.2,(bI [aN (bT y.c).1]).1.1,(bI [aN (bT y.c).1]).1.2,0,0⟩)
 else⟨(bI (aW y).out).1.1,(bI (aW y).out).1.2,[],[],0,0⟩
def bL (y:b7):LdR:=lk (iP y)
def l8 (y:b7):Bool:=decide ((bL y).err=0)
def Qfh (n:Nat) (y:b7) (l:LdR) (t:List Row):List (Nat×AO D.E):=(n,.cells [.list 3 y.r,.str y.c,.list 8 l.code,.list 5 l.st,.list 8 l.cc,.list 5 l.cs,.ptr (n+1) 0] 76 false)::[(n+1,.cells [.own (n+2) 2 (ab t)] 177 false),(n+2,.arr 16 t 181 false)]
def oA (y:b7×Bool):Prop:=y.1.r.length<=1000/\y.2=l8 y.1
def tL:bf D:=⟨11,b7×Bool,Cr l8,oA,λy=>[Ff y.1],λ_=>[],
 λy=>match y.2 with
  | true=>.tuple [.ptr 0 0,Qu9 0,Qu9 0]
  | false=>.tuple [.fD,Qu9 (bL y.1).err,Qu9 (bL y.1).at_],
 λy=>match y.2 with
  | true=>Qfh 0 y.1 (bL y.1) (aW y.1).tab
  | false=>[],0,3⟩
def Ct (y:b7):List Nd:=lk (if y.c≠[] then(bT y.c).1 else[])
def Qku (y:tL.Y):cH D:=⟨[],[],[],[(127,⟨Unit,[5,8],λ_=>[(1,.ptr 0 0),(9,.ptr 1 0),(10,.list 7 (Ct y.1))],[],λ_=>[(0,.cells [.list 3 y.1.r,.str y.1.c] 24 false)]++Qfh 1 y.1 (Lg 0 0) (aW y.1).tab,4,λ_=>y.1.c≠[]->(bT y.1.c).2.1=0,λ_=>0⟩)],1,[]⟩
def Qkv (y:b7):Prop:=vc [Fi,Ui,zc,IE,E1] Tryz.f11 tL Qku (y,true)
def Qkw (y:b7):Prop:=vc [Fi,Ui,zc,IE,E1] Tryz.f11 tL Qku (y,false)
def NU:bf D:={ MO with f:=63 }
def Qsp (y:NU.Y):cH D:=Qhz y
structure nW where
 s:b7
 p:jW
 q:jW
 t:List Row
def Un (y:nW):List (Nat×AO D.E):=Qfh 0 y.s ⟨y.p.code,y.p.ah,y.q.code,y.q.ah,0,0⟩ y.t
def Qfi (v:AV D.E) (s:St D.E):C nW:=match v with
 | .ptr b _=>av (cE (s.h.get b)) λo=>match o with
  | .cells cs _ _=>match cs with
   | [r,c,p,q,a,b,t]=>av (rowsOf D s 3 r) λr=>av (hZ c) λc=>av (rowsOf D s 8 p) λp=>av (rowsOf D s 5 q) λq=>av (rowsOf D s 8 a) λa=>av (rowsOf D s 5 b) λb=>av (Qfe t s) λt=>.ret ⟨⟨r,c⟩,⟨p,q⟩,⟨a,b⟩,t⟩
   | _=>.fail
  | _=>.fail
 | _=>.fail
def Qfj (a:List (AV D.E)) (s:St D.E):C nW:=match a with
 | [p]=>Qfi p s
 | _=>.fail
def Qfk (y:nW):Prop:=OK y.p
def Qfl (y:nW):Prop:=OK y.q
def Uo:bf D:=⟨28,nW,Qfj,Qfk,λ_=>[.ptr 0 0],Un,λy=>X3 y.p,Un,3,3⟩
def Up:bf D:=⟨29,nW,Qfj,Qfl,λ_=>[.ptr 0 0],Un,λy=>.tuple [X3 y.q,.bool (!seq y.s.c [])],Un,3,3⟩
def Qfm (a:List (AV D.E)) (s:St D.E):C jW:=match a with
 | [p]=>X4 p s
 | _=>.fail
def Qkx (p:jW):ig:=⟨p,0,rE,⟨uP p.code.length,i_⟩⟩
def τ:bf D:=⟨96,jW,Qfm,qV,λy=>[X3 y],λ_=>[],λ_=>.tuple [.ptr 0 0,.num .i64 0],λy=>Eb 0 (Qkx y),0,5⟩
def Fj (p:jW):ig:=Q5 (Qkx p) p.ah.length
def υ:bf D:=⟨64,jW,Qfm,qV,λy=>[X3 y],λ_=>[],λ_=>.tuple [.ptr 0 0,.num .i64 0],λy=>Eb 0 (Fj y),0,5⟩
def QcJ (y:ig):List (AV D.E):=[.int .i64 y.place,.list 2 y.L]
def χ:bf D:=⟨95,ig,MP,λy=>Et y.L,λ_=>[.ptr 0 0],Eb 0,λy=>.agg (QcJ y),Eb 0,5,5⟩
def bM (p:jW):gO:=lk ⟨L2,Fj p⟩
def Uq:bf D:=⟨30,jW,Qfm,qV,λy=>[X3 y],λ_=>[],λ_=>.tuple [.ptr 0 0,.num .i64 0],λy=>Gc 0 5 6 (bM y),0,7⟩
def sK (y:gO):List (AV D.E):=.list 0 (ec y.d)::QcJ y.v
def ψ:bf D:=⟨62,gO,λa s=>match a with
 | [p]=>ED p s
 | _=>.fail,λy=>uv y.d/\Et y.v.L,λ_=>[.ptr 0 0],Gc 0 5 6,λy=>.agg (sK y),Gc 0 5 6,7,7⟩
def QcK (y:nW):Prop:=Iv (OK y.p)/\aa [y.p.code] (aa [y.p.ah] (aa [y.p.code] (aa [y.p.ah] (aa [y.s.r] (aa [y.s.c] (aa [y.p.code] (aa [y.p.ah] (aa [y.q.code] (aa [y.q.ah] (aa [ab y.t] (aa [y.t] (True))))))))))))
def QcL (y:nW):Prop:=Iv (OK y.q)/\aa [y.q.code] (aa [y.q.ah] (aa [y.q.code] (aa [y.q.ah] (aa [y.s.c,y.s.c,y.s.c] (aa [y.q.code] (aa [y.q.ah] (aa [!(seq y.s.c [])] (aa [y.s.r] (aa [y.s.c] (aa [y.p.code] (aa [y.p.ah] (aa [y.q.code] (aa [y.q.ah] (aa [ab y.t] (aa [y.t] (True))))))))))))))))
def QcM (y:jW):Prop:=let a:=ab y.code;let b:=uP (y.code.length:Int);Iv (qV y)/\aa [y.code] (aa [y.ah] (Iv (0<=a/\a<=4096)/\aa [a] (Iv (OK y)/\aa [y.code] (aa [y.ah] (aa [y.code] (aa [y.ah] (aa ([0]:List Int) (0=ab rE/\ab (uP a)=ab b/\aa [ab i_] (aa [i_] (uP a=b/\[]=rE/\True))))))))))
def QcN (y:jW):Prop:=let a:=uP (y.code.length:Int);let b:=ab (rE++List.map iS (List.take y.ah.length y.ah));Iv (qV y)/\aa [y.code] (aa [y.ah] (Iv ((y.ah.length+rE.length)<=1000000)/\aa [y.code] (aa [y.ah] (aa ([0,ab rE,ab a,ab i_]:List Int) (aa [i_] (aa [a] (aa [rE] (aa [y.code] (aa [y.ah] (aa ([0,b,ab a,ab i_]:List Int) (aa [i_] (aa [a] (aa [rE++List.map iS (List.take y.ah.length y.ah)] (True))))))))))))))
def QcO (y:ig):Prop:=Iv (Et y.L)/\aa [ab y.L] (aa [y.L] (aa [y.place,y.place,ab y.L,y.place] (aa [y.L] (aa [y.p.code] (aa [y.p.ah] (aa [y.place,ab y.L,ab y.s.pl,ab y.s.us] (aa [y.s.pl] (aa [y.s.us] (aa [y.L] (True))))))))))
def QcP (y:jW):Prop:=let e:=uP (y.code.length:Int);Iv (qV y)/\aa [y.code] (aa [y.ah] (Iv True/\y.code=(bM y).v.p.code/\y.ah=(bM y).v.p.ah/\0=(bM y).v.place/\ab (rE++List.map iS (List.take y.ah.length y.ah))=ab (bM y).v.L/\ab e=ab (bM y).v.s.pl/\ab i_=ab (bM y).v.s.us/\i_=(bM y).v.s.us/\e=(bM y).v.s.pl/\(rE++List.map iS (List.take y.ah.length y.ah))=(bM y).v.L/\0=(bM y).d.a/\0=(bM y).d.b/\0=(bM y).d.c/\0=(bM y).d.d/\0=(bM y).d.n/\True))
def QcQ (y:gO):Prop:=Iv (uv y.d)/\aa [y.d.a,y.d.b,y.d.c,y.d.d,y.d.n] (Iv (Et y.v.L)/\aa [y.v.p.code] (aa [y.v.p.ah] (aa [y.v.place,ab y.v.L,ab y.v.s.pl,ab y.v.s.us] (aa [y.v.s.us] (aa [y.v.s.pl] (aa [y.v.L] (aa [ec y.d] (aa [y.v.place] (aa [y.v.L] (aa [y.d.a,y.d.b,y.d.c,y.d.d,y.d.n] (aa [y.v.p.code] (aa [y.v.p.ah] (aa [y.v.place,ab y.v.L,ab y.v.s.pl,ab y.v.s.us] (aa [y.v.s.pl] (aa [y.v.s.us] (aa [y.v.L] (True)))))))))))))))))
def QcR:Ok NU:=okZ [] Tryz.f63 Qsp trivial QhA
def Qky:Ok Uo:=okZ (V:=QcK) [NU] Tryz.f28 (λ_=>cX ()) QcR λy a=>by
 unfold QcK;simp only[cG,Zai,db];exact a
def Qkz:Ok Up:=okZ (V:=QcL) [NU] Tryz.f29 (λ_=>cX ()) QcR λy a=>by
 unfold QcL;simp only[cG,Zai,db];exact a
def qV.pg {p:jW} (h:qV p):OK p:=⟨by have:=h.1;omega,by have:=h.2.1;omega,h.2.2.2.1⟩
def QkA (b:Ok dc):Ok τ:=okZ (V:=QcM) [RE,QZ,MO] Tryz.f96 (λ_=>cX ()) ⟨Qic b,QbU,QhB⟩ λy a=>by
 unfold QcM;simp only[dq,aj];have:=a.1;exact⟨a,⟨ω,ω⟩,qV.pg a,rfl,rfl⟩
def QkB (b:Ok dc):Ok υ:=okZ (V:=QcN) [τ,MQ] Tryz.f64 (λ_=>cX ()) ⟨QkA b,Qb0⟩ λy a=>by
 unfold QcN;simp only[dq];refine⟨a,?_⟩;have h:y.ah.length<=8:=a.2.1;show y.ah.length+0<=_
 omega
def QkC:Ok χ:=okZ (V:=QcO) [MZ] Tryz.f95 (λ_=>cX ()) Qce λy a=>by
 unfold QcO;simp only[dq];exact a
def QkD (a:Ok dc):Ok Uq:=okZ (V:=QcP) [υ,unC] Tryz.f30 (λ_=>cX ()) ⟨QkB a,Qew⟩ λy b=>by
 unfold QcP;simp only[dq,show bM y=_ from aq _];exact⟨b,rfl,rfl,rfl,rfl,rfl,rfl,rfl,rfl,rfl,rfl,rfl,rfl,rfl,rfl⟩
def QkE:Ok ψ:=okZ (V:=QcQ) [uhC,χ] Tryz.f62 (λ_=>cX ()) ⟨Qix,QkC⟩ λy a=>by
 unfold QcQ;simp only[dq];exact a
def RwD (d:iT) (p:Prop):Prop:=aa [d.a,d.b,d.c,d.d,d.n] p
def RwM (v:ig) (p:Prop):Prop:=aa [v.p.code] (aa [v.p.ah] (aa [v.place,ab v.L,ab v.s.pl,ab v.s.us] (aa [v.s.us] (aa [v.s.pl] (aa [v.L] p)))))
def RwU (v:ig) (p:Prop):Prop:=aa [v.p.code] (aa [v.p.ah] (aa [v.place,ab v.L,ab v.s.pl,ab v.s.us] (aa [v.s.pl] (aa [v.s.us] (aa [v.L] p)))))
def aT (s:gO) (p:Prop):Prop:=RwM s.v (RwD s.d p)
def ik (s:gO) (p:Prop):Prop:=RwD s.d (RwU s.v p)
def c_ (y:nW) (p:Prop):Prop:=aa [y.p.code] (aa [y.p.ah] (aa [y.q.code] (aa [y.q.ah] p)))
def cM (y:nW) (p:Prop):Prop:=aa [y.s.r] (aa [y.s.c] (c_ y (aa [ab y.t] (aa [y.t] p))))
def dD (y:nW) (p:Prop):Prop:=cM y (c_ y p)
def cD:(∀d p,RwD d p=p)/\(∀v p,RwM v p=p)/\(∀v p,RwU v p=p)/\(∀s p,aT s p=p)/\(∀s p,ik s p=p)/\(∀y p,c_ y p=p)/\(∀y p,cM y p=p)/\∀y p,dD y p=p:=by
 refine⟨λ_ _=>?_,λ_ _=>?_,λ_ _=>?_,λ_ _=>?_,λ_ _=>?_,λ_ _=>?_,λ_ _=>?_,λ_ _=>?_⟩<;>simp[RwD,RwM,RwU,aT,ik,c_,cM,dD]
structure aA where
 ru:nW
 pos:Int
 line:Int
 event:Int
 size:Int
 aE:Bool
 ends:List fP
 alt:gO
 ba:gO
 cur:gO
def oH (y:aA) (p:Prop):Prop:=aa [y.pos,y.line] (aa [y.aE] (aa [y.event,y.size] (aa [y.ends] p)))
def l9 (y:aA) (p:Prop):Prop:=aa [y.pos,y.line] (aa [y.aE] p)
def cb (y:aA) (p:Prop):l9 y p=p:=by simp[l9]
def cm (y:aA) (p:Prop):oH y p=p:=by simp[oH]
inductive aJ where
 | n | p | c | o | a
variable {s:gO}
def Lh (f:aJ):Bool:=match f with
 | .n=>false | .p=>false | _=>true
def sfO (f:aJ):Bool:=match f with
 | .n=>false | .c=>false | _=>true
def QsA (f:aJ) (b:Nat):AV D.E:=match f with
 | .o=>.ptr (b+14) 0 | .a=>.ptr b 0 | _=>.fD
def QsB (f:aJ) (b:Nat):AV D.E:=match f with
 | .n=>.fD | .p=>.fD | _=>.ptr (b+7) 0
def evA (f:aJ) (x:Int):AV D.E:=match f with
 | .n=>.num .i64 0 | .c=>.num .i64 0 | _=>.int .i64 x
def enA (f:aJ) (l:List fP):AV D.E:=match f with
 | .n=>.cF | .c=>.cF | _=>.list 2 l
def QkF (n:Nat) (f:aJ) (b:Nat) (y:aA):List (Nat×AO D.E):=(n,.cells [.ptr 0 0,.list 8 y.ru.p.code,.list 5 y.ru.p.ah,.list 8 y.ru.q.code,.list 5 y.ru.q.ah,.lit (Lh f),.int .i64 y.pos,.int .i64 y.line,.bool y.aE,.lit (sfO f),evA f y.event,evA f y.size,enA f y.ends,QsA f b,.ptr b 0,QsB f b] 94 false)::
 (Gc b (b+5) (b+6) y.alt++match f with
  | .n=>[] | .p=>[]
  | .o=>Gc (b+7) (b+12) (b+13) y.ba++Gc (b+14) (b+19) (b+20) y.cur
  | _=>Gc (b+7) (b+12) (b+13) y.ba)
def fc (f:aJ) (b:Nat) (y:aA):List (Nat×AO D.E):=Un y.ru++QkF 3 f b y
def gM:gO:=⟨L2,⟨⟨[],[]⟩,0,rE,⟨[],i_⟩⟩⟩
def QsC (x y:AV D.E):Bool:=match x with
 | .ptr b _=>match y with
  | .ptr c _=>Nat.beq b c
  | _=>false
 | _=>false
def sfK (f:aJ) (j o s:Bool):Bool:=match f with
 | .n=>Bool.and (!j) (!o) | .p=>Bool.and (!j) o | .c=>Bool.and j (!o) | .o=>Bool.and j (Bool.and o (!s)) | .a=>Bool.and j (Bool.and o s)
def Ur (f:aJ) (v:AV D.E) (s:St D.E):C aA:=match v with
 | .ptr b _=>av (cE (s.h.get b)) λx=>match x with
  | .cells cs _ _=>match cs with
   | [r,_,_,_,_,i,p,l,g,j,e,z,n,u,a,c]=>match i with
    | .lit d=>match j with
     | .lit ob=>bE (sfK f d ob (QsC u a)) (av (Qfi r s) λr=>aI (cT p) λ_ p=>aI (cT l) λ_ l=>aI (yR g) λg _=>aI (cT e) λ_ e=>aI (cT z) λ_ z=>av (rowsOf D s 2 n) λn=>av (ED a s) λa=>av (bif Lh f then ED c s else .ret gM) λc=>av (match f with
      | .o=>ED u s
      | _=>.ret gM) λu=>.ret ⟨r,p,l,e,z,g,n,a,c,u⟩) .fail
     | _=>.fail
    | _=>.fail
   | _=>.fail
  | _=>.fail
 | _=>.fail
def AZ (f:aJ) (a:List (AV D.E)) (s:St D.E):C aA:=match a with
 | [p]=>Ur f p s
 | _=>.fail
def Fl (f:aJ) (a:List (AV D.E)) (s:St D.E):C (aA×Int):=match a with
 | [p,n]=>av (Ur f p s) λy=>aI (cT n) λ_ n=>.ret (y,n)
 | _=>.fail
def Us (f:aJ) (y:aA):aA:=match f with
 | .n=>{ y with alt:=bA y.alt } | .p=>{ y with alt:=bA y.alt }
 | .a=>{ y with alt:=bA y.alt,ba:=bA y.ba,cur:=y.alt }
 | _=>{ y with alt:=bA y.alt,ba:=bA y.ba }
def sfB (f:aJ):aJ:=match f with
 | .a=>.o | f=>f
def lh (f:aJ) (y:aA):Prop:=tz y.alt/\(Lh f->tz y.ba)
def l_ (f:aJ):bf D:=⟨37,aA,AZ f,lh f,λ_=>[.ptr 3 0],fc f 4,λ_=>.tuple [],λy=>fc (sfB f) 25 (Us f y),25,46⟩
def QkG (y:(l_ .n).Y):Prop:=vc [H_] Tryz.f37 (l_ .n) (λ_=>cX ()) y
def QkH (y:(l_ .c).Y):Prop:=vc [H_] Tryz.f37 (l_ .c) (λ_=>cX ()) y
def QkI (y:(l_ .o).Y):Prop:=vc [H_] Tryz.f37 (l_ .o) (λ_=>cX ()) y
def QkJ (y:(l_ .a).Y):Prop:=vc [H_] Tryz.f37 (l_ .a) (λ_=>cX ()) y
def Α (f:aJ) (y:aA):aA:=Us f { y with line:=y.pos,aE:=false }
def ma (f:aJ):bf D:=⟨35,aA,AZ f,lh f,λ_=>[.ptr 3 0],fc f 4,λ_=>.tuple [],λy=>fc (sfB f) 25 (Α f y),25,46⟩
def QkK (y:(ma .n).Y):Prop:=vc [l_ .n] Tryz.f35 (ma .n) (λ_=>cX ()) y
def QkL (y:(ma .c).Y):Prop:=vc [l_ .c] Tryz.f35 (ma .c) (λ_=>cX ()) y
def QkM (y:(ma .o).Y):Prop:=vc [l_ .o] Tryz.f35 (ma .o) (λ_=>cX ()) y
def QkN (y:(ma .a).Y):Prop:=vc [l_ .a] Tryz.f35 (ma .a) (λ_=>cX ()) y
def Ut (e:Int) (l:fP) (i:Nat):Found:=⟨1,e,i,l.c0,l.c1,l.c2,l.c3,l.c4,l.c5,l.c6,l.c7,l.c8,l.c9⟩
def dQ (e:Int) (l:List fP):Nat->List Found
 | 0=>[]
 | k+1=>if (l.getD k KC).done=true then dQ e l k++[Ut e (l.getD k KC) k] else dQ e l k
def fo (e:Int) (l:List fP):List Found:=lk (dQ e l l.length)
def Qfo:Nat×AO D.E:=(25,.tok 4 44)
def sL (y:aA):Prop:=y.ends.length<=1000
def nY (f:aJ):bf D:=⟨70,aA,AZ f,sL,λ_=>[.ptr 3 0],fc f 4,λy=>.grow 4 (fo y.event y.ends) 25,λy=>fc f 4 y++[Qfo],25,26⟩
def kpN (f:aJ):List Nat:=match f with
 | .o=>List.range 25 | .n=>List.range 11 | .p=>List.range 11 | _=>List.range 18
def Uu (f:aJ) (y:(nY f).Y):cH D:=⟨[],[],[(58,⟨Nat,[0,9,10],λk=>[(3,.grow 4 (dQ (aA.event y) (aA.ends y) k) 25),(11,Qu9 k)],kpN f,λ_=>[Qfo],26,λk=>k<=(aA.ends y).length,λk=>(aA.ends y).length-k⟩)],[],1,[]⟩
def Β (y:(nY .p).Y):Prop:=vc [] Tryz.f70 (nY .p) (Uu .p) y
def Ε (y:(nY .o).Y):Prop:=vc [] Tryz.f70 (nY .o) (Uu .o) y
def sfS (f:aJ):aJ:=match f with
 | .n=>.n | .p=>.n | _=>.c
def lG (f:aJ):bf D:=⟨36,aA,AZ f,sL,λ_=>[.ptr 3 0],fc f 4,λy=>bif sfO f then .grow 4 (fo y.event y.ends) 25 else .cF,λy=>fc (sfS f) 4 y++bif sfO f then[Qfo] else[],25,26⟩
def QkO (y:(lG .n).Y):Prop:=vc [] Tryz.f36 (lG .n) (λ_=>cX ()) y
def QkP (y:(lG .p).Y):Prop:=vc [nY .p] Tryz.f36 (lG .p) (λ_=>cX ()) y
def QkQ (y:(lG .c).Y):Prop:=vc [] Tryz.f36 (lG .c) (λ_=>cX ()) y
def QkR (y:(lG .o).Y):Prop:=vc [nY .o] Tryz.f36 (lG .o) (λ_=>cX ()) y
def II (y:aA) (n:Int):Bool:=((gj y.ba).getD 0 KC).done&&decide (y.size+1+n<=500)
def goP (f:aJ) (y:aA×Int):Prop:=(sfO f->qu y.1.ba/\0<(gj y.1.ba).length)/\(sfO f->0<=y.1.size/\y.1.size<=1000)/\0<=y.2/\y.2<=1000
def NV (f:aJ):bf D:=⟨68,aA×Int,Fl f,goP f,λy=>[.ptr 3 0,Qu9 y.2],λy=>fc f 4 y.1,λy=>bif sfO f then .bool (II y.1 y.2) else .lit false,λy=>fc f 4 y.1,25,25⟩
def QsD (y:(NV .n).Y):Prop:=vc [zf] Tryz.f68 (NV .n) (λ_=>cX ()) y
def QsE (y:(NV .c).Y):Prop:=vc [zf] Tryz.f68 (NV .c) (λ_=>cX ()) y
def QsF (y:(NV .o).Y):Prop:=vc [zf] Tryz.f68 (NV .o) (λ_=>cX ()) y
def Uv (y:aA):Prop:=Iv (tz y.alt)/\aT y.alt (dD y.ru (l9 y (aT (bA y.alt) (True))))
def Uw:∀y,Uv y=QkG y:=λy=>by kernel_rfl
def Ux (y:aA):Prop:=Iv (tz y.alt)/\aT y.alt (Iv (tz y.ba)/\aT y.ba (dD y.ru (l9 y (aT (bA y.ba) (aT (bA y.alt) (True))))))
def Uy:∀y,Ux y=QkH y:=λy=>by kernel_rfl
def Uz (y:aA):Prop:=Iv (tz y.alt)/\aT y.alt (Iv (tz y.ba)/\aT y.ba (dD y.ru (oH y (aT (bA y.ba) (aT (bA y.alt) (aT y.cur (True)))))))
def UA:∀y,Uz y=QkI y:=λy=>by kernel_rfl
def UB (y:aA):Prop:=Iv (tz y.alt)/\aT y.alt (Iv (tz y.ba)/\aT y.ba (dD y.ru (oH y (aT (bA y.ba) (aT (bA y.alt) (aT y.alt (True)))))))
def UC:∀y,UB y=QkJ y:=λy=>by kernel_rfl
def UD (y:aA):Prop:=Iv (lh aJ.n (aA.mk y.ru y.pos y.pos 0 0 false [] y.alt gM gM))/\c_ y.ru (aa [y.pos,y.pos] (false=false/\aT y.alt (cM y.ru (dD y.ru (aa [y.pos,y.pos] (false=false/\aT (bA y.alt) (True)))))))
def UE:∀y,UD y=QkK y:=λy=>by kernel_rfl
def UF (y:aA):Prop:=Iv (lh aJ.c (aA.mk y.ru y.pos y.pos 0 0 false [] y.alt y.ba gM))/\c_ y.ru (aa [y.pos,y.pos] (false=false/\aT y.ba (aT y.alt (cM y.ru (dD y.ru (aa [y.pos,y.pos] (false=false/\aT (bA y.ba) (aT (bA y.alt) (True)))))))))
def UG:∀y,UF y=QkL y:=λy=>by kernel_rfl
def UH (y:aA):Prop:=let a:=λp:Prop=>aa [y.event,y.size] (aa [y.ends] p);Iv (lh aJ.o (aA.mk y.ru y.pos y.pos y.event y.size false y.ends y.alt y.ba y.cur))/\c_ y.ru (aa [y.pos,y.pos] (false=false/\a (aT y.ba (aT y.alt (aT y.cur (cM y.ru (dD y.ru (aa [y.pos,y.pos] (false=false/\a (aT (bA y.ba) (aT (bA y.alt) (aT y.cur (True)))))))))))))
def UI:∀y,UH y=QkM y:=λy=>by kernel_rfl
def UJ (y:aA):Prop:=let b:=λp:Prop=>aa [y.event,y.size] (aa [y.ends] p);Iv (lh aJ.a (aA.mk y.ru y.pos y.pos y.event y.size false y.ends y.alt y.ba gM))/\c_ y.ru (aa [y.pos,y.pos] (false=false/\b (aT y.ba (aT y.alt (cM y.ru (dD y.ru (aa [y.pos,y.pos] (false=false/\b (aT (bA y.ba) (aT (bA y.alt) (aT y.alt (True))))))))))))
def UK:∀y,UJ y=QkN y:=λy=>by kernel_rfl
def Fp (y:aA):Prop:=let b:=y.ends.length;let c:=ab y.ends;let e:=λp:Prop=>aa [y.ends] (aa [c] p);(∃z:Nat,e ([]=dQ y.event y.ends z/\0=(z:Int)/\dD y.ru (oH y (ik y.alt ((Iv (z<=b)))))))/\(∀x:Nat,let d:=dQ y.event y.ends x;let a:=gt (fP.mk false 0 0 0 0 0 0 0 0 0 0 []) y.ends (x:Int).toNat;let f:=aZ d [Found.mk 1 y.event (x:Int) a.c0 a.c1 a.c2 a.c3 a.c4 a.c5 a.c6 a.c7 a.c8 a.c9];(Iv (x<=b))->ag (ax (x:Int) c) (aC 0 (x:Int)/\ax (x:Int) c/\ag a.done (fits (ab f) 104/\aa [y.event,a.c0,a.c1,a.c2,a.c3,a.c4,a.c5,a.c6,a.c7,a.c8,a.c9] (∃z:Nat,e (f=dQ y.event y.ends z/\an .i64 (x:Int) 1=(z:Int)/\dD y.ru (oH y (ik y.alt ((Iv (z<=b/\(b-z)<(b-x))))))))) (∃z:Nat,e (d=dQ y.event y.ends z/\an .i64 (x:Int) 1=(z:Int)/\dD y.ru (oH y (ik y.alt ((Iv (z<=b/\(b-z)<(b-x))))))))) (d=fo y.event y.ends/\dD y.ru (oH y (ik y.alt (True)))))
def IJ:∀y,Fp y=Β y:=λy=>by kernel_rfl
def Fq (y:aA):Prop:=let b:=y.ends.length;let c:=ab y.ends;let e:=λp:Prop=>aa [y.ends] (aa [c] p);(∃z:Nat,e ([]=dQ y.event y.ends z/\0=(z:Int)/\dD y.ru (oH y (ik y.alt (ik y.ba (ik y.cur ((Iv (z<=b)))))))))/\(∀x:Nat,let d:=dQ y.event y.ends x;let a:=gt (fP.mk false 0 0 0 0 0 0 0 0 0 0 []) y.ends (x:Int).toNat;let f:=aZ d [Found.mk 1 y.event (x:Int) a.c0 a.c1 a.c2 a.c3 a.c4 a.c5 a.c6 a.c7 a.c8 a.c9];(Iv (x<=b))->ag (ax (x:Int) c) (aC 0 (x:Int)/\ax (x:Int) c/\ag a.done (fits (ab f) 104/\aa [y.event,a.c0,a.c1,a.c2,a.c3,a.c4,a.c5,a.c6,a.c7,a.c8,a.c9] (∃z:Nat,e (f=dQ y.event y.ends z/\an .i64 (x:Int) 1=(z:Int)/\dD y.ru (oH y (ik y.alt (ik y.ba (ik y.cur ((Iv (z<=b/\(b-z)<(b-x))))))))))) (∃z:Nat,e (d=dQ y.event y.ends z/\an .i64 (x:Int) 1=(z:Int)/\dD y.ru (oH y (ik y.alt (ik y.ba (ik y.cur ((Iv (z<=b/\(b-z)<(b-x))))))))))) (d=fo y.event y.ends/\dD y.ru (oH y (ik y.alt (ik y.ba (ik y.cur (True)))))))
def IK:∀y,Fq y=Ε y:=λy=>by kernel_rfl
def UL (y:aA):Prop:=
 dD y.ru (
  l9 y (
  ik y.alt (
  True)))
def UM:∀y,UL y=QkO y:=λy=>by kernel_rfl
def UN (y:aA):Prop:=let a:=fo y.event y.ends;Iv (sL (aA.mk y.ru y.pos y.line y.event y.size y.aE y.ends y.alt gM gM))/\c_ y.ru (oH y (aT y.alt (cM y.ru (aa [a] (dD y.ru (l9 y (ik y.alt (True))))))))
def UO:∀y,UN y=QkP y:=λy=>by kernel_rfl
def UP (y:aA):Prop:=
 dD y.ru (
  l9 y (
  ik y.alt (
  ik y.ba (
  True))))
def UQ:∀y,UP y=QkQ y:=λy=>by kernel_rfl
def UR (y:aA):Prop:=let a:=fo y.event y.ends;Iv (sL y)/\c_ y.ru (oH y (aT y.ba (aT y.alt (aT y.cur (cM y.ru (aa [a] (dD y.ru (l9 y (ik y.alt (ik y.ba (True)))))))))))
def US:∀y,UR y=QkR y:=λy=>by kernel_rfl
def QcS (y:aA×Int):Prop:=
 dD y.1.ru (
  l9 y.1 (
  ik y.1.alt (
  True)))
def Ζ:∀y,QcS y=QsD y:=λy=>by kernel_rfl
def QcT (y:aA×Int):Prop:=
 dD y.1.ru (
  l9 y.1 (
  ik y.1.alt (
  ik y.1.ba (
  True))))
def Η:∀y,QcT y=QsE y:=λy=>by kernel_rfl
def QcU (y:aA×Int):Prop:=Iv (qu y.1.ba)/\aT y.1.ba (Tt 1 (ax 0 (ab (gj y.1.ba))/\ag (gt (fP.mk false 0 0 0 0 0 0 0 0 0 0 []) (gj y.1.ba) 0).done (aC (an .i64 (an .i64 y.1.size 1) y.2) 500=II y.1 y.2/\dD y.1.ru (oH y.1 (ik y.1.alt (ik y.1.ba (ik y.1.cur (True)))))) (false=II y.1 y.2/\dD y.1.ru (oH y.1 (ik y.1.alt (ik y.1.ba (ik y.1.cur (True))))))))
def Ι:∀y,QcU y=QsF y:=λy=>by kernel_rfl
def UT:Ok (l_ .n):=okW Uw KR λ(y:aA) a=>by
 unfold Uv;simp only[cG,cD,cm,cb,Zai,db];exact a.1
def IL:Ok (l_ .c):=okW Uy KR λ(y:aA) a=>by
 unfold Ux;simp only[cG,cD,cm,cb,Zai,db];exact⟨a.1,a.2 rfl⟩
def Qfp:Ok (l_ .o):=okW UA KR λ(y:aA) a=>by
 unfold Uz;simp only[cG,cD,cm,cb,Zai,db];exact⟨a.1,a.2 rfl⟩
def Qfq:Ok (l_ .a):=okW UC KR λ(y:aA) b=>by
 unfold UB;simp only[cG,cD,cm,cb,Zai,db];exact⟨b.1,b.2 rfl⟩
def Qfr:Ok (ma .n):=okW UE UT λ(y:aA) a=>by
 unfold UD;simp only[cG,cD,cm,cb,Zai,db];exact⟨a.1,λh=>nomatch h⟩
def Qfs:Ok (ma .c):=okW UG IL λ(y:aA) a=>by
 unfold UF;simp only[cG,cD,cm,cb,Zai,db];exact a
def Qft:Ok (ma .o):=okW UI Qfp λ(y:aA) a=>by
 unfold UH;simp only[cG,cD,cm,cb,Zai,db];exact a
def UU:Ok (ma .a):=okW UK Qfq λ(y:aA) b=>by
 unfold UJ;simp only[cG,cD,cm,cb,Zai,db];exact b
theorem tM (e:Int) (l:List fP):∀k,(dQ e l k).length<=k
 | 0=>Zah _
 | k+1=>by
  have:=tM e l k;grind [dQ]
theorem NW (e:Int) (l:List fP) (x:Nat) (a:x<l.length) (hl:l.length<=1000):
  (gt KC l x).done->(fits (ab (aZ (dQ e l x) [Ut e (gt KC l x) x])) 104/\∃z:Nat,aZ (dQ e l x) [Ut e (gt KC l x) x]=dQ e l z/\an .i64 (x:Int) 1=(z:Int)/\z<=l.length/\l.length-z<l.length-x):=λh=>by
 have:=tM e l x;refine⟨?_,x+1,?_,aV ω ω,ω,ω⟩
 ·grind
 ·grind [dQ]
theorem NX (e:Int) (l:List fP) (x:Nat) (a:x<l.length) (hl:l.length<=1000) (h:(gt KC l x).done=false):∃z:Nat,dQ e l x=dQ e l z/\an .i64 (x:Int) 1=(z:Int)/\z<=l.length/\l.length-z<l.length-x:=by
 refine⟨x+1,?_,aV ω ω,ω,ω⟩;grind [dQ]
theorem Ft (y:aA) (b:y.ends.length<=1000):(∃z:Nat,([]:List Found)=dQ y.event y.ends z/\(0:Int)=(z:Int)/\z<=y.ends.length)/\∀x:Nat,x<=y.ends.length->
  (ax (x:Int) (ab y.ends)->aC 0 (x:Int)/\ax (x:Int) (ab y.ends)/\
   ((gt KC y.ends (x:Int).toNat).done->fits (ab (aZ (dQ y.event y.ends x) [Ut y.event (gt KC y.ends (x:Int).toNat) x])) 104/\∃z:Nat,aZ (dQ y.event y.ends x) [Ut y.event (gt KC y.ends (x:Int).toNat) x]=dQ y.event y.ends z/\an .i64 (x:Int) 1=(z:Int)/\z<=y.ends.length/\y.ends.length-z<y.ends.length-x)/\
   ((gt KC y.ends (x:Int).toNat).done=false->∃z:Nat,dQ y.event y.ends x=dQ y.event y.ends z/\an .i64 (x:Int) 1=(z:Int)/\z<=y.ends.length/\y.ends.length-z<y.ends.length-x))/\
  (ax (x:Int) (ab y.ends)=false->dQ y.event y.ends x=fo y.event y.ends):=by
 refine⟨⟨0,rfl,rfl,Zaj _⟩,λx c=>⟨λh=>?_,λh=>?_⟩⟩
 ·have a:x<y.ends.length:=by grind
  exact⟨dP.2 ω,h,NW y.event y.ends x a b,NX y.event y.ends x a b⟩
 ·have a:x=y.ends.length:=by grind
  rw[a];exact(aq _).symm
def UW:Ok (nY .p):=okW IJ trivial λ(y:aA) a=>by
 unfold Fp;simp only[Qbt,cD,cm,cb,db];exact Ft y a
def UX:Ok (nY .o):=okW IK trivial λ(y:aA) a=>by
 unfold Fq;simp only[Qbt,cD,cm,cb,db];exact Ft y a
def UY:Ok (lG .n):=okW UM trivial λ(y:aA) a=>by
 unfold UL;simp only[cG,cD,cm,cb,Zai,db]
def Qfu:Ok (lG .p):=okW UO UW λ(y:aA) a=>by
 unfold UN;simp only[cG,cD,cm,cb,Zai,db];exact a
def UZ:Ok (lG .c):=okW UQ trivial λ(y:aA) a=>by
 unfold UP;simp only[cG,cD,cm,cb,Zai,db]
def U0:Ok (lG .o):=okW US UX λ(y:aA) a=>by
 unfold UR;simp only[cG,cD,cm,cb,Zai,db];exact a
def QkT:Ok (NV .n):=okW Ζ tD λ(y:aA×Int) a=>by
 unfold QcS;simp only[cG,cD,cm,cb]
def QkU:Ok (NV .c):=okW Η tD λ(y:aA×Int) a=>by
 unfold QcT;simp only[cG,cD,cm,cb]
theorem QkV:Ok (NV .o):=okW Ι tD λ(y:aA×Int) a=>by
 obtain⟨h1,hs,d,e⟩:=a;obtain⟨b,c⟩:=hs rfl;obtain⟨f,g⟩:=h1 rfl;unfold QcU;simp only[Qbt,cD,cm,cb,db];grind [II]
def dE (s t:gO) (p:Prop):Prop:=s.v.p.code=t.v.p.code/\s.v.p.ah=t.v.p.ah/\s.v.place=t.v.place/\ab s.v.L=ab t.v.L/\ab s.v.s.pl=ab t.v.s.pl/\ab s.v.s.us=ab t.v.s.us/\s.v.s.us=t.v.s.us/\s.v.s.pl=t.v.s.pl/\s.v.L=t.v.L/\s.d.a=t.d.a/\s.d.b=t.d.b/\s.d.c=t.d.c/\s.d.d=t.d.d/\s.d.n=t.d.n/\p
def U1 {t:gO} {p:Prop} (h:s=t):dE s t p=p:=by subst h;simp[dE]
def Qfv (f:aJ) (y:aA):Prop:=qu y.alt/\(Lh f->qu y.ba/\0<(gj y.ba).length)/\(f=.o->qu y.cur/\y.ends.length<=1000/\0<=y.size/\y.size<=500)
def u_ (f:aJ) (y:aA):Prop:=Qfv f y/\0<=y.line/\y.line<=y.pos/\y.pos<=100000000/\(y.aE=false->y.pos-y.line<=200)
def NY (f:aJ) (y:aA×Int):Prop:=Qfv f y.1/\0<=y.2/\y.2<=200
def QkW (y:aA) (n:Int):aA:={ y with event:=y.line,size:=n,ends:=gj y.alt,alt:=iL y.alt 10 }
def Li:bf D:=⟨34,aA×Int,Fl .n,NY .n,λy=>[.ptr 3 0,Qu9 y.2],λy=>fc .n 4 y.1,λy=>.list 4 (fo y.1.line (gj y.1.alt)),λy=>fc .n 4 y.1,25,46⟩
def Fu:bf D:=⟨34,aA×Int,Fl .c,NY .c,λy=>[.ptr 3 0,Qu9 y.2],λy=>fc .c 4 y.1,λ_=>.cF,λy=>fc .a 25 (QkW y.1 y.2),25,46⟩
def QcV (k:aA->Int->Bool) (f:aJ) (a:List (AV D.E)) (s:St D.E):C ((aA×Int)×Bool):=av (Fl f a s) λy=>.split (k y.1 y.2) (.ret (y,true)) (.ret (y,false))
def yb (y:(aA×Int)×Bool):Prop:=NY .o y.1/\y.2=II y.1.1 y.1.2
def A0:bf D:=⟨34,(aA×Int)×Bool,QcV II .o,yb,λy=>[.ptr 3 0,Qu9 y.1.2],λy=>fc .o 4 y.1.1,
 λy=>match y.2 with
  | true=>.cF
  | false=>.list 4 (fo y.1.1.event y.1.1.ends),
 λy=>match y.2 with
  | true=>fc .o 25 { y.1.1 with ends:=gj y.1.1.cur,size:=y.1.1.size+(1+y.1.2),cur:=iL y.1.1.cur 10 }
  | false=>fc .a 25 (QkW y.1.1 y.1.2),25,46⟩
def Qfw (y:aA×Int):Prop:=vc [NV .o,lG .o,zf,xT] Tryz.f34 A0 (λ_=>cX ()) (y,true)
def Qfx (y:aA×Int):Prop:=vc [NV .o,lG .o,zf,xT] Tryz.f34 A0 (λ_=>cX ()) (y,false)
def U2 (y:aA×Int):Prop:=let a:=gj y.1.alt;let b:=fo y.1.line a;let c:=aA.mk y.1.ru y.1.pos y.1.line 0 0 y.1.aE [] y.1.alt gM gM;Iv (goP aJ.n (c,y.2))/\aa [y.2] (c_ y.1.ru (l9 y.1 (aT y.1.alt (cM y.1.ru (Iv (sL c)/\c_ y.1.ru (l9 y.1 (aT y.1.alt (cM y.1.ru (Iv (qu y.1.alt)/\aT y.1.alt (aa [y.1.line,y.1.line] (Iv (sL (aA.mk y.1.ru y.1.pos y.1.line y.1.line y.2 y.1.aE a y.1.alt gM gM))/\c_ y.1.ru (l9 y.1 (aa [y.1.line,y.2] (aa [a] (aT y.1.alt (cM y.1.ru (fits (ab b) 104/\aa [b] (dD y.1.ru (l9 y.1 (ik y.1.alt (True)))))))))))))))))))))
def U4 (y:aA×Int):Prop:=let a:=aA.mk y.1.ru y.1.pos y.1.line 0 0 y.1.aE [] y.1.alt y.1.ba gM;Iv (goP aJ.c (a,y.2))/\aa [y.2] (c_ y.1.ru (l9 y.1 (aT y.1.ba (aT y.1.alt (cM y.1.ru (Iv (sL a)/\c_ y.1.ru (l9 y.1 (aT y.1.ba (aT y.1.alt (cM y.1.ru (Iv (qu y.1.alt)/\aT y.1.alt (aa [y.1.line,y.1.line] (Iv (xS y.1.alt)/\aa ([10]:List Int) (aT y.1.alt (dD y.1.ru (l9 y.1 (aa [y.1.line,y.2] (aa [gj y.1.alt] (aT y.1.ba (aT (iL y.1.alt 10) (True)))))))))))))))))))))
def Cu (y:aA×Int):Prop:=Iv (goP aJ.o (y.1,y.2))/\aa [y.2] (c_ y.1.ru (oH y.1 (aT y.1.ba (aT y.1.alt (aT y.1.cur (cM y.1.ru (ag (II y.1 y.2) (Iv (qu y.1.cur)/\aT y.1.cur (Iv (xS y.1.cur)/\aa ([10]:List Int) (aT y.1.cur (dD y.1.ru (l9 y.1 (aa [y.1.event] (an .i64 y.1.size (an .i64 1 y.2)=(y.1.size+(1+y.2))/\aa [gj y.1.cur] (aT y.1.ba (aT y.1.alt (aT (iL y.1.cur 10) (True))))))))))) (Iv (sL y.1)/\c_ y.1.ru (oH y.1 (aT y.1.ba (aT y.1.alt (aT y.1.cur (cM y.1.ru (Iv (qu y.1.alt)/\aT y.1.alt (aa [y.1.line,y.1.line] (Iv (xS y.1.alt)/\aa ([10]:List Int) (aT y.1.alt (False))))))))))))))))))
def NZ:∀y,Cu y=Qfw y:=λy=>by kernel_rfl
def Cv (y:aA×Int):Prop:=let a:=gj y.1.alt;let b:=fo y.1.event y.1.ends;Iv (goP aJ.o (y.1,y.2))/\aa [y.2] (c_ y.1.ru (oH y.1 (aT y.1.ba (aT y.1.alt (aT y.1.cur (cM y.1.ru (ag (II y.1 y.2) (Iv (qu y.1.cur)/\aT y.1.cur (Iv (xS y.1.cur)/\aa ([10]:List Int) (aT y.1.cur ([]=b/\dD y.1.ru (l9 y.1 (y.1.event=y.1.line/\an .i64 y.1.size (an .i64 1 y.2)=y.2/\gj y.1.cur=a/\False)))))) (Iv (sL y.1)/\c_ y.1.ru (oH y.1 (aT y.1.ba (aT y.1.alt (aT y.1.cur (cM y.1.ru (Iv (qu y.1.alt)/\aT y.1.alt (aa [y.1.line,y.1.line] (Iv (xS y.1.alt)/\aa ([10]:List Int) (aT y.1.alt (aa [b] (dD y.1.ru (l9 y.1 (aa [y.1.line,y.2] (aa [a] (aT y.1.ba (aT (iL y.1.alt 10) (True)))))))))))))))))))))))))
def N0:∀y,Cv y=Qfx y:=λy=>by kernel_rfl
theorem IM {v:ig} {N:Int} {l:List Gt} (h:RX v N):∀x,x<=l.length->(mX v (l.take x)).p=v.p
 | 0,_=>by rfl
 | x+1,a=>by
  rw[tr (show x<l.length by omega)];exact((pW _ (nL (l:=l) h x ω).1 _).2.1).trans (IM h x ω)
theorem Fv (h:qu s):(gj s).length=s.v.L.length:=by
 have c:=h.1.2.2;have b:=EF c;have a:=nL b (l:=CZ (uoF (ec s.d)).n.toNat) _ (Zah _);have f:=IM b (l:=CZ (uoF (ec s.d)).n.toNat) _ (Zah _);rw[ZaM] at a f;have e:=(B7 a.1.1 (Ia s).L.length).2;have e2:(gj s).length=(Ia s).L.length:=e;have g:(Ia s).p.ah.length=(Ia s).L.length:=a.2.1;have i:(Ia s).p=s.v.p:=f;rw[e2,<-g,i];exact c.2.1
def Cw (h:qu s):(gj s).length<=1000:=by
 rw[Fv h];exact h.1.2.2.1.2.1
theorem tN (e:Int) (l:List fP):(fo e l).length<=l.length:=by
 grind [fo,aq,tM]
theorem Qfy:Ok Li:=okZ (V:=U2) [NV .n,lG .n,zf,lG .p] Tryz.f34 (λ_=>cX ()) ⟨QkT,UY,tD,Qfu⟩ λ(y:aA×Int) b=>by
 obtain⟨⟨a,_⟩,h1,c⟩:=b;unfold U2;simp only[cG,cD,cm,cb,Zai,db];have hl:=tN y.1.line (gj y.1.alt);have hs:=Cw a;exact⟨⟨nofun,⟨nofun,h1,ω⟩⟩,Zaj _,a,hs,aU.2 (by grind)⟩
def Qfz:Ok Fu:=okZ (V:=U4) [NV .c,lG .c,zf,xT] Tryz.f34 (λ_=>cX ()) ⟨QkU,UZ,tD,EE⟩ λ(y:aA×Int) b=>by
 obtain⟨⟨a,_⟩,h1,c⟩:=b;unfold U4;simp only[cG,cD,cm,cb,Zai,db];exact⟨⟨nofun,⟨nofun,h1,ω⟩⟩,Zaj _,a,a.1⟩
theorem QfA (y:aA×Int) (f:yb (y,true)):Cu y:=by
 obtain⟨⟨⟨i,g,h⟩,h1,c⟩,a⟩:=f;obtain⟨d,j,b,e⟩:=h rfl;have a:true=II y.1 y.2:=a;have c:y.2<=200:=c;have h1:0<=y.2:=h1;have b:0<=y.1.size:=b;have e:y.1.size<=500:=e;unfold Cu;simp only[Qbt,cD,cm,cb,db,<-a];exact⟨⟨λ_=>g rfl,λ_=>⟨b,by grind⟩,h1,ω⟩,λ_=>⟨d,d.1,by grind⟩,nofun⟩
theorem QfB (y:aA×Int) (f:yb (y,false)):Cv y:=by
 obtain⟨⟨⟨d,g,h⟩,h1,c⟩,a⟩:=f;obtain⟨j,i,b,e⟩:=h rfl;have a:false=II y.1 y.2:=a;have c:y.2<=200:=c;have h1:0<=y.2:=h1;have b:0<=y.1.size:=b;have e:y.1.size<=500:=e;unfold Cv;simp only[Qbt,cD,cm,cb,db,<-a];exact⟨⟨λ_=>g rfl,λ_=>⟨b,by grind⟩,h1,ω⟩,nofun,λ_=>⟨i,d,d.1⟩⟩
def QfC:Ok A0:=uR (k:=A0) id id (λ_=>rfl) NZ N0 ⟨QkV,U0,tD,EE⟩ QfA QfB
end
end sx
end Go.Proofs.YtadfknojfbmjgaaGreat
