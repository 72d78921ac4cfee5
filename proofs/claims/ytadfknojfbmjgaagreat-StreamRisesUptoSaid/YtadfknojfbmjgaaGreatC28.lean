/- StreamRises: a part of the proof. -/
import Derived.Test.YtadfknojfbmjgaaGreatC27
set_option linter.all false
namespace Go.Proofs.YtadfknojfbmjgaaGreat
set_option maxRecDepth 100000
set_option maxHeartbeats 4000000
namespace sx
noncomputable section
open Go Go.RowKit cls syn
variable {s:df} {l:List Tree} {a:List Int} {Z:df->df}
def VP (y:df×Tree):Prop:=let k:=ab (eu y).code;let l:=ab y.1.code;let v:=(bp y.1 (Ins.mk 6 0 0 [])).1;let w:=(bp y.1 (Ins.mk 5 0 0 [])).1;let g:=y.2.op;let c:=y.2.kids;let A:=iR .i64 2 y.2.cap;let C:=an .i64 A 1;let B:=(bp y.1 (Ins.mk 1 0 0 y.2.r)).1;let t:=(bp y.1 (Ins.mk 4 A 0 [])).1;let a:=gt (Tree.mk 0 [] 0 0 false 0 0 []) c 0;let d:=Tree.mk a.op a.r a.mn a.mx a.lz a.cap a.nk a.kids;let e:=eu (t,d);let m:=(bp e (Ins.mk 4 C 0 [])).1;let h:=Pp.mk y.1 (Nd.mk g y.2.r y.2.mn y.2.mx y.2.lz y.2.cap y.2.nk) d;let u:=λp:Prop=>aa [g] (aa [y.2.r] (aa [y.2.mn,y.2.mx] (aa [y.2.lz] (aa [y.2.cap,y.2.nk] (aa [c] p)))));let n:Prop:=(l=k/\y.1.bD=(eu y).bD/\y.1.code=(eu y).code/\True);ag y.1.bD (n) (ag (az g 2) (Iv (y.1.code.length<=400)/\aa ([1,0,0]:List Int) (aa [y.2.r] (aa [l] (aa [y.1.bD] (aa [y.1.code] (ab B.code=k/\B.bD=(eu y).bD/\B.code=(eu y).code/\True)))))) (ag (az g 3) ((∃z:df×Nat,0=(z.2:Int)/\u (l=ab z.1.code/\y.1.bD=z.1.bD/\y.1.code=z.1.code/\(Iv (z.2<=c.length/\Gw y.1 z.1/\ll (List.drop z.2 c) z.1=ll c y.1))))/\(∀x:df×Nat,let o:=ab x.1.code;let i:=(x.2:Int);let j:=c.length;let q:=ax i (ab c);let b:=gt (Tree.mk 0 [] 0 0 false 0 0 []) c i.toNat;let f:=Tree.mk b.op b.r b.mn b.mx b.lz b.cap b.nk b.kids;let s:Prop:=(o=k/\x.1.bD=(eu y).bD/\x.1.code=(eu y).code/\True);(Iv (x.2<=j/\Gw y.1 x.1/\ll (List.drop x.2 c) x.1=ll c y.1))->ag q (ag (!x.1.bD) (aC 0 i/\q/\Iv (CH (x.1,f)/\(2*cZ f)<(2*cZ y.2))/\aa [b.op] (aa [b.r] (aa [b.mn,b.mx] (aa [b.lz] (aa [b.cap,b.nk] (aa [b.kids] (aa [o] (aa [x.1.bD] (aa [x.1.code] (∃z:df×Nat,an .i64 i 1=(z.2:Int)/\u (ab (eu (x.1,f)).code=ab z.1.code/\(eu (x.1,f)).bD=z.1.bD/\(eu (x.1,f)).code=z.1.code/\(Iv ((z.2<=j/\Gw y.1 z.1/\ll (List.drop z.2 c) z.1=ll c y.1)/\(j-z.2)<(j-x.2)))))))))))))) (s)) (s))) (ag (az g 4) (Iv (QlJ (y.1,c)/\((2*uA c)+1)<(2*cZ y.2))/\aa [c] (aa [l] (aa [y.1.bD] (aa [y.1.code] (ab (yl (y.1,c)).code=k/\(yl (y.1,c)).bD=(eu y).bD/\(yl (y.1,c)).code=(eu y).code/\True))))) (ag (az g 5) (Tt 1 (ax 0 (ab c)/\Iv (QlK h/\((2*cZ d)+1)<(2*cZ y.2))/\aa [g] (aa [y.2.r] (aa [y.2.mn,y.2.mx] (aa [y.2.lz] (aa [y.2.cap,y.2.nk,a.op] (aa [a.r] (aa [a.mn,a.mx] (aa [a.lz] (aa [a.cap,a.nk] (aa [a.kids] (aa [l] (aa [y.1.bD] (aa [y.1.code] (aa [g] (aa [y.2.r] (aa [y.2.mn,y.2.mx] (aa [y.2.lz] (aa [y.2.cap,y.2.nk] (aa [c] (aa [a.op] (aa [a.r] (aa [a.mn,a.mx] (aa [a.lz] (aa [a.cap,a.nk] (aa [a.kids] (ab (pA h).code=k/\(pA h).bD=(eu y).bD/\(pA h).code=(eu y).code/\True))))))))))))))))))))))))))) (ag (az g 6) (Iv (y.1.code.length<=400)/\aa ([4,A,0]:List Int) (aa ([[]]:List (List (Int×Int))) (aa [l] (aa [y.1.bD] (aa [y.1.code] (Tt 1 (ax 0 (ab c)/\Iv (CH (t,d)/\(2*cZ d)<(2*cZ y.2))/\aa [a.op] (aa [a.r] (aa [a.mn,a.mx] (aa [a.lz] (aa [a.cap,a.nk] (aa [a.kids] (aa [ab t.code] (aa [t.bD] (aa [t.code] (Iv (e.code.length<=400)/\aa ([4,C,0]:List Int) (aa ([[]]:List (List (Int×Int))) (aa [ab e.code] (aa [e.bD] (aa [e.code] (ab m.code=k/\m.bD=(eu y).bD/\m.code=(eu y).code/\True))))))))))))))))))))) (ag (az g 7) (Iv (y.1.code.length<=400)/\aa ([5,0,0]:List Int) (aa ([[]]:List (List (Int×Int))) (aa [l] (aa [y.1.bD] (aa [y.1.code] (ab w.code=k/\w.bD=(eu y).bD/\w.code=(eu y).code/\True)))))) (ag (az g 8) (Iv (y.1.code.length<=400)/\aa ([6,0,0]:List Int) (aa ([[]]:List (List (Int×Int))) (aa [l] (aa [y.1.bD] (aa [y.1.code] (ab v.code=k/\v.bD=(eu y).bD/\v.code=(eu y).code/\True)))))) (n))))))))
def Qaw:∀y,VP y=Qtm y:=λy=>by kernel_rfl
def VQ (y:df×(List Tree)):Prop:=let D:=ab (yl y).code;let l:=(kn y).2;let A:=ab (kn y).1.code;((∃z:VN,aa [y.2] ([]=z.j/\0=((z.i:Nat):Int)/\ab y.1.code=ab z.s.code/\y.1.bD=z.s.bD/\y.1.code=z.s.code/\(Iv (VO y z))))/\(∀x:VN,let B:=ab x.s.code;let p:=((x.i:Nat):Int);let C:=ax p (ab y.2);let E:=az p (da .i64 (ab y.2) 1);let h:=bp x.s (Ins.mk 2 0 0 []);let w:=h.2.toNat;let a:=gt (Tree.mk 0 [] 0 0 false 0 0 []) y.2 p.toNat;let c:=Tree.mk a.op a.r a.mn a.mx a.lz a.cap a.nk a.kids;let f:=eu (h.1,c);let b:=bp f (Ins.mk 3 0 0 []);let d:=ab b.1.code;let m:=gt (Ins.mk 0 0 0 []) b.1.code w;let q:=cA b.1.code w (Ins.mk m.op (an .i64 h.2 1) m.y m.a_);let n:=gt (Ins.mk 0 0 0 []) q w;let t:Prop:=(∃z:Unit,x.j=l/\B=A/\x.s.bD=(kn y).1.bD/\x.s.code=(kn y).1.code/\(Iv True));(Iv (VO y x))->ag C (ag (!x.s.bD) (ag E (aC 0 p/\C/\Iv (CH (x.s,c)/\(2*cZ c)<((2*uA y.2)+1))/\aa [a.op] (aa [a.r] (aa [a.mn,a.mx] (aa [a.lz] (aa [a.cap,a.nk] (aa [a.kids] (aa [B] (aa [x.s.bD] (aa [x.s.code] (∃z:Unit,x.j=l/\ab (eu (x.s,c)).code=A/\(eu (x.s,c)).bD=(kn y).1.bD/\(eu (x.s,c)).code=(kn y).1.code/\(Iv True))))))))))) (Iv (x.s.code.length<=400)/\aa ([2,0,0]:List Int) (aa ([[]]:List (List (Int×Int))) (aa [B] (aa [x.s.bD] (aa [x.s.code] (aC 0 p/\C/\Iv (CH (h.1,c)/\(2*cZ c)<((2*uA y.2)+1))/\aa [a.op] (aa [a.r] (aa [a.mn,a.mx] (aa [a.lz] (aa [a.cap,a.nk] (aa [a.kids] (aa [ab h.1.code] (aa [h.1.bD] (aa [h.1.code] (Iv (f.code.length<=400)/\aa ([3,0,0]:List Int) (aa ([[]]:List (List (Int×Int))) (aa [ab f.code] (aa [f.bD] (aa [f.code] (fits (ab (aZ x.j [b.2])) 8/\ag (!b.1.bD) (aC 0 h.2/\ax h.2 d/\aC 0 h.2/\ax h.2 d/\aa [d,d,d] (∃z:VN,aa [y.2] (aZ x.j [b.2]=z.j/\an .i64 p 1=((z.i:Nat):Int)/\d=ab z.s.code/\b.1.bD=z.s.bD/\cA q w (Ins.mk n.op n.x d n.a_)=z.s.code/\(Iv (VO y z/\(y.2.length-z.i)<(y.2.length-x.i)))))) (∃z:VN,aa [y.2] (aZ x.j [b.2]=z.j/\an .i64 p 1=((z.i:Nat):Int)/\d=ab z.s.code/\b.1.bD=z.s.bD/\b.1.code=z.s.code/\(Iv (VO y z/\(y.2.length-z.i)<(y.2.length-x.i)))))))))))))))))))))))))) (t)) (t)))/\(∀x:Unit,(Iv True)->(∃z:Nat,aa [l] (0=(z:Int)/\A=ab (n9 y z).code/\(kn y).1.bD=(n9 y z).bD/\(kn y).1.code=(n9 y z).code/\(Iv (z<=l.length))))/\(∀x1:Nat,let e:=ab (n9 y x1).code;let k:=l.length;let u:=ax (x1:Int) (ab l);let g:=gt 0 l (x1:Int).toNat;let o:=gt (Ins.mk 0 0 0 []) (n9 y x1).code g.toNat;let v:Prop:=(e=D/\(n9 y x1).bD=(yl y).bD/\(n9 y x1).code=(yl y).code/\True);(Iv (x1<=k))->ag u (ag (!(n9 y x1).bD) (aC 0 (x1:Int)/\u/\aC 0 g/\ax g e/\aa [e,g,e] (∃z:Nat,aa [l] (an .i64 (x1:Int) 1=(z:Int)/\e=ab (n9 y z).code/\(n9 y x1).bD=(n9 y z).bD/\cA (n9 y x1).code g.toNat (Ins.mk o.op e o.y o.a_)=(n9 y z).code/\(Iv (z<=k/\(k-z)<(k-x1)))))) (v)) (v)))
def Qax:∀y,VQ y=Qtn y:=λy=>by kernel_rfl
def VS (y:Pp):Prop:=let H:=ab (ko y).code;let I:=ab (pA y).code;let q:=(iv y).2;let L:=ab (iv y).1.code;let g:=bp (ko y) (Ins.mk 2 0 0 []);let b:=Tree.mk y.k.op y.k.r y.k.mn y.k.mx y.k.lz y.k.cap y.k.nk y.k.kids;let F:=eu (g.1,b);let l:=(bp F (Ins.mk 3 g.2 0 [])).1;let G:=ab l.code;let M:=fx G y.n.lz l.code g.2;let t:=λp:Prop=>aa [y.n.op] (aa [y.n.r] (aa [y.n.mn,y.n.mx] (aa [y.n.lz] (aa [y.n.cap,y.n.kids] p))));let h:=λp:Prop=>aa [y.k.op] (aa [y.k.r] (aa [y.k.mn,y.k.mx] (aa [y.k.lz] (aa [y.k.cap,y.k.nk] (aa [y.k.kids] (aa [y.n.op] (aa [y.n.r] (aa [y.n.mn,y.n.mx] (aa [y.n.lz] (aa [y.n.cap,y.n.kids] p))))))))));Iv (Gg b)/\aa [y.k.op] (aa [y.k.r] (aa [y.k.mn,y.k.mx] (aa [y.k.lz] (aa [y.k.cap,y.k.nk] (aa [y.k.kids] (((∃z:df×Nat,aa [jX b] (0=(z.2:Int)/\h (ab y.c.code=ab z.1.code/\y.c.bD=z.1.bD/\y.c.code=z.1.code/\(Iv (crI y z)))))/\(∀x:df×Nat,let u:=ab x.1.code;let J:=ax (x.2:Int) y.n.mn;let o:Prop:=(∃z:Unit,h (u=H/\x.1.bD=(ko y).bD/\x.1.code=(ko y).code/\(Iv True)));(Iv (crI y x))->ag J (ag (!x.1.bD) (ag (!(jX b)) (Iv (CH (x.1,b)/\(2*cZ b)<((2*cZ y.k)+1))/\aa [y.k.op] (aa [y.k.r] (aa [y.k.mn,y.k.mx] (aa [y.k.lz] (aa [y.k.cap,y.k.nk] (aa [y.k.kids] (aa [u] (aa [x.1.bD] (aa [x.1.code] (∃z:df×Nat,aa [jX b] (an .i64 (x.2:Int) 1=(z.2:Int)/\h (ab (eu (x.1,b)).code=ab z.1.code/\(eu (x.1,b)).bD=z.1.bD/\(eu (x.1,b)).code=z.1.code/\(Iv (crI y z/\(y.n.mn.toNat-z.2)<(y.n.mn.toNat-x.2))))))))))))))) (o)) (o)) (o)))/\(∀x:Unit,(Iv True)->ag (az y.n.mx (-1)) (Iv ((ko y).code.length<=400)/\aa ([2,0,0]:List Int) (aa ([[]]:List (List (Int×Int))) (aa [H] (aa [(ko y).bD] (aa [(ko y).code] (Iv (CH (g.1,b)/\(2*cZ b)<((2*cZ y.k)+1))/\aa [y.k.op] (aa [y.k.r] (aa [y.k.mn,y.k.mx] (aa [y.k.lz] (aa [y.k.cap,y.k.nk] (aa [y.k.kids] (aa [ab g.1.code] (aa [g.1.bD] (aa [g.1.code] (Iv (F.code.length<=400)/\aa ([3,g.2,0]:List Int) (aa ([[]]:List (List (Int×Int))) (aa [ab F.code] (aa [F.bD] (aa [F.code] (ag (!l.bD) (Iv (l.code.length<=1000/\0<=g.2/\g.2<(l.code.length:Int))/\aa [g.2,G] (aa [y.n.lz] (aa [G] (aa [l.bD] (aa [l.code] (aa [G] (aa [y.n.lz] (ab M=I/\l.bD=(pA y).bD/\M=(pA y).code/\True)))))))) (G=I/\l.bD=(pA y).bD/\l.code=(pA y).code/\True))))))))))))))))))))) (((∃z:VN,[]=z.j/\y.n.mn=(y.n.mn+((z.i:Nat):Int))/\h (H=ab z.s.code/\(ko y).bD=z.s.bD/\(ko y).code=z.s.code/\(Iv (crJ y z))))/\(∀x1:VN,let v:=ab x1.s.code;let K:=ax (y.n.mn+((x1.i:Nat):Int)) y.n.mx;let a:=bp x1.s (Ins.mk 2 0 0 []);let w:=aZ x1.j [a.2];let A:Prop:=(∃z:Unit,x1.j=q/\t (v=L/\x1.s.bD=(iv y).1.bD/\x1.s.code=(iv y).1.code/\(Iv True)));(Iv (crJ y x1))->ag K (ag (!x1.s.bD) (Iv (x1.s.code.length<=400)/\aa ([2,0,0]:List Int) (aa ([[]]:List (List (Int×Int))) (aa [v] (aa [x1.s.bD] (aa [x1.s.code] (fits (ab w) 8/\Iv (CH (a.1,b)/\(2*cZ b)<((2*cZ y.k)+1))/\aa [y.k.op] (aa [y.k.r] (aa [y.k.mn,y.k.mx] (aa [y.k.lz] (aa [y.k.cap,y.k.nk] (aa [y.k.kids] (aa [ab a.1.code] (aa [a.1.bD] (aa [a.1.code] (∃z:VN,w=z.j/\an .i64 (y.n.mn+((x1.i:Nat):Int)) 1=(y.n.mn+((z.i:Nat):Int))/\h (ab (eu (a.1,b)).code=ab z.s.code/\(eu (a.1,b)).bD=z.s.bD/\(eu (a.1,b)).code=z.s.code/\(Iv (crJ y z/\(rq y-z.i)<(rq y-x1.i))))))))))))))))))) (A)) (A)))/\(∀x1:Unit,(Iv True)->(∃z:Nat,aa [q] (0=(z:Int)/\t (L=ab (oF y z).code/\(iv y).1.bD=(oF y z).bD/\(iv y).1.code=(oF y z).code/\(Iv (z<=q.length)))))/\(∀d:Nat,let e:=ab (oF y d).code;let B:=(oF y d).code.length;let m:=q.length;let C:=ax (d:Int) (ab q);let f:=gt 0 q (d:Int).toNat;let D:=fx e y.n.lz (oF y d).code f;let E:Prop:=(e=I/\(oF y d).bD=(pA y).bD/\(oF y d).code=(pA y).code/\True);(Iv (d<=m))->ag C (ag (!(oF y d).bD) (aC 0 (d:Int)/\C/\Iv (B<=1000/\0<=f/\f<(B:Int))/\aa [f,e] (aa [y.n.lz] (aa [e] (aa [(oF y d).bD] (aa [(oF y d).code] (aa [f,e] (aa [y.n.lz] (∃z:Nat,aa [q] (an .i64 (d:Int) 1=(z:Int)/\t (ab D=ab (oF y z).code/\(oF y d).bD=(oF y z).bD/\D=(oF y z).code/\(Iv (z<=m/\(m-z)<(m-d))))))))))))) (E)) (E)))))))))))
def Qay:∀y,VS y=Qtq y:=λy=>by kernel_rfl
theorem Qaz (h:s.bD):ll l s=s:=by
 cases l with
 | nil=>rw[ll]
 | cons t l=>rw[ll,Zac h]
theorem co3 {b:df} (h:s=b):(s.code.length:Int)=(b.code.length:Int)/\s.bD=b.bD/\s.code=b.code:=by grind
theorem LA (h:0<l.length) (s:df):OM l s=iW (l.getD 0 bn) s:=by
 cases l with
 | nil=>cases h
 | cons t l=>rw[OM];rfl
theorem Qtr (y:df×Tree) (G:Jm.pre y):VP y:=by
 obtain⟨s,t⟩:=y;obtain⟨h1,c⟩:s.code.length<=400/\Gg t:=G;have hk:=c.1.few;have wf:=(iM t).mp c.2;have eS:∀s t,eu (s,t)=iW t s:=λs t=>by grind [eu,aq]
 have eA:yl (s,t.kids)=dR (kZ (fS t.kids s []).1.code.length) (fS t.kids s []).1 (fS t.kids s []).2:=by
  grind [yl,n9,aq,kn]
 have A:∀n k,pA ⟨s,n,k⟩=yj (iW k) (jX k) n.mn n.mx n.lz s:=λn k=>by grind [pA,aq]
 have E:=sO t s;unfold VP;have D:∀(l:List Tree) n,gt (Tree.mk 0 [] 0 0 false 0 0 []) l n=l.getD n bn:=λ_ _=>rfl
 simp only[QaU,dq,aj,D,bG,Zad,eS,Zan,Zao];have Ud:∀x,x<t.kids.length->2*cZ (t.kids.getD x bn)<2*cZ t:=λx h=>by have:=gY h;omega
 refine⟨λb=>by grind,λb=>?_⟩;rw[Zaa (by grind)] at E;refine⟨λo=>⟨h1,by grind⟩,λo=>?_⟩;rw[Zaa o] at E;refine⟨λj=>?_,λj=>?_⟩
 ·rw[Zac j] at E;refine⟨⟨(s,0),rfl,rfl,rfl,rfl,Zaj _,Gw.refl s,rfl⟩,λx h=>?_⟩;obtain⟨u,i⟩:=x;obtain⟨i1,i2,i3⟩:=h;simp only at i1 i2 i3 ⊢;have bD:u.bD->(u.code.length:Int)=((iW t s).code.length:Int)/\u.bD=(iW t s).bD/\u.code=(iW t s).code:=λH=>by
   grind [Qaz]
  refine⟨λe=>⟨λv=>?_,λv=>bD v⟩,λe=>?_⟩
  ·have f:i<t.kids.length:=ω;have B:t.kids.drop i=t.kids.getD i bn::t.kids.drop (i+1):=by simp_all
   rw[B,ll,Zaa (by grind)] at i3;exact⟨ω,e,⟨⟨i2.max h1,c.Ud f⟩,Ud i f⟩,(iW (t.kids.getD i bn) u,i+1),bz ω,rfl,rfl,rfl,⟨f,i2.trans (lV _ _),i3⟩,show t.kids.length-(i+1)<t.kids.length-i by omega⟩
  ·grind [ll]
 ·rw[Zaa j] at E;refine⟨λm=>?_,λm=>?_⟩
  ·rw[Zac m] at E;rw[eA,<-E];refine⟨⟨⟨h1,b,hk,λk g=>?_⟩,by grind [xZ]⟩,rfl,rfl,rfl⟩;obtain⟨i,hi,rfl⟩:=Za3 g;have:=c.Ud hi;grind
  ·rw[Zaa m] at E;refine⟨λd=>?_,λd=>?_⟩
   ·rw[Zac d] at E;obtain⟨w,q,r,w4⟩:=wf.1.rep d;have a:0<t.kids.length:=by grind
    have F:jX (t.kids.getD 0 bn)=CE t.kids:=by grind [jX,aq,Lv]
    have C:(λs=>OM t.kids s)=iW (t.kids.getD 0 bn):=funext λs=>LA a s
    rw[C] at E;rw[A,F,<-E];exact⟨ω,⟨⟨h1,b,c.Ud a,q,r,w4⟩,by grind⟩,rfl,rfl,rfl⟩
   ·rw[Zaa d] at E;refine⟨λp=>?_,λp=>?_⟩
    ·rw[Zac p] at E;obtain⟨w,q,r⟩:=wf.1.uT p;simp only at w q r;have a:0<t.kids.length:=ω;rw[LA a] at E;have e8:iR .i64 2 t.cap=2*t.cap:=BX ω ω;have z:an .i64 (2*t.cap) 1=2*t.cap+1:=aV ω ω;rw[e8,z,<-E];have p1:=(eV s ⟨4,2*t.cap,0,[]⟩).1;exact⟨h1,ω,⟨⟨p1.max h1,c.Ud a⟩,Ud 0 a⟩,(lV _ _).max (p1.max h1),rfl,rfl,rfl⟩
    ·grind
theorem ym {g:List Ins->Int->List Ins} {k:Nat} (hk:k<a.length) (b:(dR g s (a.take k)).bD=false) (c:∀l j,(g l j).length=l.length):g (dR g s (a.take k)).code (a.getD k 0)=(dR g s (a.take (k+1))).code/\s.bD=false/\(dR g s (a.take (k+1))).bD=false:=by
 grind [dR,take_one]
theorem Qts (y:df×List Tree) (I:Od.pre y):VQ y:=by
 obtain⟨s,l⟩:=y;obtain⟨h1,L,M,D⟩:s.code.length<=400/\s.bD=false/\l.length<=1000000/\∀t∈l,Gg t:=I;have z:∀s t,eu (s,t)=iW t s:=λs t=>by grind [eu,aq]
 have B:kn (s,l)=fS l s []:=by grind [kn,aq]
 have A:∀j,n9 (s,l) j=dR (kZ (kn (s,l)).1.code.length) (kn (s,l)).1 ((kn (s,l)).2.take j):=λj=>by grind [n9,aq]
 have eS:yl (s,l)=n9 (s,l) (kn (s,l)).2.length:=by grind [yl,aq]
 obtain⟨K,a2,a3⟩:=yk l s [] (λ_ v c=>nomatch c);simp only[Zak,Za6] at a3;unfold VQ;have H:∀(l:List Tree) n,gt (Tree.mk 0 [] 0 0 false 0 0 []) l n=l.getD n bn:=λ_ _=>rfl
 have g:∀(l:List Int) n,gt 0 l n=l.getD n 0:=λ_ _=>rfl
 simp only[QaU,dq,aj,aO,aU,H,g,bG,Zad,z,eS,A,B,Zan,Zao,ZaY,ZaZ];have hw:∀x,x<l.length->Gg (l.getD x bn):=λx d=>D _ (by grind)
 have cI:∀x,x<l.length->2*cZ (l.getD x bn)<2*uA l+1:=λx d=>by have:=Cf d;omega
 refine⟨⟨⟨⟨s,[],0⟩,rfl,rfl,rfl,rfl,rfl,Zaj _,Gw.refl s,Zah _,rfl⟩,λx d=>?_⟩,⟨0,rfl,?_,?_,?_,Zaj _⟩,λj N=>?_⟩
 ·obtain⟨u,j,i⟩:=x;obtain⟨i1,i2,i3,i4⟩:=d;simp only at i1 i2 i3 i4 ⊢;have bD:u.bD->j=(fS l s []).2/\(u.code.length:Int)=((fS l s []).1.code.length:Int)/\u.bD=(fS l s []).1.bD/\u.code=(fS l s []).1.code:=λE=>by
   have:fS (l.drop i) u j=(u,j):=by
    cases l.drop i with
    | nil=>rw[fS]
    | cons t m=>rw[fS,Zac E]
   grind
  refine⟨λe=>⟨λw=>?_,λw=>bD w⟩,λe=>?_⟩
  ·have a:i<l.length:=ω;have G:l.drop i=l.getD i bn::l.drop (i+1):=by simp_all
   rw[G,fS,Zaa (by grind)] at i4;have k:=i2.max h1;refine⟨λel=>?_,λel=>?_⟩
   ·rw[xK ω ω] at el;rw[Zac (by grind)] at i4;rw[<-i4];exact⟨ω,e,⟨⟨k,hw i a⟩,cI i a⟩,rfl,rfl,rfl,rfl⟩
   ·rw[xK ω ω] at el;have ne:¬(l.drop (i+1)).isEmpty:=by
     grind [List.drop_eq_nil_iff]
    rw[Zaa ne] at i4;obtain⟨p1,p2⟩:=eV u ⟨2,0,0,[]⟩;have p:=lV (l.getD i bn) (bp u ⟨2,0,0,[]⟩).1;obtain⟨r,O⟩:=eV (iW (l.getD i bn) (bp u ⟨2,0,0,[]⟩).1) ⟨3,0,0,[]⟩;have m1:=p1.max k;have m2:=p.max m1;have b:=(Ly (lV (l.getD i bn)) u).1;unfold vg at i4 b;simp only at i4 b;refine⟨k,ω,e,⟨⟨m1,hw i a⟩,cI i a⟩,m2,by grind,λq=>?_,λq=>?_⟩
    ·obtain⟨P,J,Q⟩:=p2 (p.low (r.low q));have hl:(u.code.length:Int)<((bp (iW (l.getD i bn) (bp u ⟨2,0,0,[]⟩).1) ⟨3,0,0,[]⟩).1.code.length:Int):=by
      have:=r.len;have:=p.len;grind
     have f:lj (bp (iW (l.getD i bn) (bp u ⟨2,0,0,[]⟩).1) ⟨3,0,0,[]⟩).1 false (bp u ⟨2,0,0,[]⟩).2=⟨fx (bp (iW (l.getD i bn) (bp u ⟨2,0,0,[]⟩).1) ⟨3,0,0,[]⟩).1.code.length false (bp (iW (l.getD i bn) (bp u ⟨2,0,0,[]⟩).1) ⟨3,0,0,[]⟩).1.code (bp u ⟨2,0,0,[]⟩).2,false⟩:=by grind [lj]
     rw[f] at i4 b;rw[J] at i4 b ⊢;generalize (bp (iW (l.getD i bn) (bp u ⟨2,0,0,[]⟩).1) ⟨3,0,0,[]⟩)=Z at*
     have hi:u.code.length<Z.1.code.length:=ω;have C:an .i64 (u.code.length:Int) 1=(u.code.length:Int)+1:=aV ω ω;simp only[Zad,C];refine⟨ω,hl,ω,hl,⟨⟨fx Z.1.code.length false Z.1.code u.code.length,false⟩,j++[Z.2],i+1⟩,rfl,bz ω,by rw[ef],q,?_,⟨a,i2.trans b,by grind,i4⟩,show l.length-(i+1)<l.length-i by omega⟩;rw[Cn hi,tK];rfl
    ·have f:lj (bp (iW (l.getD i bn) (bp u ⟨2,0,0,[]⟩).1) ⟨3,0,0,[]⟩).1 false (bp u ⟨2,0,0,[]⟩).2=(bp (iW (l.getD i bn) (bp u ⟨2,0,0,[]⟩).1) ⟨3,0,0,[]⟩).1:=by grind [lj]
     rw[f] at i4 b;exact⟨⟨_,_,i+1⟩,rfl,bz ω,rfl,rfl,rfl,⟨a,i2.trans b,by grind,i4⟩,show l.length-(i+1)<l.length-i by omega⟩
  ·grind [fS]
 ·grind [fJ,iO]
 ·grind [fJ,iO]
 ·grind [dR]
 ·generalize fS l s []=R at*
  have F:=fJ (kZ (R.1.code.length:Nat)) (λl j=>iO _ _ _) R.1;have done:¬j<R.2.length\/(dR (kZ (R.1.code.length:Nat)) R.1 (R.2.take j)).bD->dR (kZ (R.1.code.length:Nat)) R.1 (R.2.take j)=dR (kZ (R.1.code.length:Nat)) R.1 (R.2.take R.2.length):=λh=>by
   grind [dR]
  refine⟨λe=>⟨λo=>?_,λo=>co3 (done (.inr o))⟩,λe=>co3 (done (.inl ω))⟩;have a:j<R.2.length:=ω;obtain⟨g1,g2,g3⟩:=ym a o (λl j=>iO _ _ _);have c:=a2 g2 (R.2.getD j 0) (by grind);rw[(F _).2.1];exact⟨ω,e,c.1,c.2,j+1,bz ω,by grind,by grind,g1,ω,ω⟩
theorem A4 {q:Bool} (h:s.bD\/q):∀n,z1 Z q n s=s
 | 0=>rfl
 | n+1=>by grind [z1]
theorem Of (h:s.bD):∀n,jY Z n s a=(s,a)
 | 0=>rfl
 | n+1=>by grind [jY]
theorem Qtt (y:Pp) (K:Oe.pre y):VS y:=by
 obtain⟨c,x,k⟩:=y;obtain⟨h1,O,g,P,Q,S⟩:c.code.length<=400/\c.bD=false/\Gg k/\0<=x.mn/\x.mn<=30/\(x.mx= -1\/(x.mn<=x.mx/\x.mx<=30)):=K;have J:∀s,eu (s,k)=iW k s:=λs=>by grind [eu,aq]
 have eA:ko ⟨c,x,k⟩=z1 (iW k) (jX k) x.mn.toNat c:=by grind [ko,aq]
 have N:rq ⟨c,x,k⟩=kY x.mn x.mx:=by grind [rq,aq]
 have w:iv ⟨c,x,k⟩=jY (iW k) (rq ⟨c,x,k⟩) (ko ⟨c,x,k⟩) []:=by grind [iv,aq]
 have t:∀j,oF ⟨c,x,k⟩ j=dR (fx (iv ⟨c,x,k⟩).1.code.length x.lz) (iv ⟨c,x,k⟩).1 ((iv ⟨c,x,k⟩).2.take j):=λj=>by unfold oF;rw[aq]
 have eS:pA ⟨c,x,k⟩=yj (iW k) (jX k) x.mn x.mx x.lz c:=by grind [pA,aq]
 have B:=vT (jX k) (lV k) x.mn.toNat c;obtain⟨o1,G,L⟩:=tP (lV k) (rq ⟨c,x,k⟩) (ko ⟨c,x,k⟩) [] (λ_ v D=>nomatch D);rw[<-eA] at B;rw[<-w] at o1 G L;have m:=B.max h1;unfold VS;have o:∀(l:List Int) n,gt 0 l n=l.getD n 0:=λ_ _=>rfl
 simp only[QaU,dq,aj,aO,aU,o,bG,Zad,J,t,Zan,Zao,ZaY,ZaZ];have cI:2*cZ k<2*cZ k+1:=ω;refine⟨g,⟨⟨(c,0),rfl,rfl,rfl,rfl,Zaj _,Gw.refl c,eA.symm⟩,λz hz=>?_⟩,λem=>?_,λem=>?_⟩
 ·obtain⟨u,i⟩:=z;obtain⟨i1,i2,i3⟩:=hz;simp only at i1 i2 i3 ⊢;have stop:u.bD\/jX k->(u.code.length:Int)=((ko ⟨c,x,k⟩).code.length:Int)/\u.bD=(ko ⟨c,x,k⟩).bD/\u.code=(ko ⟨c,x,k⟩).code:=λh=>by
   grind [A4]
  refine⟨λe=>⟨λf=>⟨λq=>?_,λq=>stop (.inr q)⟩,λf=>stop (.inl f)⟩,λe=>?_⟩
  ·rw[show x.mn.toNat-i=(x.mn.toNat-(i+1))+1 by omega,z1,Zaa (by grind)] at i3;exact⟨⟨⟨i2.max h1,g⟩,cI⟩,(iW k u,i+1),bz ω,rfl,rfl,rfl,⟨show i+1<=x.mn.toNat by omega,i2.trans (lV _ _),i3⟩,show x.mn.toNat-(i+1)<x.mn.toNat-i by omega⟩
  ·rw[show x.mn.toNat-i=0 by omega,z1] at i3;exact co3 i3
 ·have E:pA ⟨c,x,k⟩=A3 (iW k) x.lz (ko ⟨c,x,k⟩):=by grind [yj]
  unfold A3 at E;generalize ko ⟨c,x,k⟩=A at*
  obtain⟨p1,p2⟩:=eV A ⟨2,0,0,[]⟩;have d:=lV k (bp A ⟨2,0,0,[]⟩).1;obtain⟨r,W⟩:=eV (iW k (bp A ⟨2,0,0,[]⟩).1) ⟨3,(bp A ⟨2,0,0,[]⟩).2,0,[]⟩;have m1:=p1.max m;have m2:=d.max m1;have m3:=r.max m2;rw[E];refine⟨m,⟨⟨m1,g⟩,cI⟩,m2,λH=>?_,λH=>?_⟩
  ·obtain⟨X,Y,Z⟩:=p2 (d.low (r.low H));have:(bp A ⟨2,0,0,[]⟩).1.code.length=A.code.length+1:=by grind
   have:=r.len;have:=d.len;grind [lj]
  ·grind [lj]
 ·have E:pA ⟨c,x,k⟩=dR (fx (iv ⟨c,x,k⟩).1.code.length x.lz) (iv ⟨c,x,k⟩).1 (iv ⟨c,x,k⟩).2:=by grind [yj]
  have T:rq ⟨c,x,k⟩<=30/\x.mn+(rq ⟨c,x,k⟩:Nat)=x.mx:=by grind [kY]
  have C:∀z,crJ ⟨c,x,k⟩ z↔(z.i<=rq ⟨c,x,k⟩/\Gw (ko ⟨c,x,k⟩) z.s/\z.j.length<=z.i/\jY (iW k) (rq ⟨c,x,k⟩ -z.i) z.s z.j=iv ⟨c,x,k⟩):=λz=>ZbW
  simp only[C];rw[E];clear C E t eS;generalize rq ⟨c,x,k⟩=M at*
  generalize ko ⟨c,x,k⟩=A at*
  refine⟨⟨⟨⟨A,[],0⟩,rfl,by simp,rfl,rfl,rfl,Zaj _,Gw.refl A,Zah _,w.symm⟩,λz hz=>?_⟩,⟨0,rfl,?_,?_,?_,Zaj _⟩,λj U=>?_⟩
  ·obtain⟨u,j,i⟩:=z;obtain⟨i1,i2,i3,i4⟩:=hz;simp only at i1 i2 i3 i4 ⊢;have stop:∀n,jY (iW k) n u j=(u,j)->jY (iW k) n u j=iv ⟨c,x,k⟩->j=(iv ⟨c,x,k⟩).2/\(u.code.length:Int)=((iv ⟨c,x,k⟩).1.code.length:Int)/\u.bD=(iv ⟨c,x,k⟩).1.bD/\u.code=(iv ⟨c,x,k⟩).1.code:=λn a b=>by
    grind
   refine⟨λe=>⟨λf=>?_,λf=>stop _ (Of f _) i4⟩,λe=>?_⟩
   ·rw[show M-i=(M-(i+1))+1 by omega,jY,Zaa (by grind)] at i4;have p1:=(eV u ⟨2,0,0,[]⟩).1;have d:=lV k (bp u ⟨2,0,0,[]⟩).1;have mu:=i2.max m;refine⟨mu,by grind,⟨⟨p1.max mu,g⟩,cI⟩,⟨iW k (bp u ⟨2,0,0,[]⟩).1,j++[(bp u ⟨2,0,0,[]⟩).2],i+1⟩,rfl,?_,rfl,rfl,rfl,⟨show i+1<=M by omega,(i2.trans p1).trans d,by grind,i4⟩,show M-(i+1)<M-i by omega⟩;grind
   ·rw[show M-i=0 by omega] at i4;exact stop 0 rfl i4
  ·grind [fJ,ef]
  ·grind [fJ,ef]
  ·grind [dR]
  ·have V:=o1.max m;generalize iv ⟨c,x,k⟩=R at*
   have F:=fJ (fx (R.1.code.length:Nat) x.lz) (λl j=>ef _ _ _ _) R.1;have done:¬j<R.2.length\/(dR (fx (R.1.code.length:Nat) x.lz) R.1 (R.2.take j)).bD->dR (fx (R.1.code.length:Nat) x.lz) R.1 (R.2.take j)=dR (fx (R.1.code.length:Nat) x.lz) R.1 R.2:=λh=>by
    grind [dR]
   refine⟨λe=>⟨λp=>?_,λp=>co3 (done (.inr p))⟩,λe=>co3 (done (.inl ω))⟩;have I:j<R.2.length:=ω;obtain⟨g1,g2,g3⟩:=ym I p (λl j=>ef _ _ _ _);have D:=G g2 (R.2.getD j 0) (by grind);grind [bz]
inductive Fo where
 | n | a | r
noncomputable section
def foC:Fo->bf D
 | .n=>Jm | .a=>Od | .r=>Oe
def Qtu:∀i,(foC i).Y->Nat
 | .n=>λy=>2*cZ y.2 | .a=>λy=>2*uA y.2+1 | .r=>λy=>2*cZ y.k+1
def foF:Fo->Func
 | .n=>Tryz.f61 | .a=>Tryz.f92 | .r=>Tryz.f93
def QlP:Fo->vE
 | .n=>[zl] | .a=>[zl] | .r=>[zl,VL,FF]
def foO:∀i,(foC i).Y->cH D
 | .n=>QlL | .a=>QlM | .r=>QlO
def Qtv:∀i,Ok (foC i):=
 xl [.n,.a,.r] foC Qtu (fn:=foF) (tab:=QlP) (iX:=foO)
  (λi=>match i with
   | .n=>Lw | .a=>Lw | .r=>⟨Lw,QlG,QlF⟩)
  (λi=>match i with
   | .n=>by kernel_rfl | .a=>by kernel_rfl | .r=>by kernel_rfl)
  (λi=>match i with
   | .n=>by kernel_rfl | .a=>by kernel_rfl | .r=>by kernel_rfl)
  λi=>match i with
   | .n=>λy b=>Eq.mp (Qaw y) (Qtr y b) | .a=>λy b=>Eq.mp (Qax y) (Qts y b) | .r=>λy b=>Eq.mp (Qay y) (Qtt y b)
end
structure Fit (f:df->df) (g:Nat->List Ins) (sz:Nat):Prop where
 gw:∀s,Gw s (f s)
 len:∀b,(g b).length=sz
 ok:∀c:List Ins,c.length+sz<=400->f ⟨c,false⟩=⟨c++g c.length,false⟩
 no:∀c:List Ins,c.length<=400->400<c.length+sz->(f ⟨c,false⟩).bD=true
variable {Z:df->df} {g:Nat->List Ins} {a:Nat} {l:List Tree}
def Fit.bD (h:Fit Z g a) {s:df} (hs:s.bD):(Z s).bD:=(h.gw s).bD hs
theorem lW (i:Ins):Fit (λs=>(bp s i).1) (λ_=>[i]) 1:=by
 refine⟨λs=>(eV s i).1,λ_=>rfl,λc h=>?_,λc h a=>?_⟩
 ·grind [bp]
 ·grind [bp]
def Fit.then {d:df->df} {e:Nat->List Ins} {b:Nat} (h:Fit Z g a) (k:Fit d e b):Fit (λs=>d (Z s)) (λn=>g n++e (n+a)) (a+b):=by
 refine⟨λs=>(h.gw s).trans (k.gw _),λn=>by rw[Zab,h.len,k.len],λc i=>?_,λc h1 j=>?_⟩
 ·show d (Z ⟨c,false⟩)=_
  rw[h.ok c ω,k.ok _ (by rw[Zab,h.len];omega),Zab,h.len,ZaD]
 ·show(d (Z ⟨c,false⟩)).bD
  by_cases i:c.length+a<=400
  ·rw[h.ok c i];exact k.no _ (by rw[Zab,h.len];omega) (by rw[Zab,h.len];omega)
  ·exact k.bD (h.no c h1 ω)
theorem lq (s:df) (i:Ins) (c:List Ins) (h:s=⟨c,false⟩):(c.length<400->bp s i=(⟨c++[i],false⟩,(c.length:Int)))/\(400<=c.length->bp s i=(⟨c,true⟩,0)):=by
 grind [bp]
theorem yn (h:Fit Z g a) (lz:Bool) (J:Int->Ins) (c:List Ins) (e:c.length<=400):
  (c.length+(a+2)<=400->(bp (Z (bp ⟨c,false⟩ ⟨2,0,0,[]⟩).1) (J (bp ⟨c,false⟩ ⟨2,0,0,[]⟩).2))=(⟨c++⟨2,0,0,[]⟩::(g (c.length+1)++[J c.length]),false⟩,((c.length+1+a:Nat):Int))/\
   lj (bp (Z (bp ⟨c,false⟩ ⟨2,0,0,[]⟩).1) (J (bp ⟨c,false⟩ ⟨2,0,0,[]⟩).2)).1 lz (bp ⟨c,false⟩ ⟨2,0,0,[]⟩).2=⟨c++gU lz c.length (c.length+a+2)::(g (c.length+1)++[J c.length]),false⟩)/\
  (400<c.length+(a+2)->(bp (Z (bp ⟨c,false⟩ ⟨2,0,0,[]⟩).1) (J (bp ⟨c,false⟩ ⟨2,0,0,[]⟩).2)).1.bD/\(lj (bp (Z (bp ⟨c,false⟩ ⟨2,0,0,[]⟩).1) (J (bp ⟨c,false⟩ ⟨2,0,0,[]⟩).2)).1 lz (bp ⟨c,false⟩ ⟨2,0,0,[]⟩).2).bD):=by
 constructor
 ·intro d;have b:=(lq ⟨c,false⟩ ⟨2,0,0,[]⟩ c rfl).1 ω;rw[b];have sz:(c++[(⟨2,0,0,[]⟩:Ins)]).length=c.length+1:=by simp
  have e2:=h.ok (c++[⟨2,0,0,[]⟩]) ω;rw[sz] at e2;simp only[e2];have i:(c++[(⟨2,0,0,[]⟩:Ins)]++g (c.length+1)).length=c.length+1+a:=by rw[Zab,h.len,sz]
  grind [lq,lj,sJ,gU]
 ·intro d;have bD:(bp (Z (bp ⟨c,false⟩ ⟨2,0,0,[]⟩).1) (J (bp ⟨c,false⟩ ⟨2,0,0,[]⟩).2)).1.bD:=by
   by_cases h0:c.length<400
   ·rw[(lq ⟨c,false⟩ ⟨2,0,0,[]⟩ c rfl).1 h0];have sz:(c++[(⟨2,0,0,[]⟩:Ins)]).length=c.length+1:=by simp
    by_cases h1:c.length+1+a<=400
    ·simp only[h.ok (c++[⟨2,0,0,[]⟩]) ω];rw[(lq _ _ _ rfl).2 (by rw[Zab,h.len,sz];omega)]
    ·exact(eV _ _).1.bD (h.no _ ω ω)
   ·rw[(lq ⟨c,false⟩ ⟨2,0,0,[]⟩ c rfl).2 ω];exact(eV _ _).1.bD ((h.gw _).bD rfl)
  grind [CF]
def VT (h:Fit Z g a) (lz:Bool):Fit (A3 Z lz) (λb=>gU lz b (b+a+2)::(g (b+1)++[⟨3,(b:Nat),0,[]⟩])) (a+2):=by
 refine⟨λs=>Lx h.gw lz s,λb=>by simp[h.len],λc d=>?_,λc h1 sz=>?_⟩
 ·exact((yn h lz (λj=>⟨3,j,0,[]⟩) c ω).1 d).2
 ·exact((yn h lz (λj=>⟨3,j,0,[]⟩) c h1).2 sz).2
theorem LB (h:Fit Z g a) {q:Bool} (j:q=decide (a=0)):∀n,Fit (z1 Z q n) (gB g a n) (n*a)
 | 0=>⟨λs=>Gw.refl s,λb=>by simp[gB],λc sz=>by simp[z1,gB],λc h1 i=>ω⟩
 | n+1=>by
  have d:=LB h j n;refine⟨λs=>vT q h.gw _ s,λb=>pv h.len _ b,λc sz=>?_,λc h1 i=>?_⟩
  ·rw[ZaV] at sz;by_cases h0:a=0
   ·rw[A4 (.inr (by grind)),show gB g a (n+1) c.length=[] from Zap (by rw[pv h.len,h0];simp),Zaw]
   ·rw[z1,Zaa (by grind),h.ok c ω,d.ok _ (by rw[Zab,h.len];omega),gB,Zab,h.len,ZaD]
  ·rw[ZaV] at i;have h0:a≠0:=λe=>by grind
   rw[z1,Zaa (by grind)];by_cases sz:c.length+a<=400
   ·rw[h.ok c sz];exact d.no _ (by rw[Zab,h.len];omega) (by rw[Zab,h.len];omega)
   ·exact d.bD (h.no c h1 ω)
theorem CI (h:Fit Z g a):∀(n:Nat) (c:List Ins) (j:List Int),c.length<=400->
  (c.length+n*(a+1)<=400->jY Z n ⟨c,false⟩ j=(⟨c++eP (λ_=>⟨2,0,0,[]⟩) g a n c.length,false⟩,j++jo a n c.length))/\(400<c.length+n*(a+1)->(jY Z n ⟨c,false⟩ j).1.bD)
 | 0,c,j,b=>⟨λ_=>by simp[jY,eP,jo],λi=>ω⟩
 | n+1,c,j,b=>by
  have sz:(c++[(⟨2,0,0,[]⟩:Ins)]).length=c.length+1:=by simp
  rw[jY,Zaa (by simp),ZaV];by_cases h0:c.length<400
  ·rw[(lq ⟨c,false⟩ ⟨2,0,0,[]⟩ c rfl).1 h0];simp only;by_cases h1:c.length+1+a<=400
   ·rw[h.ok _ ω,sz];have k:(c++[(⟨2,0,0,[]⟩:Ins)]++g (c.length+1)).length=c.length+1+a:=by rw[Zab,h.len,sz]
    obtain⟨i1,i2⟩:=CI h n (c++[⟨2,0,0,[]⟩]++g (c.length+1)) (j++[(c.length:Int)]) ω;grind [eP,jo]
   ·refine⟨λd=>ω,λ_=>(tP h.gw n _ _ ?_).1.bD (h.no _ ω ω)⟩;intro e;rw[h.no _ ω ω] at e;cases e
  ·rw[(lq ⟨c,false⟩ ⟨2,0,0,[]⟩ c rfl).2 ω];simp only;refine⟨λd=>ω,λ_=>(tP h.gw n _ _ ?_).1.bD ((h.gw _).bD rfl)⟩;intro e;rw[(h.gw ⟨c,true⟩).bD rfl] at e;cases e
def VU (h:Fit Z g a) {q:Bool} (m:q=decide (a=0)) (mn mx:Int) (lz:Bool):
  Fit (yj Z q mn mx lz) (IB g a mn mx lz) (mn.toNat*a+(if mx= -1 then a+2 else kY mn mx*(a+1))):=by
 have d:=LB h m mn.toNat;unfold yj IB;by_cases sz:mx= -1
 ·simp only[sz,Zbv];exact d.then (VT h lz)
 ·simp only[sz,Za0];generalize kY mn mx=n;have hO:Fit (λs=>dR (fx (jY Z n s []).1.code.length lz) (jY Z n s []).1 (jY Z n s []).2) (λb=>eP (λi=>gU lz i (b+n*(a+1))) g a n b) (n*(a+1)):=by
   refine⟨λs=>?_,λb=>pw h.len _ b,λc k=>?_,λc h1 e=>?_⟩
   ·exact(tP h.gw n s [] (λ_ v o=>nomatch o)).1.trans (fJ _ (λl j=>ef _ _ _ _) _ _).1
   ·simp only[(CI h n c [] ω).1 k];unfold dR;rw[Zaa (by simp)];have p:(c++eP (λ_=>(⟨2,0,0,[]⟩:Ins)) g a n c.length).length=c.length+n*(a+1):=by rw[Zab,pw h.len]
    simp only[p,Zcb];rw[Cm h.len n c c.length rfl]
   ·rw[(fJ _ (λl j=>ef _ _ _ _) _ _).2.2];exact(CI h n c [] h1).2 e
  exact d.then hO
theorem QaA (h:∀t∈l,Fit (iW t) (bH t) (bd t)):∀(c:List Ins) (j:List Int),c.length<=400->
  (c.length+(aG l+2*(l.length-1))<=400->fS l ⟨c,false⟩ j=(⟨c++kk l c.length 0,false⟩,j++jm l.dropLast c.length))/\(400<c.length+(aG l+2*(l.length-1))->(fS l ⟨c,false⟩ j).1.bD):=by
 induction l with
 | nil=>exact λc j a=>⟨λ_=>by simp[fS,kk,jm],λf=>by grind [aG]⟩
 | cons t l d=>
  intro c j a;have ht:=h t (by simp);have d:=d λu hu=>h u (by grind)
  rw[fS,Zaa (by simp)];cases l with
  | nil=>
   rw[kk];simp only[List.isEmpty_nil,Zbv,aG,Zae,Zak,List.dropLast_singleton,jm,Zaw];exact⟨λb=>by rw[ht.ok c ω],λb=>ht.no c a ω⟩
  | cons u l=>
   rw[Zaa (by simp),kk,Zaa (by simp),aG,Zae,List.dropLast_cons₂,jm];obtain⟨k1,k2⟩:=yn ht false (λ_=>⟨3,0,0,[]⟩) c a;unfold vg;simp only at k1 k2 ⊢;by_cases hs:c.length+(bd t+2)<=400
   ·obtain⟨k3,k4⟩:=k1 hs;rw[k3] at k4 ⊢;rw[k4];have g:(c++gU false c.length (c.length+bd t+2)::(bH t (c.length+1)++[(⟨3,0,0,[]⟩:Ins)])).length=c.length+2+bd t:=by simp[ht.len];omega
    grind [gU]
   ·obtain⟨k3,k4⟩:=k2 ω;simp only[Zae];refine⟨λb=>ω,λ_=>(yk _ _ _ ?_).1.bD k4⟩;intro e;grind
theorem QaB (h:∀t∈l,Fit (iW t) (bH t) (bd t)):Fit (ll l) (a7 l) (aG l):=by
 induction l with
 | nil=>exact⟨λs=>CG _ s,λb=>by rfl,λc d=>by simp[ll,a7],λc h1 a=>by grind [aG]⟩
 | cons t l e=>
  have k:=(h t (by simp)).then (e λu hu=>h u (by grind));refine⟨λs=>CG _ s,λb=>by rw[a7,aG];exact k.len b,λc d=>?_,λc h1 a=>?_⟩
  ·rw[ll,Zaa (by simp),a7];rw[aG] at d;exact k.ok c d
  ·rw[ll,Zaa (by simp)];rw[aG] at a;exact k.no c h1 a
theorem LC (h:l.length=1):l=[l.getD 0 bn]:=by
 match l,h with
 | [k],_=>rfl
mutual
theorem FG:∀t:Tree,kz t->CD t=decide (bd t=0)
 | .mk op r mn mx lz cap nk ks,h=>by
  rw[kz] at h
  rw[CD,bd]
  unfold pq
  by_cases h1:op=1
  ·have h0:(ks.length:Int)=0:=h.1.none h1
   have:ks=[]:=Zap ω
   subst this
   subst h1
   simp[aG]
  ·rw[Zaa h1]
   by_cases h3:op=3
   ·rw[Zac h3,A5 ks h.2.2]
    simp[h3]
   ·rw[Zaa h3]
    by_cases h5:op=5
    ·obtain⟨w1,w2,w3,w4⟩:=h.1.rep h5
     simp only at w1 w2 w3 w4
     rw[Zac h5,A6 ks h.2.2 ω]
     subst h5
     simp only[show ¬((5:Int)=2\/(5:Int)=7\/(5:Int)=8) by decide,show ¬((5:Int)=4) by decide,show ¬((5:Int)=6) by decide,Za0,Zbv]
     by_cases m0:mx=0
     ·have:mn=0:=ω
      subst this;subst m0;simp
     ·rw[Zaa m0]
      by_cases m1:mx= -1
      ·rw[Zac m1]
       have:¬mn=mx:=ω
       simp[this]
      ·rw[Zaa m1]
       by_cases me:mn=mx
       ·obtain⟨k,hk⟩:∃k,mn.toNat=k+1:=⟨mn.toNat-1,ω⟩
        have hd:mx.toNat-mn.toNat=0:=ω
        rw[hd,hk]
        simp[me,Nat.mul_eq_zero]
       ·obtain⟨d,hd⟩:∃d,mx.toNat-mn.toNat=d+1:=⟨mx.toNat-mn.toNat-1,ω⟩
        rw[hd]
        simp[me]
    ·rw[Zaa h5]
     have:=h.1.op h1
     simp only at this
     rcases this with g | g | g | g | g | g | g
     ·simp[g]
     ·simp[g]
     ·simp[g]
     ·exact absurd g h3
     ·have:=h.1.alt g
      simp only at this
      simp[g]
      omega
     ·exact absurd g h5
     ·simp[g]
theorem A5:∀l:List Tree,mm l->qA l=decide (aG l=0)
 | [],_=>by simp[qA,aG]
 | t::l,h=>by
  rw[mm] at h
  rw[qA,aG,FG t h.1,A5 l h.2,ZaG]
  simp
theorem A6:∀l:List Tree,mm l->l.length=1->CE l=decide (aG l=0)
 | [t],h,_=>by
  rw[mm] at h
  rw[CE,aG,aG,FG t h.1]
  rfl
end
def mm.tail {t:Tree} {l:List Tree} (h:mm (t::l)):kz t/\mm l:=by assumption
mutual
theorem VV:∀t:Tree,kz t->Fit (iW t) (bH t) (bd t)
 | .mk op r mn mx lz cap nk ks,h=>by
  have hw:=(iM _).mp h
  have hk:∀t∈ks,Fit (iW t) (bH t) (bd t):=LD ks hw.2.2
  generalize ht:Tree.mk op r mn mx lz cap nk ks=t at*
  have eks:t.kids=ks:=by rw[<-ht];rfl
  rw[<-eks] at hk
  clear ht eks
  have key:∀{f:df->df} {g:Nat->List Ins},Fit f g (bd t)->(∀s,s.bD=false->iW t s=f s)->(∀b,bH t b=g b)->Fit (iW t) (bH t) (bd t):=λF e e2=>
   ⟨λs=>lV t s,λb=>by rw[e2,F.len],λc hc=>by rw[e _ rfl,e2,F.ok c hc],λc h1 h2=>by rw[e _ rfl,F.no c h1 h2]⟩
  have cI:=size_eq t
  unfold pq at cI
  have ns:∀{X:df->df} {s:df},s.bD=false->(if s.bD=true then s else X s)=X s:=λhb=>Zaa (by rw[hb];simp)
  by_cases h1:t.op=1
  ·have h0:(t.kids.length:Int)=0:=hw.1.none h1
   have hn:t.kids=[]:=Zap ω
   have s0:bd t=0:=by rw[cI,hn];simp[h1,aG]
   rw[s0] at key ⊢
   refine key (f:=id) (g:=λ_=>[]) ⟨λs=>Gw.refl s,λ_=>rfl,λc _=>by simp,λc h1 h2=>ω⟩ (λs hb=>?_) λb=>?_
   ·rw[sO,Zaa (by rw[hb];simp),Zaa ω,Zaa ω,Zaa ω,Zaa ω,Zaa ω,Zaa ω,Zaa ω];rfl
   ·rw[la,Zaa ω,Zaa ω,Zaa ω,Zaa ω,Zaa ω,Zaa ω,Zaa ω]
  ·rcases hw.1.op h1 with h2 | h2 | h2 | h2 | h2 | h2 | h2
   all_goals have h2:t.op=_:=h2
   ·rw[Zac ω] at cI
    rw[cI] at key ⊢
    exact key (lW ⟨1,0,0,t.r⟩) (λs hb=>by rw[sO,Zaa (by rw[hb];simp),Zac h2]) λb=>by rw[la,Zac h2]
   ·rw[Zac ω] at cI
    rw[cI] at key ⊢
    exact key (lW ⟨5,0,0,[]⟩) (λs hb=>by rw[sO,Zaa (by rw[hb];simp),Zaa ω,Zaa ω,Zaa ω,Zaa ω,Zaa ω,Zac h2]) λb=>by rw[la,Zaa ω,Zac h2]
   ·rw[Zac ω] at cI
    rw[cI] at key ⊢
    exact key (lW ⟨6,0,0,[]⟩) (λs hb=>by rw[sO,Zaa (by rw[hb];simp),Zaa ω,Zaa ω,Zaa ω,Zaa ω,Zaa ω,Zaa ω,Zac h2]) λb=>by rw[la,Zaa ω,Zaa ω,Zac h2]
   ·rw[Zaa ω,Zaa ω,Zaa ω,Zaa ω] at cI
    rw[cI] at key ⊢
    exact key (QaB hk) (λs hb=>by rw[sO,Zaa (by rw[hb];simp),Zaa ω,Zac h2]) λb=>by rw[la,Zaa ω,Zaa ω,Zaa ω,Zac h2]
   ·rw[Zaa ω,Zac h2] at cI
    rw[cI] at key ⊢
    have hA:=QaA hk
    have h0:1<=t.kids.length:=by have:=hw.1.alt h2;simp only at this;omega
    have hlast:t.kids=t.kids.dropLast++[t.kids.getD (t.kids.length-1) bn]:=by
     rw[Zcz]
     conv=>lhs;rw[<-ZaM (l:=t.kids),show t.kids.length=(t.kids.length-1)+1 by omega]
     rw[take_one bn ω]
    refine key (f:=λs=>dR (kZ (fS t.kids s []).1.code.length) (fS t.kids s []).1 (fS t.kids s []).2) (g:=λb=>kk t.kids b (b+aG t.kids+2*(t.kids.length-1))) ?_ (λs hb=>by rw[sO,Zaa (by rw[hb];simp),Zaa ω,Zaa ω,Zac h2]) λb=>by rw[la,Zaa ω,Zaa ω,Zaa ω,Zaa ω,Zac h2]
    refine⟨λs=>(yk t.kids s [] (λ_ v hv=>(nomatch hv))).1.trans (fJ _ (λl j=>iO _ _ _) _ _).1,λb=>lb _ _ _ hw.2.2,λc hc=>?_,λc h1 h2=>?_⟩
    ·simp only[(hA c [] ω).1 hc]
     unfold dR
     rw[Zaa (by simp)]
     have n1:(c++kk t.kids c.length 0).length=c.length+aG t.kids+2*(t.kids.length-1):=by rw[Zab,lb _ _ _ hw.2.2];omega
     simp only[n1,Zcb]
     congr 1
     conv=>lhs;rw[hlast,na]
     have:=Cl (e:=c.length+aG t.kids+2*(t.kids.length-1)) t.kids.dropLast c (bH (t.kids.getD (t.kids.length-1) bn) (c.length+(aG t.kids.dropLast+2*t.kids.dropLast.length))) c.length (by rw[Zcz];exact hw.2.2.take _) rfl
     rw[<-hlast,this]
     conv=>rhs;arg 2;arg 1;rw[hlast]
     rw[na]
    ·rw[(fJ _ (λl j=>iO _ _ _) _ _).2.2]
     exact(hA c [] h1).2 h2
   ·rw[Zaa ω,Zaa ω,Zaa ω,Zac h2] at cI
    obtain⟨w1,_⟩:=hw.1.rep h2
    simp only at w1
    have hks:=LC (l:=t.kids) ω
    have rB:aG t.kids=bd (t.kids.getD 0 bn):=by conv=>lhs;rw[hks,aG,aG,Zbn]
    have hcl:∀b,a7 t.kids b=bH (t.kids.getD 0 bn) b:=λb=>by conv=>lhs;rw[hks,a7,a7,Zaw]
    have hH:∀s,OM t.kids s=iW (t.kids.getD 0 bn) s:=λs=>LA ω s
    have hq:=A6 t.kids hw.2.2 ω
    have k0:=hk (t.kids.getD 0 bn) (by rw[bk ω];exact Zas _)
    rw[<-rB] at k0
    have e1:(λs=>OM t.kids s)=iW (t.kids.getD 0 bn):=funext hH
    have e2:(λb=>a7 t.kids b)=bH (t.kids.getD 0 bn):=funext hcl
    have F:=VU k0 hq t.mn t.mx t.lz
    have hs2:bd t=t.mn.toNat*aG t.kids+(if t.mx= -1 then aG t.kids+2 else kY t.mn t.mx*(aG t.kids+1)):=by
     rw[cI]
     split
     ·omega
     ·rfl
    rw[hs2] at key ⊢
    exact key F (λs hb=>by rw[sO,Zaa (by rw[hb];simp),Zaa ω,Zaa ω,Zaa ω,Zac h2,e1]) λb=>by rw[la,Zaa ω,Zaa ω,Zaa ω,Zaa ω,Zaa ω,Zac h2,e2]
   ·rw[Zaa ω,Zaa ω,Zac h2] at cI
    obtain⟨w1,_⟩:=hw.1.uT h2
    simp only at w1
    have hks:=LC (l:=t.kids) ω
    have rB:aG t.kids=bd (t.kids.getD 0 bn):=by conv=>lhs;rw[hks,aG,aG,Zbn]
    have hcl:∀b,a7 t.kids b=bH (t.kids.getD 0 bn) b:=λb=>by conv=>lhs;rw[hks,a7,a7,Zaw]
    have k0:=hk (t.kids.getD 0 bn) (by rw[bk ω];exact Zas _)
    rw[<-rB] at k0
    have F:=((lW ⟨4,2*t.cap,0,[]⟩).then k0).then (lW ⟨4,2*t.cap+1,0,[]⟩)
    rw[show 1+aG t.kids+1=bd t by rw[cI];omega] at F
    exact key F (λs hb=>by rw[sO,Zaa (by rw[hb];simp),Zaa ω,Zaa ω,Zaa ω,Zaa ω,Zac h2,LA ω]) λb=>by rw[la,Zaa ω,Zaa ω,Zaa ω,Zaa ω,Zaa ω,Zaa ω,Zac h2,hcl];simp
theorem LD:∀l:List Tree,mm l->∀t∈l,Fit (iW t) (bH t) (bd t)
 | [],_=>λt ht=>nomatch ht
 | t::l,h=>λu hu=>by
  rw[mm] at h
  rcases List.mem_cons.mp hu with e | e
  ·rw[e];exact VV t h.1
  ·exact LD l h.2 u e
end
def RdP (y:List Nd×Int):Prop:=0<=y.2/\y.1.length<=480/\∃t r,kz t/\y.1.drop y.2.toNat=ay t++r
def lu (y:List Nd×Int):Tree:=lk (bS (y.1.drop y.2.toNat)).1
def VW (y:List Nd×Int):Int:=lk (y.2+(ay (lu y)).length)
def Jn:bf D:=bZ 57 (List Nd×Int) (λa s=>match a with
 | [l,i]=>av (rowsOf D s 7 l) λl=>aI (cT i) λ_ i=>.ret ((l:List Nd),i)
 | _=>.fail) RdP (λy=>[.list 7 y.1,Qu9 y.2]) λy=>.tuple [.agg (D.aX 15 (lu y)),Qu9 (VW y)]
def Og (y:List Nd×Int) (k:Nat):Int:=lk (y.2+1+(au ((lu y).kids.take k)).length)
def Qtx (y:Jn.Y):cH D:=⟨[],[],[(122,⟨Nat,[0],λk=>[(1,Qu9 (Og y k)),(4,.ptr 0 0),(6,.ptr 1 0),(7,Qu9 k)],[],λk=>[ve 0 bn,(1,.cells [Qu9 (lu y).op,.list 6 (lu y).r,Qu9 (lu y).mn,Qu9 (lu y).mx,.bool (lu y).lz,Qu9 (lu y).cap,Qu9 (lu y).nk,.grow 15 ((lu y).kids.take k) 2] 147 false),tkO 2],3,λk=>k<=(lu y).kids.length,λk=>(lu y).kids.length-k⟩)],[],1,[]⟩
def Qty (y:Jn.Y):Prop:=vc [Jn.under (λy=>cZ (lu y)) (cZ (lu y))] Tryz.f57 Jn Qtx y
def Jo:bf D:=bZ 25 (List (List Nd)) Qke px (λy=>[.list 9 y]) λy=>.tuple [.agg [.list 8 (bI y).1.1,.list 5 (bI y).1.2],Qu9 (bI y).2.1,Qu9 (bI y).2.2]
structure DcX where
 c:List Ins
 s:List Int
 r:Nat
def QaC (y:List (List Nd)) (x:DcX):Prop:=x.r<=y.length/\y.length<=8/\x.c.length<=400/\x.s.length=x.r/\lf (y.drop x.r) x.r x.c x.s=bI y
def Qtz (y:Jo.Y):cH D:=⟨[],[],[(250,⟨DcX,[0],λx=>[(2,.ptr 0 0),(3,.num .i64 0),(4,.num .i64 0),(5,.ptr 1 0),(6,.ptr 2 0),(7,Qu9 x.r)],[],λx=>[(0,.cells [.cF,.cF] 74 false),(1,.cells [.own 3 4 (ab x.c),.bool false] 154 false),(2,.cells [.cF,.grow 5 x.s 4] 74 false),(3,.arr 8 x.c 128 false),uZ 4],5,QaC y,λx=>y.length-x.r⟩)],[],1,[]⟩
def VX (y:(List Nd)×Int):Prop:=let a:=lu y;let c:=a.kids;let d:=gt (Nd.mk 0 [] 0 0 false 0 0) y.1 y.2.toNat;let h:=λp:Prop=>aa ([0]:List Int) (aa ([[]]:List (List (Int×Int))) (aa ([0,0]:List Int) p));let i:=λp:Prop=>aa ([0,0]:List Int) (aa ([[]]:List (List Tree)) p);let j:=λp:Prop=>aa [a.op] (aa [a.r] (aa [a.mn,a.mx] (aa [a.lz] (aa [a.cap,a.nk] p))));aC 0 y.2/\ax y.2 (ab y.1)/\(∃z:Nat,aa [y.1] (an .i64 y.2 1=Og y z/\0=(z:Int)/\d.op=a.op/\d.r=a.r/\d.mn=a.mn/\d.mx=a.mx/\d.lz=a.lz/\d.cap=a.cap/\d.kids=a.nk/\[]=List.take z c/\h (false=false/\i ((Iv (z<=c.length))))))/\(∀x:Nat,let f:=Og y x;let b:=lu (y.1,f);let g:=c.length;let k:=ax (x:Int) a.nk;let e:=aZ (List.take x c) [Tree.mk b.op b.r b.mn b.mx b.lz b.cap b.nk b.kids];(Iv (x<=g))->ag k (Iv (RdP (y.1,f)/\cZ b<cZ a)/\aa [y.1] (aa [f] (fits (ab e) 96/\∃z:Nat,aa [y.1] (VW (y.1,f)=Og y z/\an .i64 (x:Int) 1=(z:Int)/\j (e=List.take z c/\h (false=false/\i ((Iv (z<=g/\(g-z)<(g-x)))))))))) (j (List.take x c=c/\f=VW y/\True)))
def QaD:∀y,VX y=Qty y:=λy=>by kernel_rfl
def VY (y:List (List Nd)):Prop:=let h:=(bI y).2.2;let i:=(bI y).2.1;ag (ax 8 (ab y)) ([]=(bI y).1.1/\[]=(bI y).1.2/\13=i/\8=h/\True) ((∃z:DcX,aa [y] (0=((z.r:Nat):Int)/\[]=z.s/\0=ab z.c/\false=false/\[]=z.c/\(Iv (QaC y z))))/\(∀x:DcX,let b:=((x.r:Nat):Int);let k:=aZ x.s [ab x.c];let e:=gt [] y b.toNat;let a:=lu (e,0);let j:=(bp (df.mk x.c false) (Ins.mk 4 0 0 [])).1;let f:=(j,Tree.mk a.op a.r a.mn a.mx a.lz a.cap a.nk a.kids);let l:=ab (eu f).code;let g:=(bp (eu f) (Ins.mk 4 1 0 [])).1;let d:=(bp g (Ins.mk 7 b 0 [])).1;(Iv (QaC y x))->ag (ax b (ab y)) (aC 0 b/\ax b (ab y)/\Iv (cn e)/\aa [e] (ag (!(cR e)) ([]=(bI y).1.1/\[]=(bI y).1.2/\1=i/\b=h/\True) (fits (ab k) 8/\aa [x.s] (aa [ab x.c] (aC 0 b/\ax b (ab y)/\Iv (RdP (e,0))/\aa [e] (aa ([0]:List Int) (Iv (x.c.length<=400)/\aa ([4,0,0]:List Int) (aa ([[]]:List (List (Int×Int))) (aa [ab x.c] (false=false/\aa [x.c] (Iv (CH f)/\aa [a.op] (aa [a.r] (aa [a.mn,a.mx] (aa [a.lz] (aa [a.cap,a.nk] (aa [a.kids] (aa [ab j.code] (aa [j.bD] (aa [j.code] (Iv ((eu f).code.length<=400)/\aa ([4,1,0]:List Int) (aa ([[]]:List (List (Int×Int))) (aa [l] (aa [(eu f).bD] (aa [(eu f).code] (Iv (g.code.length<=400)/\aa ([7,b,0]:List Int) (aa ([[]]:List (List (Int×Int))) (aa [ab g.code] (aa [g.bD] (aa [g.code] (ag d.bD ([]=(bI y).1.1/\[]=(bI y).1.2/\12=i/\b=h/\True) (∃z:DcX,aa [y] (an .i64 b 1=((z.r:Nat):Int)/\k=z.s/\ab d.code=ab z.c/\d.bD=false/\d.code=z.c/\(Iv (QaC y z/\(y.length-z.r)<(y.length-x.r))))))))))))))))))))))))))))))))))) (x.c=(bI y).1.1/\x.s=(bI y).1.2/\0=i/\0=h/\True)))
theorem CJ {l r:List Nd} {a:Nat} {t:Tree} (h:kz t) (e:l.drop a=ay t++r):lu (l,(a:Int))=t:=by
 grind [lu,kj]
theorem QtB (y:List Nd×Int) (s:Jn.pre y):VX y:=by
 obtain⟨l,i⟩:=y;obtain⟨h0,h1,t,r,m,d⟩:=s;obtain⟨a,rfl⟩:=Zau h0;simp only[Zad] at h1 d;have j:=CJ m d;have f:∀i t,lu (l,i)=t->VW (l,i)=i+(ay t).length:=λi t h=>by grind [VW,aq]
 have n:∀k,Og (l,(a:Int)) k=((fI t a k:Nat):Int):=λk=>by grind [Og,fI,aq]
 obtain⟨w,u,z⟩:=qg d;have wf:=(iM t).mp m;have q:=FC t.kids;have o:(ay t).length=(au t.kids).length+1:=by rw[bJ];simp
 unfold VX;have p:gt (Nd.mk 0 [] 0 0 false 0 0) l a=⟨t.op,t.r,t.mn,t.mx,t.lz,t.cap,t.kids.length⟩:=u;simp only[j,f _ _ j,n,Zad,p];simp only[dq,dP,gf,gG,aj,aO,aU,bG];refine⟨ω,ω,⟨0,by grind [kB],rfl,wf.2.1.symm,rfl,Zaj _⟩,λx v=>⟨λe=>?_,λe=>?_⟩⟩
 ·rw[wf.2.1] at e;have c:x<t.kids.length:=ω;have hk:=vO d c;have b:=wf.2.2.mem c;have g:=CJ (a:=fI t a x) b hk;rw[f _ _ g,g];refine⟨⟨⟨ω,h1,_,_,b,by assumption⟩,gY c⟩,?_,x+1,by grind [AY],bz ω,(take_one bn c).symm,ω,ω⟩;grind
 ·grind [fI]
def QlR:Ok Jn:=OJ (λy=>cZ (lu y)) QaD trivial QtB
theorem QaF {t:Tree} (h:kz t) (r:Nat):Fit (λs=>(bp (bp (iW t (bp s ⟨4,0,0,[]⟩).1) ⟨4,1,0,[]⟩).1 ⟨7,r,0,[]⟩).1) (qy t r) (bd t+3):=by
 have F:=(((lW ⟨4,0,0,[]⟩).then (VV t h)).then (lW ⟨4,1,0,[]⟩)).then (lW ⟨7,r,0,[]⟩);rw[show 1+bd t+1+1=bd t+3 by omega] at F;have:(λn=>[(⟨4,0,0,[]⟩:Ins)]++bH t (n+1)++[⟨4,1,0,[]⟩]++[⟨7,(r:Int),0,[]⟩])=qy t r:=funext λn=>by grind [qy]
 grind
theorem QtC (y:List (List Nd)) (o:Jo.pre y):VY y:=by
 obtain⟨h1,k⟩:y.length<=1000000/\∀l∈y,∀x∈l,iK x:=o;have f:bI y=Co y:=by grind [bI,aq]
 have j:∀s t,eu (s,t)=iW t s:=λs t=>by grind [eu,aq]
 unfold VY;simp only[QaU,dq,aj,dA,aU,Zad,aO,Zan,Zao,bG,j];unfold Co at f;refine⟨λe=>?_,λe=>?_⟩
 ·grind
 ·rw[Zaa ω] at f;refine⟨⟨⟨[],[],0⟩,rfl,rfl,rfl,rfl,Zaj _,ω,Zaj _,rfl,f.symm⟩,λx i=>?_⟩;obtain⟨c,s,r⟩:=x;obtain⟨i1,i2,i3,i4,i5⟩:=i;simp only at i1 i3 i4 i5 ⊢;refine⟨λe2=>?_,λe2=>?_⟩
  ·have w:r<y.length:=ω;have n:y.drop r=y.getD r []::y.drop (r+1):=by simp_all
   have b:cn (y.getD r []):=k _ (by grind);rw[n,lf] at i5;generalize y.getD r []=l at*
   refine⟨ω,e2,b,λh=>?_,λh=>?_⟩
   ·grind
   ·rw[Zaa (by grind)] at i5;obtain⟨t,d,z,v⟩:=jl h;have h0:l.drop 0=ay t++[]:=by grind
    have ht:nV l=t:=by
     grind [kj,nV]
    have m:lu (l,0)=t:=CJ (a:=0) d h0;rw[ht] at i5;rw[m];have hl:(ay t).length<=480:=by grind
    have hw:Gg t:=⟨⟨ω,λx i=>b x (by grind)⟩,d⟩;have F:=QaF d r;have p1:=(eV ⟨c,false⟩ ⟨4,0,0,[]⟩).1;have p:=lV t (bp ⟨c,false⟩ ⟨4,0,0,[]⟩).1;have q:=(eV (iW t (bp ⟨c,false⟩ ⟨4,0,0,[]⟩).1) ⟨4,1,0,[]⟩).1;have m1:=p1.max i3;have m2:=p.max m1;refine⟨by grind,ω,e2,⟨ZaQ _,v,t,[],d,h0⟩,i3,⟨m1,hw⟩,m2,q.max m2,λu=>?_,λu=>?_⟩
    ·by_cases g:c.length+(bd t+3)<=400
     ·have:=F.ok c g;grind
     ·grind
    ·by_cases g:c.length+(bd t+3)<=400
     ·have hk:=F.ok c g;rw[Zaa ω] at i5;rw[hk];refine⟨⟨c++qy t r c.length,s++[(c.length:Int)],r+1⟩,bz ω,rfl,rfl,rfl,rfl,⟨by assumption,i2,by simp only[Zab,F.len];omega,by simp[i4],i5⟩,by grind⟩
     ·have:=F.no c i3 ω;grind
  ·grind [lf]
def QlS:Ok Jo:=okZ [Nq,Jn,zl,Jm] Tryz.f25 Qtz ⟨Qcy xu,QlR,Lw,Qtv .n⟩ QtC
def QaG:bf D:=bZ 24 (List Nd) Zf ov (λy=>[.list 7 y]) λy=>.list 7 (lk (aN y))
def ruO (n:Nat) (y:b7) (l:LdR):Nat×AO D.E:=(n,.cells [.list 3 y.r,.str y.c,.list 8 l.code,.list 5 l.st,.list 8 l.cc,.list 5 l.cs,.bool (!seq y.c [])] 87 false)
def zm:bf D:=⟨12,b7×Bool,Cr l8,oA,λy=>[Ff y.1],λ_=>[],
 λy=>match y.2 with
  | true=>.tuple [.ptr 0 0,Qu9 0,Qu9 0]
  | false=>.tuple [.fD,Qu9 (bL y.1).err,Qu9 (bL y.1).at_],
 λy=>match y.2 with
  | true=>[ruO 0 y.1 (bL y.1)]
  | false=>[],0,1⟩
def dsO (y:b7):Nat×AO D.E:=(0,.cells [.list 3 y.r,.str y.c] 24 false)
def n' (y:b7) (x:List (List Nd)×Nat):Prop:=y.r.length<=8/\∃t,(∀k,jP t k=(y.r.take x.2).any λp=>decide (p.name=k))/\ya y ⟨t,x.1,x.2⟩
def tQ (y:b7):List Nd:=lk (if y.c≠[] then aN (bT y.c).1 else[])
def QlT (y:zm.Y):cH D:=⟨[],[],[(250,⟨List (List Nd)×Nat,[5],λx=>[(1,.ptr 0 0),(6,.grow 9 x.1 1),(7,Qu9 x.2)],[],λ_=>[dsO y.1,(1,.tok 9 77)],2,n' y.1,λx=>y.1.r.length-x.2⟩)],
 [(1023,⟨Unit,[5],λ_=>[(1,.ptr 0 0),(6,.list 9 (aW y.1).out),(13,.ptr 1 0),(14,.list 7 (tQ y.1))],[],λ_=>[dsO y.1,ruO 1 y.1 (Lg 0 0)],2,λ_=>(aW y.1).err=0/\y.1.r.length<=8/\(y.1.c≠[]->(bT y.1.c).2.1=0),λ_=>0⟩)],1,
 [(128154,⟨List (List Nd)×Nat,λx=>{ X:=Nat,aH:=[5,7],sl:=λk=>[(1,.ptr 0 0),(6,.grow 9 x.1 1),(8,.ptr 2 0),(9,Qu9 k)],kp:=[],pc:=λ_=>[dsO y.1,(1,.tok 9 77),(2,.cells [.str (y.1.r.getD x.2 ⟨[],[]⟩).name,.str (y.1.r.getD x.2 ⟨[],[]⟩).text] 53 false)],nx:=3,inv:=λk=>k<=x.2/\x.2<y.1.r.length/\n' y.1 x/\∀j,j<k->(y.1.r.getD j ⟨[],[]⟩).name≠(y.1.r.getD x.2 ⟨[],[]⟩).name,me:=λk=>x.2-k },none⟩)]⟩
def QlU (y:b7):Prop:=vc [NS,Ik,QaG,Jo] Tryz.f12 zm QlT (y,true)
def QlV (y:b7):Prop:=vc [NS,Ik,QaG,Jo] Tryz.f12 zm QlT (y,false)
end
end sx
end Go.Proofs.YtadfknojfbmjgaaGreat
